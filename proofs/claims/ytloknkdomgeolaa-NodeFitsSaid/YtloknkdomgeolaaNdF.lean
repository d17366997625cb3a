/- The walks of what the laws of nodes share: a node as the other one's; nodes that are light; what the document says. -/
import Derived.Test.YtloknkdomgeolaaNdE
namespace Go.Proofs.Ytloknkdomgeolaa.She
set_option linter.all false
open Go
set_option pp.maxSteps 600
set_option maxRecDepth 10000
set_option maxHeartbeats 4000000
theorem eq_entry (x y : En) (w : World) : (Op.equalIn 10000 87 (.agg ⟨enC x⟩) (.agg ⟨enC y⟩)).run Try.prog w = .ok (decide (x = y)) w := by
  obtain ⟨k, v, f⟩ := x
  obtain ⟨k', v', f'⟩ := y
  have hS : Try.prog.underlying 87 = some (.struct (Try.prog.fieldsOf 87)) := by kernel_rfl
  rw [show (10000 : Nat) = 9998 + 1 + 1 from rfl, run_equalIn_agg w (9998 + 1) 87 _ _ hS (by kernel_rfl)]
  simp only [Program.fieldsOf, Try.underlying87]
  simp [Op.eqFields, part, enC]
  simp only [run_equalIn_string w 9998 9 _ _ Try.underlying9, run_equalIn_int w 9998 3 .i64 .i64 _ _ Try.underlying3, Result.andThen_ok]
  have e : ∀ a b : List UInt8, ((⟨⟨a⟩⟩ : ByteArray).toList == (⟨⟨b⟩⟩ : ByteArray).toList) = decide (a = b) := fun a b => by
    rw [ByteArray.toList_eq, ByteArray.toList_eq]; exact beq_eq_decide a b
  rw [e, e]
  by_cases h1 : k = k' <;> by_cases h2 : v = v' <;> by_cases h3 : f = f' <;> simp [h1, h2, h3]

theorem agg_entry (x y : En) {k : Value → Prop} (h : k (.bool (!decide (x = y)))) : EvAgg S .neq 87 (.agg ⟨enC x⟩) (.agg ⟨enC y⟩) k := by
  refine .mk (.bool (!decide (x = y))) (fun ox oy w => ?_) (by rw [force_eq]; exact h)
  have h1 := run_eqGuard_agg (P := S.P) w .neq 87 ox oy ⟨enC x⟩ ⟨enC y⟩ (by kernel_rfl)
  have h2 := run_neq_struct (P := S.P) w 87 ⟨enC x⟩ ⟨enC y⟩
  have h3 := eq_entry x y w
  rw [Sem.run_bind, h1]
  simp only [Result.andThen_ok]
  rw [h2, show S.P = Try.prog from rfl, h3]
  rfl

theorem equal_spec (l m : List En) (ao bo : Option Addr) (n c n' c' : Nat) (hn : l.length = n) (hm : m.length = n') (hn2 : n ≤ 10000) (hm2 : n' ≤ 10000) :
    Spec Try.prog 61 [.slice ao n c, .slice bo n' c'] [.view ao 87 (entV l), .view bo 87 (entV m)] (fun v O => v = .bool (decide (l = m)) ∧ O = []) := by
  refine Spec.of_ev S_ok S_mixed Try.func61 rfl rfl ?_
  repeat ((conv => whnf); (first | refine nowA ?_ | refine numN ?_ | refine numI ?_ | refine EvVal.ofN ?_ | refine EvNew.mk fun _ => ?_ | refine EvLoad.mk _ rfl _ rfl ?_ | refine divA ?_))
  refine EvIf.br (brD (fun h => ?_) (fun h => ?_))
  · repeat ((conv => whnf); (first | refine nowA ?_ | refine numN ?_ | refine numI ?_ | refine EvVal.ofN ?_ | refine EvNew.mk fun _ => ?_ | refine EvLoad.mk _ rfl _ rfl ?_ | refine divA ?_))
    refine retA ⟨?_, rfl⟩
    rw [decide_eq_false (fun e => h (by rw [← hn, ← hm, e]))]; rfl
  have hnn : n = n' := by omega
  subst hnn
  repeat ((conv => whnf); (first | refine nowA ?_ | refine numN ?_ | refine numI ?_ | refine EvVal.ofN ?_ | refine EvNew.mk fun _ => ?_ | refine EvLoad.mk _ rfl _ rfl ?_ | refine divA ?_))
  refine EvLoop.mk (α := Nat) (fun i => i ≤ n ∧ l.take i = m.take i) (fun i => n - i) (fun i => [(13, .int .i64 i)]) (fun _ => [.view ao 87 (entV l), .view bo 87 (entV m)]) ?_ ?_
  · exact metA 0 ⟨Nat.zero_le _, by simp⟩
  rintro i ⟨hi, heq⟩
  repeat ((conv => whnf); (first | refine nowA ?_ | refine numN ?_ | refine numI ?_ | refine EvVal.ofN ?_ | refine EvNew.mk fun _ => ?_ | refine EvLoad.mk _ rfl _ rfl ?_ | refine divA ?_))
  refine EvIf.br (brD (fun hlt => ?_) (fun hge => ?_))
  · have hl : i < l.length := by omega
    have hm' : i < m.length := by omega
    repeat ((conv => whnf); (first | refine nowA ?_ | refine numN ?_ | refine numI ?_ | refine EvVal.ofN ?_ | refine EvNew.mk fun _ => ?_ | refine EvLoad.mk _ rfl _ rfl ?_ | refine divA ?_))
    refine EvDraw.mk (.group [0,1,2,3,4,5,6,7,8] .nil) (by kernel_rfl) ?_
    repeat ((conv => whnf); (first | refine nowA ?_ | refine numN ?_ | refine numI ?_ | refine EvVal.ofN ?_ | refine EvNew.mk fun _ => ?_ | refine EvLoad.mk _ rfl _ rfl ?_ | refine divA ?_))
    refine EvIdx.sl i rfl (by omega) (by rw [entV_length]; omega) ?_
    repeat ((conv => whnf); (first | refine nowA ?_ | refine numN ?_ | refine numI ?_ | refine EvVal.ofN ?_ | refine EvNew.mk fun _ => ?_ | refine EvLoad.mk _ rfl _ rfl ?_ | refine divA ?_))
    refine EvLoadN.mk (i * 3) rfl _ rfl (entV_get hl) ?_
    repeat ((conv => whnf); (first | refine nowA ?_ | refine numN ?_ | refine numI ?_ | refine EvVal.ofN ?_ | refine EvNew.mk fun _ => ?_ | refine EvLoad.mk _ rfl _ rfl ?_ | refine divA ?_))
    refine EvIdx.sl i rfl (by omega) (by rw [entV_length]; omega) ?_
    repeat ((conv => whnf); (first | refine nowA ?_ | refine numN ?_ | refine numI ?_ | refine EvVal.ofN ?_ | refine EvNew.mk fun _ => ?_ | refine EvLoad.mk _ rfl _ rfl ?_ | refine divA ?_))
    refine EvLoadN.mk (i * 3) rfl _ rfl (entV_get hm') ?_
    conv => whnf
    refine agg_entry (l.getD i d0) (m.getD i d0) ?_
    conv => whnf
    refine EvIf.br (EvBr.ndec _ _ rfl (fun h => ?_) (fun h => ?_))
    · repeat ((conv => whnf); (first | refine nowA ?_ | refine numN ?_ | refine numI ?_ | refine EvVal.ofN ?_ | refine EvNew.mk fun _ => ?_ | refine EvLoad.mk _ rfl _ rfl ?_ | refine divA ?_))
      refine retA ⟨?_, rfl⟩
      rw [decide_eq_false (fun e => h (by rw [e]))]; rfl
    · repeat ((conv => whnf); (first | refine nowA ?_ | refine numN ?_ | refine numI ?_ | refine EvVal.ofN ?_ | refine EvNew.mk fun _ => ?_ | refine EvLoad.mk _ rfl _ rfl ?_ | refine divA ?_))
      refine metA (i + 1) ⟨⟨by omega, ?_⟩, by omega⟩
      rw [take_succ_getD hl d0, take_succ_getD hm' d0, heq, h]
  · have e : i = n := by omega
    subst e
    repeat ((conv => whnf); (first | refine nowA ?_ | refine numN ?_ | refine numI ?_ | refine EvVal.ofN ?_ | refine EvNew.mk fun _ => ?_ | refine EvLoad.mk _ rfl _ rfl ?_ | refine divA ?_))
    refine retA ⟨?_, rfl⟩
    rw [show l.take i = l by rw [← hn, List.take_length], show m.take i = m by rw [← hm, List.take_length]] at heq
    rw [decide_eq_true heq]; rfl

theorem nsame_spec (leaf leaf' : Bool) (l m : List En) (ao bo : Option Addr) (n c n' c' : Nat) (hn : l.length = n) (hm : m.length = n') (hn2 : n ≤ 10000) (hm2 : n' ≤ 10000) :
    Spec Try.prog 53 [.agg #[.bool leaf, .slice ao n c], .agg #[.bool leaf', .slice bo n' c']] [.view ao 87 (entV l), .view bo 87 (entV m)] (fun v O => v = .bool (leaf == leaf' && decide (l = m)) ∧ O = []) := by
  refine Spec.of_ev S_ok S_mixed Try.func53 rfl rfl ?_
  refine EvNew.mk fun p => ?_
  refine EvNew.mk fun q => ?_
  cases leaf <;> cases leaf'
  case true.true | false.false =>
    repeat ((conv => whnf); (first | (first | refine nowA ?_ | refine numN ?_ | refine numI ?_ | refine EvVal.ofN ?_ | refine EvNew.mk fun _ => ?_ | refine EvLoad.mk _ rfl _ rfl ?_ | refine divA ?_) | refine loadNA ?_ | refine EvStore.lit ⟨rfl, by decide⟩ (by rfl) ?_))
    refine EvCut.direct ?_
    repeat ((conv => whnf); (first | (first | (first | refine nowA ?_ | refine numN ?_ | refine numI ?_ | refine EvVal.ofN ?_ | refine EvNew.mk fun _ => ?_ | refine EvLoad.mk _ rfl _ rfl ?_ | refine divA ?_) | refine loadNA ?_ | refine EvStore.lit ⟨rfl, by decide⟩ (by rfl) ?_) | (first | refine brT ?_ | refine brF ?_ | refine iteT ?_ | refine iteF ?_)))
    refine callA (equal_spec l m ao bo n c n' c' hn hm hn2 hm2) ?_
    rintro _ _ ⟨rfl, rfl⟩
    repeat ((conv => whnf); (first | (first | (first | refine nowA ?_ | refine numN ?_ | refine numI ?_ | refine EvVal.ofN ?_ | refine EvNew.mk fun _ => ?_ | refine EvLoad.mk _ rfl _ rfl ?_ | refine divA ?_) | refine loadNA ?_ | refine EvStore.lit ⟨rfl, by decide⟩ (by rfl) ?_) | (first | refine brT ?_ | refine brF ?_ | refine iteT ?_ | refine iteF ?_)))
    exact retA ⟨rfl, rfl⟩
  all_goals
    repeat ((conv => whnf); (first | (first | refine nowA ?_ | refine numN ?_ | refine numI ?_ | refine EvVal.ofN ?_ | refine EvNew.mk fun _ => ?_ | refine EvLoad.mk _ rfl _ rfl ?_ | refine divA ?_) | refine loadNA ?_ | refine EvStore.lit ⟨rfl, by decide⟩ (by rfl) ?_))
    refine EvCut.direct ?_
    repeat ((conv => whnf); (first | (first | (first | refine nowA ?_ | refine numN ?_ | refine numI ?_ | refine EvVal.ofN ?_ | refine EvNew.mk fun _ => ?_ | refine EvLoad.mk _ rfl _ rfl ?_ | refine divA ?_) | refine loadNA ?_ | refine EvStore.lit ⟨rfl, by decide⟩ (by rfl) ?_) | (first | refine brT ?_ | refine brF ?_ | refine iteT ?_ | refine iteF ?_)))
    exact retA ⟨rfl, rfl⟩


theorem of18_spec (leaf : Bool) (l : List En) (ao : Option Addr) (n c : Nat) (hn : l.length = n) (hn2 : n ≤ 10000) :
    Spec Try.prog 41 [.agg #[.bool leaf, .slice ao n c]] [.view ao 87 (entV l)]
      (fun v O => ∃ ao' c', n ≤ c' ∧ v = .agg #[.bool leaf, .slice ao' n c'] ∧ O = [.row ao' c' 70 3 (entV l)]) := by
  refine Spec.of_ev S_ok S_mixed Try.func41 rfl rfl ?_
  refine EvNew.mk fun p => ?_
  refine EvNew.mk fun q => ?_
  conv => whnf
  refine EvLoad.mk _ rfl _ rfl ?_
  refine EvNew.mk fun q3 => ?_
  repeat ((conv => whnf); (first | (first | refine nowA ?_ | refine numN ?_ | refine numI ?_ | refine EvVal.ofN ?_ | refine EvNew.mk fun _ => ?_ | refine EvLoad.mk _ rfl _ rfl ?_ | refine divA ?_) | refine loadNA ?_ | refine EvStore.lit ⟨rfl, by decide⟩ (by rfl) ?_))
  refine EvLoop.mk (α := Nat × Option Addr × Nat) (fun x => x.1 ≤ n ∧ x.1 ≤ x.2.2) (fun x => n - x.1) (fun x => [(4, .int .i64 x.1)])
    (fun x => [.blk q3 53 [.bool leaf, .slice x.2.1 x.1 x.2.2], .row x.2.1 x.2.2 70 3 (entV (l.take x.1)), .blk q 53 [.bool false, .slice none 0 0], .blk p 58 [.bool leaf, .slice ao n c], .view ao 87 (entV l)]) ?_ ?_
  · exact metA (0, none, 0) ⟨Nat.zero_le _, Nat.le_refl _⟩
  rintro ⟨i, ap, cp⟩ ⟨hi, hcp⟩
  dsimp only at hi hcp ⊢
  repeat ((conv => whnf); (first | (first | refine nowA ?_ | refine numN ?_ | refine numI ?_ | refine EvVal.ofN ?_ | refine EvNew.mk fun _ => ?_ | refine EvLoad.mk _ rfl _ rfl ?_ | refine divA ?_) | refine loadNA ?_ | refine EvStore.lit ⟨rfl, by decide⟩ (by rfl) ?_))
  refine EvIf.br (brD (fun hlt => ?_) (fun hge => ?_))
  · have hlt : i < l.length := by omega
    conv => whnf
    refine EvDraw.mk (.take 0 (.take 2 (.take 4 (.take 8 (.take 10 (.take 14 (.take 16 (.early [1,3,5,6,7,9,11,12,13,15,17,18,19,20] (.eff 21 (.eff 22 (.take 23 (.eff 24 .nil)))))))))))) (by kernel_rfl) ?_
    repeat ((conv => whnf); (first | (first | refine nowA ?_ | refine numN ?_ | refine numI ?_ | refine EvVal.ofN ?_ | refine EvNew.mk fun _ => ?_ | refine EvLoad.mk _ rfl _ rfl ?_ | refine divA ?_) | (first | refine brT ?_ | refine brF ?_ | refine iteT ?_ | refine iteF ?_)))
    refine EvIdx.sl i rfl (by omega) (by rw [entV_length]; omega) ?_
    repeat ((conv => whnf); (first | (first | refine nowA ?_ | refine numN ?_ | refine numI ?_ | refine EvVal.ofN ?_ | refine EvNew.mk fun _ => ?_ | refine EvLoad.mk _ rfl _ rfl ?_ | refine divA ?_) | (first | refine brT ?_ | refine brF ?_ | refine iteT ?_ | refine iteF ?_)))
    refine EvLoad.mk (i * 3) rfl (.string ⟨⟨(l.getD i d0).key⟩⟩) (entV_get0 hlt) ?_
    repeat ((conv => whnf); (first | (first | refine nowA ?_ | refine numN ?_ | refine numI ?_ | refine EvVal.ofN ?_ | refine EvNew.mk fun _ => ?_ | refine EvLoad.mk _ rfl _ rfl ?_ | refine divA ?_) | (first | refine brT ?_ | refine brF ?_ | refine iteT ?_ | refine iteF ?_)))
    refine EvIdx.sl i rfl (by omega) (by rw [entV_length]; omega) ?_
    repeat ((conv => whnf); (first | (first | refine nowA ?_ | refine numN ?_ | refine numI ?_ | refine EvVal.ofN ?_ | refine EvNew.mk fun _ => ?_ | refine EvLoad.mk _ rfl _ rfl ?_ | refine divA ?_) | (first | refine brT ?_ | refine brF ?_ | refine iteT ?_ | refine iteF ?_)))
    refine EvLoad.mk (i * 3 + 1) (by simp only [addO]; omega) (.string ⟨⟨(l.getD i d0).val⟩⟩) (entV_get1 hlt) ?_
    repeat ((conv => whnf); (first | (first | refine nowA ?_ | refine numN ?_ | refine numI ?_ | refine EvVal.ofN ?_ | refine EvNew.mk fun _ => ?_ | refine EvLoad.mk _ rfl _ rfl ?_ | refine divA ?_) | (first | refine brT ?_ | refine brF ?_ | refine iteT ?_ | refine iteF ?_)))
    refine EvIdx.sl i rfl (by omega) (by rw [entV_length]; omega) ?_
    repeat ((conv => whnf); (first | (first | refine nowA ?_ | refine numN ?_ | refine numI ?_ | refine EvVal.ofN ?_ | refine EvNew.mk fun _ => ?_ | refine EvLoad.mk _ rfl _ rfl ?_ | refine divA ?_) | (first | refine brT ?_ | refine brF ?_ | refine iteT ?_ | refine iteF ?_)))
    refine EvLoad.mk (i * 3 + 2) (by simp only [addO]; omega) (.int .i64 (l.getD i d0).far) (entV_get2 hlt) ?_
    repeat ((conv => whnf); (first | (first | refine nowA ?_ | refine numN ?_ | refine numI ?_ | refine EvVal.ofN ?_ | refine EvNew.mk fun _ => ?_ | refine EvLoad.mk _ rfl _ rfl ?_ | refine divA ?_) | refine loadNA ?_ | refine EvStore.lit ⟨rfl, by decide⟩ (by rfl) ?_))
    refine EvSrc.mk 1 (entV [l.getD i d0]) (src_sl S_ok rfl rfl (by decide) 1 1 _ rfl (by simp) rfl) ?_
    refine EvApp.own ⟨rfl, rfl, rfl, by decide⟩ (by rw [entV_length]; simp; omega) (allOne_entV _) (by omega) (i + 1) rfl ?_
    intro ao' cap' hcap'
    rw [← entV_append, ← take_succ_getD hlt d0]
    repeat ((conv => whnf); (first | (first | refine nowA ?_ | refine numN ?_ | refine numI ?_ | refine EvVal.ofN ?_ | refine EvNew.mk fun _ => ?_ | refine EvLoad.mk _ rfl _ rfl ?_ | refine divA ?_) | refine loadNA ?_ | refine EvStore.lit ⟨rfl, by decide⟩ (by rfl) ?_))
    exact metA (i + 1, ao', cap') ⟨⟨by dsimp only; omega, hcap'⟩, by dsimp only; omega⟩
  · have e : i = n := by omega
    subst e
    rw [show l.take i = l by rw [← hn, List.take_length]]
    repeat ((conv => whnf); (first | (first | refine nowA ?_ | refine numN ?_ | refine numI ?_ | refine EvVal.ofN ?_ | refine EvNew.mk fun _ => ?_ | refine EvLoad.mk _ rfl _ rfl ?_ | refine divA ?_) | refine loadNA ?_ | refine EvStore.lit ⟨rfl, by decide⟩ (by rfl) ?_))
    exact retA ⟨ap, cp, hcp, rfl, rfl⟩

theorem to18_spec (leaf : Bool) (l : List En) (ao : Option Addr) (n c : Nat) (hn : l.length = n) (hn2 : n ≤ 10000) :
    Spec Try.prog 36 [.agg #[.bool leaf, .slice ao n c]] [.view ao 70 (entV l)]
      (fun v O => ∃ ao' c', n ≤ c' ∧ v = .agg #[.bool leaf, .slice ao' n c'] ∧ O = [.row ao' c' 87 3 (entV l)]) := by
  refine Spec.of_ev S_ok S_mixed Try.func36 rfl rfl ?_
  refine EvNew.mk fun p => ?_
  refine EvNew.mk fun q => ?_
  conv => whnf
  refine EvLoad.mk _ rfl _ rfl ?_
  refine EvNew.mk fun q3 => ?_
  repeat ((conv => whnf); (first | (first | refine nowA ?_ | refine numN ?_ | refine numI ?_ | refine EvVal.ofN ?_ | refine EvNew.mk fun _ => ?_ | refine EvLoad.mk _ rfl _ rfl ?_ | refine divA ?_) | refine loadNA ?_ | refine EvStore.lit ⟨rfl, by decide⟩ (by rfl) ?_))
  refine EvLoop.mk (α := Nat × Option Addr × Nat) (fun x => x.1 ≤ n ∧ x.1 ≤ x.2.2) (fun x => n - x.1) (fun x => [(4, .int .i64 x.1)])
    (fun x => [.blk q3 58 [.bool leaf, .slice x.2.1 x.1 x.2.2], .row x.2.1 x.2.2 87 3 (entV (l.take x.1)), .blk q 58 [.bool false, .slice none 0 0], .blk p 53 [.bool leaf, .slice ao n c], .view ao 70 (entV l)]) ?_ ?_
  · exact metA (0, none, 0) ⟨Nat.zero_le _, Nat.le_refl _⟩
  rintro ⟨i, ap, cp⟩ ⟨hi, hcp⟩
  dsimp only at hi hcp ⊢
  repeat ((conv => whnf); (first | (first | refine nowA ?_ | refine numN ?_ | refine numI ?_ | refine EvVal.ofN ?_ | refine EvNew.mk fun _ => ?_ | refine EvLoad.mk _ rfl _ rfl ?_ | refine divA ?_) | refine loadNA ?_ | refine EvStore.lit ⟨rfl, by decide⟩ (by rfl) ?_))
  refine EvIf.br (brD (fun hlt => ?_) (fun hge => ?_))
  · have hlt : i < l.length := by omega
    conv => whnf
    refine EvDraw.mk (.take 0 (.take 2 (.take 4 (.take 8 (.take 10 (.take 14 (.take 16 (.early [1,3,5,6,7,9,11,12,13,15,17,18,19,20] (.eff 21 (.eff 22 (.take 23 (.eff 24 .nil)))))))))))) (by kernel_rfl) ?_
    repeat ((conv => whnf); (first | (first | refine nowA ?_ | refine numN ?_ | refine numI ?_ | refine EvVal.ofN ?_ | refine EvNew.mk fun _ => ?_ | refine EvLoad.mk _ rfl _ rfl ?_ | refine divA ?_) | (first | refine brT ?_ | refine brF ?_ | refine iteT ?_ | refine iteF ?_)))
    refine EvIdx.sl i rfl (by omega) (by rw [entV_length]; omega) ?_
    repeat ((conv => whnf); (first | (first | refine nowA ?_ | refine numN ?_ | refine numI ?_ | refine EvVal.ofN ?_ | refine EvNew.mk fun _ => ?_ | refine EvLoad.mk _ rfl _ rfl ?_ | refine divA ?_) | (first | refine brT ?_ | refine brF ?_ | refine iteT ?_ | refine iteF ?_)))
    refine EvLoad.mk (i * 3) rfl (.string ⟨⟨(l.getD i d0).key⟩⟩) (entV_get0 hlt) ?_
    repeat ((conv => whnf); (first | (first | refine nowA ?_ | refine numN ?_ | refine numI ?_ | refine EvVal.ofN ?_ | refine EvNew.mk fun _ => ?_ | refine EvLoad.mk _ rfl _ rfl ?_ | refine divA ?_) | (first | refine brT ?_ | refine brF ?_ | refine iteT ?_ | refine iteF ?_)))
    refine EvIdx.sl i rfl (by omega) (by rw [entV_length]; omega) ?_
    repeat ((conv => whnf); (first | (first | refine nowA ?_ | refine numN ?_ | refine numI ?_ | refine EvVal.ofN ?_ | refine EvNew.mk fun _ => ?_ | refine EvLoad.mk _ rfl _ rfl ?_ | refine divA ?_) | (first | refine brT ?_ | refine brF ?_ | refine iteT ?_ | refine iteF ?_)))
    refine EvLoad.mk (i * 3 + 1) (by simp only [addO]; omega) (.string ⟨⟨(l.getD i d0).val⟩⟩) (entV_get1 hlt) ?_
    repeat ((conv => whnf); (first | (first | refine nowA ?_ | refine numN ?_ | refine numI ?_ | refine EvVal.ofN ?_ | refine EvNew.mk fun _ => ?_ | refine EvLoad.mk _ rfl _ rfl ?_ | refine divA ?_) | (first | refine brT ?_ | refine brF ?_ | refine iteT ?_ | refine iteF ?_)))
    refine EvIdx.sl i rfl (by omega) (by rw [entV_length]; omega) ?_
    repeat ((conv => whnf); (first | (first | refine nowA ?_ | refine numN ?_ | refine numI ?_ | refine EvVal.ofN ?_ | refine EvNew.mk fun _ => ?_ | refine EvLoad.mk _ rfl _ rfl ?_ | refine divA ?_) | (first | refine brT ?_ | refine brF ?_ | refine iteT ?_ | refine iteF ?_)))
    refine EvLoad.mk (i * 3 + 2) (by simp only [addO]; omega) (.int .i64 (l.getD i d0).far) (entV_get2 hlt) ?_
    repeat ((conv => whnf); (first | (first | refine nowA ?_ | refine numN ?_ | refine numI ?_ | refine EvVal.ofN ?_ | refine EvNew.mk fun _ => ?_ | refine EvLoad.mk _ rfl _ rfl ?_ | refine divA ?_) | refine loadNA ?_ | refine EvStore.lit ⟨rfl, by decide⟩ (by rfl) ?_))
    refine EvSrc.mk 1 (entV [l.getD i d0]) (src_sl S_ok rfl rfl (by decide) 1 1 _ rfl (by simp) rfl) ?_
    refine EvApp.own ⟨rfl, rfl, rfl, by decide⟩ (by rw [entV_length]; simp; omega) (allOne_entV _) (by omega) (i + 1) rfl ?_
    intro ao' cap' hcap'
    rw [← entV_append, ← take_succ_getD hlt d0]
    repeat ((conv => whnf); (first | (first | refine nowA ?_ | refine numN ?_ | refine numI ?_ | refine EvVal.ofN ?_ | refine EvNew.mk fun _ => ?_ | refine EvLoad.mk _ rfl _ rfl ?_ | refine divA ?_) | refine loadNA ?_ | refine EvStore.lit ⟨rfl, by decide⟩ (by rfl) ?_))
    exact metA (i + 1, ao', cap') ⟨⟨by dsimp only; omega, hcap'⟩, by dsimp only; omega⟩
  · have e : i = n := by omega
    subst e
    rw [show l.take i = l by rw [← hn, List.take_length]]
    repeat ((conv => whnf); (first | (first | refine nowA ?_ | refine numN ?_ | refine numI ?_ | refine EvVal.ofN ?_ | refine EvNew.mk fun _ => ?_ | refine EvLoad.mk _ rfl _ rfl ?_ | refine divA ?_) | refine loadNA ?_ | refine EvStore.lit ⟨rfl, by decide⟩ (by rfl) ?_))
    exact retA ⟨ap, cp, hcp, rfl, rfl⟩

theorem bt_not {P : Prop} [Decidable P] (h : ¬ P) : true = !decide P := by rw [decide_eq_false h]; rfl
theorem bf_not {P : Prop} [Decidable P] (h : P) : false = !decide P := by rw [decide_eq_true h]; rfl
theorem bd_not {P Q : Prop} [Decidable P] [Decidable Q] (h : Q ↔ ¬ P) : decide Q = !decide P := by rw [← decide_not]; exact decide_eq_decide.2 h
def lightB (l : List En) : Prop := l.length ≤ 60 ∧ ∀ j, j < l.length → (l.getD j d0).key.length ≤ 200 ∧ (l.getD j d0).val.length ≤ 200
theorem lightB.lit {l : List En} (h : lightB l) : Lit l := fun x hx => by
  obtain ⟨i, hi, rfl⟩ := List.mem_iff_getElem.1 hx
  have := h.2 i hi
  rw [getD_get hi] at this
  omega

theorem light_spec (leaf : Bool) (l : List En) (ao : Option Addr) (n c : Nat) (hn : l.length = n) (hn2 : n ≤ 9223372036854775807) (hl : ∀ x ∈ l, x.key.length ≤ 9223372036854775807 ∧ x.val.length ≤ 9223372036854775807) :
    Spec Try.prog 33 [.agg #[.bool leaf, .slice ao n c]] [.view ao 70 (entV l)] (fun v O => (lightB l ∧ v = .bool true ∨ ¬ lightB l ∧ v = .bool false) ∧ O = []) := by
  refine Spec.of_ev S_ok S_mixed Try.func33 rfl rfl ?_
  refine EvNew.mk fun p => ?_
  repeat ((conv => whnf); (first | (first | refine nowA ?_ | refine numN ?_ | refine numI ?_ | refine EvVal.ofN ?_ | refine EvNew.mk fun _ => ?_ | refine EvLoad.mk _ rfl _ rfl ?_ | refine divA ?_) | refine loadNA ?_ | refine EvStore.lit ⟨rfl, by decide⟩ (by rfl) ?_))
  refine EvIf.br (brD (fun h => ?_) (fun h => ?_))
  · repeat ((conv => whnf); (first | (first | refine nowA ?_ | refine numN ?_ | refine numI ?_ | refine EvVal.ofN ?_ | refine EvNew.mk fun _ => ?_ | refine EvLoad.mk _ rfl _ rfl ?_ | refine divA ?_) | refine loadNA ?_ | refine EvStore.lit ⟨rfl, by decide⟩ (by rfl) ?_))
    exact retA ⟨.inr ⟨fun hh => by have := hh.1; omega, rfl⟩, rfl⟩
  repeat ((conv => whnf); (first | (first | refine nowA ?_ | refine numN ?_ | refine numI ?_ | refine EvVal.ofN ?_ | refine EvNew.mk fun _ => ?_ | refine EvLoad.mk _ rfl _ rfl ?_ | refine divA ?_) | refine loadNA ?_ | refine EvStore.lit ⟨rfl, by decide⟩ (by rfl) ?_))
  refine EvLoop.mk (α := Nat) (fun i => i ≤ n ∧ ∀ j, j < i → (l.getD j d0).key.length ≤ 200 ∧ (l.getD j d0).val.length ≤ 200) (fun i => n - i) (fun i => [(3, .int .i64 i)]) (fun _ => [.blk p 53 [.bool leaf, .slice ao n c], .view ao 70 (entV l)]) ?_ ?_
  · exact metA 0 ⟨Nat.zero_le _, fun j hj => by omega⟩
  rintro i ⟨hi, hj⟩
  repeat ((conv => whnf); (first | (first | refine nowA ?_ | refine numN ?_ | refine numI ?_ | refine EvVal.ofN ?_ | refine EvNew.mk fun _ => ?_ | refine EvLoad.mk _ rfl _ rfl ?_ | refine divA ?_) | refine loadNA ?_ | refine EvStore.lit ⟨rfl, by decide⟩ (by rfl) ?_))
  refine EvIf.br (brD (fun hlt => ?_) (fun hge => ?_))
  · have hlt : i < l.length := by omega
    have hx := hl _ (getD_mem hlt)
    repeat ((conv => whnf); (first | (first | refine nowA ?_ | refine numN ?_ | refine numI ?_ | refine EvVal.ofN ?_ | refine EvNew.mk fun _ => ?_ | refine EvLoad.mk _ rfl _ rfl ?_ | refine divA ?_) | refine loadNA ?_ | refine EvStore.lit ⟨rfl, by decide⟩ (by rfl) ?_))
    refine EvCut.cut (α := Unit) (fun _ => True) (fun _ => [(32, .bool (decide ((l.getD i d0).key.length > 200 ∨ (l.getD i d0).val.length > 200)))]) (fun _ => [.blk p 53 [.bool leaf, .slice ao n c], .view ao 70 (entV l)]) ?_ ?_
    · by_cases hk : ((l.getD i d0).key.length : Int) > 200
      · repeat ((conv => whnf); (first | (first | refine nowA ?_ | refine numN ?_ | refine numI ?_ | refine EvVal.ofN ?_ | refine EvNew.mk fun _ => ?_ | refine EvLoad.mk _ rfl _ rfl ?_ | refine divA ?_) | (first | refine brT ?_ | refine brF ?_ | refine iteT ?_ | refine iteF ?_)))
        refine EvIdx.sl i rfl (by omega) (by rw [entV_length]; omega) ?_
        repeat ((conv => whnf); (first | (first | refine nowA ?_ | refine numN ?_ | refine numI ?_ | refine EvVal.ofN ?_ | refine EvNew.mk fun _ => ?_ | refine EvLoad.mk _ rfl _ rfl ?_ | refine divA ?_) | (first | refine brT ?_ | refine brF ?_ | refine iteT ?_ | refine iteF ?_)))
        refine EvLoad.mk (i * 3) rfl (.string ⟨⟨(l.getD i d0).key⟩⟩) (entV_get0 hlt) ?_
        repeat ((conv => whnf); (first | (first | refine nowA ?_ | refine numN ?_ | refine numI ?_ | refine EvVal.ofN ?_ | refine EvNew.mk fun _ => ?_ | refine EvLoad.mk _ rfl _ rfl ?_ | refine divA ?_) | (first | refine brT ?_ | refine brF ?_ | refine iteT ?_ | refine iteF ?_)))
        refine metA () trivial ⟨?_, trivial⟩
        rw [decide_eq_true (show (l.getD i d0).key.length > 200 ∨ (l.getD i d0).val.length > 200 by omega)]; rfl
      · repeat ((conv => whnf); (first | (first | refine nowA ?_ | refine numN ?_ | refine numI ?_ | refine EvVal.ofN ?_ | refine EvNew.mk fun _ => ?_ | refine EvLoad.mk _ rfl _ rfl ?_ | refine divA ?_) | (first | refine brT ?_ | refine brF ?_ | refine iteT ?_ | refine iteF ?_)))
        refine EvIdx.sl i rfl (by omega) (by rw [entV_length]; omega) ?_
        repeat ((conv => whnf); (first | (first | refine nowA ?_ | refine numN ?_ | refine numI ?_ | refine EvVal.ofN ?_ | refine EvNew.mk fun _ => ?_ | refine EvLoad.mk _ rfl _ rfl ?_ | refine divA ?_) | (first | refine brT ?_ | refine brF ?_ | refine iteT ?_ | refine iteF ?_)))
        refine EvLoad.mk (i * 3) rfl (.string ⟨⟨(l.getD i d0).key⟩⟩) (entV_get0 hlt) ?_
        repeat ((conv => whnf); (first | (first | refine nowA ?_ | refine numN ?_ | refine numI ?_ | refine EvVal.ofN ?_ | refine EvNew.mk fun _ => ?_ | refine EvLoad.mk _ rfl _ rfl ?_ | refine divA ?_) | (first | refine brT ?_ | refine brF ?_ | refine iteT ?_ | refine iteF ?_)))
        refine EvIdx.sl i rfl (by omega) (by rw [entV_length]; omega) ?_
        repeat ((conv => whnf); (first | (first | refine nowA ?_ | refine numN ?_ | refine numI ?_ | refine EvVal.ofN ?_ | refine EvNew.mk fun _ => ?_ | refine EvLoad.mk _ rfl _ rfl ?_ | refine divA ?_) | (first | refine brT ?_ | refine brF ?_ | refine iteT ?_ | refine iteF ?_)))
        refine EvLoad.mk (i * 3 + 1) (by simp only [addO]; omega) (.string ⟨⟨(l.getD i d0).val⟩⟩) (entV_get1 hlt) ?_
        repeat ((conv => whnf); (first | (first | refine nowA ?_ | refine numN ?_ | refine numI ?_ | refine EvVal.ofN ?_ | refine EvNew.mk fun _ => ?_ | refine EvLoad.mk _ rfl _ rfl ?_ | refine divA ?_) | (first | refine brT ?_ | refine brF ?_ | refine iteT ?_ | refine iteF ?_)))
        refine metA () trivial ⟨?_, trivial⟩
        simp only [getF, Option.some.injEq, Value.bool.injEq, decide_eq_decide]
        omega
    intro _ _
    conv => whnf
    refine EvIf.br (brD (fun h => ?_) (fun h => ?_))
    · repeat ((conv => whnf); (first | (first | refine nowA ?_ | refine numN ?_ | refine numI ?_ | refine EvVal.ofN ?_ | refine EvNew.mk fun _ => ?_ | refine EvLoad.mk _ rfl _ rfl ?_ | refine divA ?_) | refine loadNA ?_ | refine EvStore.lit ⟨rfl, by decide⟩ (by rfl) ?_))
      exact retA ⟨.inr ⟨fun hh => by have := hh.2 i hlt; omega, rfl⟩, rfl⟩
    · repeat ((conv => whnf); (first | (first | refine nowA ?_ | refine numN ?_ | refine numI ?_ | refine EvVal.ofN ?_ | refine EvNew.mk fun _ => ?_ | refine EvLoad.mk _ rfl _ rfl ?_ | refine divA ?_) | refine loadNA ?_ | refine EvStore.lit ⟨rfl, by decide⟩ (by rfl) ?_))
      refine metA (i + 1) ⟨⟨by omega, fun j hj' => ?_⟩, by omega⟩
      by_cases hji : j = i
      · subst hji; omega
      · exact hj j (by omega)
  · repeat ((conv => whnf); (first | (first | refine nowA ?_ | refine numN ?_ | refine numI ?_ | refine EvVal.ofN ?_ | refine EvNew.mk fun _ => ?_ | refine EvLoad.mk _ rfl _ rfl ?_ | refine divA ?_) | refine loadNA ?_ | refine EvStore.lit ⟨rfl, by decide⟩ (by rfl) ?_))
    exact retA ⟨.inl ⟨⟨by omega, fun j hj' => hj j (by omega)⟩, rfl⟩, rfl⟩

theorem right18_spec (leaf : Bool) (l : List En) (ao : Option Addr) (n c : Nat) (hn : l.length = n) (hl : Lit l) (hn2 : n ≤ 10000) :
    Spec Try.prog 37 [.agg #[.bool leaf, .slice ao n c]] [.view ao 70 (entV l)] (fun v O => v = .bool (okN leaf l) ∧ O = []) := by
  refine Spec.of_ev S_ok S_mixed Try.func37 rfl rfl ?_
  refine EvNew.mk fun q => ?_
  repeat ((conv => whnf); (first | (first | refine nowA ?_ | refine numN ?_ | refine numI ?_ | refine EvVal.ofN ?_ | refine EvNew.mk fun _ => ?_ | refine EvLoad.mk _ rfl _ rfl ?_ | refine divA ?_) | refine loadNA ?_ | refine EvStore.lit ⟨rfl, by decide⟩ (by rfl) ?_))
  refine EvLoop.mk (α := Nat) (fun i => i ≤ n ∧ ∀ j, j < i → okJ leaf l j = true) (fun i => n - i) (fun i => [(3, .int .i64 i)]) (fun _ => [.blk q 53 [.bool leaf, .slice ao n c], .view ao 70 (entV l)]) ?_ ?_
  · exact metA 0 ⟨by omega, fun j h => by omega⟩
  rintro i ⟨hi, hj⟩
  repeat ((conv => whnf); (first | (first | refine nowA ?_ | refine numN ?_ | refine numI ?_ | refine EvVal.ofN ?_ | refine EvNew.mk fun _ => ?_ | refine EvLoad.mk _ rfl _ rfl ?_ | refine divA ?_) | refine loadNA ?_ | refine EvStore.lit ⟨rfl, by decide⟩ (by rfl) ?_))
  refine EvIf.br (brD (fun hlt => ?_) (fun hge => ?_))
  · have hlt : i < l.length := by omega
    have hx := hl.get hlt
    repeat ((conv => whnf); (first | (first | refine nowA ?_ | refine numN ?_ | refine numI ?_ | refine EvVal.ofN ?_ | refine EvNew.mk fun _ => ?_ | refine EvLoad.mk _ rfl _ rfl ?_ | refine divA ?_) | refine loadNA ?_ | refine EvStore.lit ⟨rfl, by decide⟩ (by rfl) ?_))
    refine EvIdx.sl i rfl (by omega) (by rw [entV_length]; omega) ?_
    refine EvLoadN.mk (i * 3) rfl _ rfl (entV_get hlt) ?_
    refine EvNew.mk fun p => ?_
    have hgen : l.getD i d0 = ⟨(l.getD i d0).key, (l.getD i d0).val, (l.getD i d0).far⟩ := rfl
    repeat ((conv => whnf); (first | (first | refine nowA ?_ | refine numN ?_ | refine numI ?_ | refine EvVal.ofN ?_ | refine EvNew.mk fun _ => ?_ | refine EvLoad.mk _ rfl _ rfl ?_ | refine divA ?_) | refine loadNA ?_ | refine EvStore.lit ⟨rfl, by decide⟩ (by rfl) ?_))
    refine EvCut.cut (α := Unit) (fun _ => True) (fun _ => [(56, .bool (!decide (OkE leaf (l.getD i d0))))]) (fun _ => [.blk p 70 (enC (l.getD i d0)), .blk q 53 [.bool leaf, .slice ao n c], .view ao 70 (entV l)]) ?_ ?_
    · cases leaf <;> (repeat' ((conv => whnf); (first | (first | (first | refine nowA ?_ | refine numN ?_ | refine numI ?_ | refine EvVal.ofN ?_ | refine EvNew.mk fun _ => ?_ | refine EvLoad.mk _ rfl _ rfl ?_ | refine divA ?_) | refine loadNA ?_ | refine EvStore.lit ⟨rfl, by decide⟩ (by rfl) ?_) | (first | refine brT ?_ | refine brF ?_ | refine iteT ?_ | refine iteF ?_ | refine brD (fun _ => ?_) (fun _ => ?_)))))
      all_goals (refine metA () trivial ⟨?_, trivial⟩; simp only [getF, Option.some.injEq, Value.bool.injEq]; first | (refine bt_not ?_; simp only [OkE, ← List.length_eq_zero_iff] at *; grind) | (refine bf_not ?_; simp only [OkE, ← List.length_eq_zero_iff] at *; grind) | (refine bd_not ?_; simp only [OkE, ← List.length_eq_zero_iff] at *; grind))
    intro _ _
    conv => whnf
    by_cases hE : OkE leaf (l.getD i d0)
    · refine EvIf.br (EvBr.f (by rw [decide_eq_true hE]; rfl) ?_)
      conv => whnf
      refine EvCut.cut (α := Unit) (fun _ => True) (fun _ => [(70, .bool (!okJ leaf l i))]) (fun _ => [.blk p 70 (enC (l.getD i d0)), .blk q 53 [.bool leaf, .slice ao n c], .view ao 70 (entV l)]) ?_ ?_
      · refine EvDraw.mk (.group [0,1,2,3,4,5,6,7,8,9,10,11,12,13] .nil) (by kernel_rfl) ?_
        by_cases hi0 : (i : Int) > 0
        · repeat ((conv => whnf); (first | (first | (first | refine nowA ?_ | refine numN ?_ | refine numI ?_ | refine EvVal.ofN ?_ | refine EvNew.mk fun _ => ?_ | refine EvLoad.mk _ rfl _ rfl ?_ | refine divA ?_) | refine loadNA ?_ | refine EvStore.lit ⟨rfl, by decide⟩ (by rfl) ?_) | (first | refine brT ?_ | refine brF ?_ | refine iteT ?_ | refine iteF ?_)))
          refine EvIdx.sl (i - 1) (by omega) (by omega) (by rw [entV_length]; omega) ?_
          repeat ((conv => whnf); (first | (first | (first | refine nowA ?_ | refine numN ?_ | refine numI ?_ | refine EvVal.ofN ?_ | refine EvNew.mk fun _ => ?_ | refine EvLoad.mk _ rfl _ rfl ?_ | refine divA ?_) | refine loadNA ?_ | refine EvStore.lit ⟨rfl, by decide⟩ (by rfl) ?_) | (first | refine brT ?_ | refine brF ?_ | refine iteT ?_ | refine iteF ?_)))
          refine EvLoad.mk ((i - 1) * 3) rfl (.string ⟨⟨(l.getD (i - 1) d0).key⟩⟩) (entV_get0 (by omega)) ?_
          repeat ((conv => whnf); (first | (first | (first | refine nowA ?_ | refine numN ?_ | refine numI ?_ | refine EvVal.ofN ?_ | refine EvNew.mk fun _ => ?_ | refine EvLoad.mk _ rfl _ rfl ?_ | refine divA ?_) | refine loadNA ?_ | refine EvStore.lit ⟨rfl, by decide⟩ (by rfl) ?_) | (first | refine brT ?_ | refine brF ?_ | refine iteT ?_ | refine iteF ?_)))
          refine metA () trivial ⟨?_, trivial⟩
          rw [leq_iff]
          simp only [okJ, decide_eq_true hE, decide_eq_false (show ¬ i = 0 by omega), Bool.true_and, Bool.false_or]
          rfl
        · repeat ((conv => whnf); (first | (first | (first | refine nowA ?_ | refine numN ?_ | refine numI ?_ | refine EvVal.ofN ?_ | refine EvNew.mk fun _ => ?_ | refine EvLoad.mk _ rfl _ rfl ?_ | refine divA ?_) | refine loadNA ?_ | refine EvStore.lit ⟨rfl, by decide⟩ (by rfl) ?_) | (first | refine brT ?_ | refine brF ?_ | refine iteT ?_ | refine iteF ?_)))
          refine metA () trivial ⟨?_, trivial⟩
          simp only [okJ, decide_eq_true hE, decide_eq_true (show i = 0 by omega), Bool.true_and, Bool.true_or]
          rfl
      intro _ _
      conv => whnf
      refine EvIf.br (EvBr.both (fun h => ?_) (fun h => ?_))
      · repeat ((conv => whnf); (first | (first | refine nowA ?_ | refine numN ?_ | refine numI ?_ | refine EvVal.ofN ?_ | refine EvNew.mk fun _ => ?_ | refine EvLoad.mk _ rfl _ rfl ?_ | refine divA ?_) | refine loadNA ?_ | refine EvStore.lit ⟨rfl, by decide⟩ (by rfl) ?_))
        refine retA ⟨?_, rfl⟩
        rw [okN_false hlt (by simpa using h)]
        rfl
      · repeat ((conv => whnf); (first | (first | refine nowA ?_ | refine numN ?_ | refine numI ?_ | refine EvVal.ofN ?_ | refine EvNew.mk fun _ => ?_ | refine EvLoad.mk _ rfl _ rfl ?_ | refine divA ?_) | refine loadNA ?_ | refine EvStore.lit ⟨rfl, by decide⟩ (by rfl) ?_))
        refine metA (i + 1) ⟨⟨by omega, fun j hj' => ?_⟩, by omega⟩
        by_cases hji : j = i
        · subst hji; simpa using h
        · exact hj j (by omega)
    · refine EvIf.br (EvBr.t (by rw [decide_eq_false hE]; rfl) ?_)
      repeat ((conv => whnf); (first | (first | refine nowA ?_ | refine numN ?_ | refine numI ?_ | refine EvVal.ofN ?_ | refine EvNew.mk fun _ => ?_ | refine EvLoad.mk _ rfl _ rfl ?_ | refine divA ?_) | refine loadNA ?_ | refine EvStore.lit ⟨rfl, by decide⟩ (by rfl) ?_))
      refine retA ⟨?_, rfl⟩
      rw [okN_false hlt (by unfold okJ; rw [decide_eq_false hE]; rfl)]
      rfl
  · repeat ((conv => whnf); (first | (first | refine nowA ?_ | refine numN ?_ | refine numI ?_ | refine EvVal.ofN ?_ | refine EvNew.mk fun _ => ?_ | refine EvLoad.mk _ rfl _ rfl ?_ | refine divA ?_) | refine loadNA ?_ | refine EvStore.lit ⟨rfl, by decide⟩ (by rfl) ?_))
    refine retA ⟨?_, rfl⟩
    rw [okN_true (fun j hj' => hj j (by omega))]
    rfl
end Go.Proofs.Ytloknkdomgeolaa.She
