/- The walks of what the laws of nodes share: a node of records, the same nodes; the calls that must come at any rate. -/
import Derived.Test.YtloknkdomgeolaaNdF
import Derived.Test.YtloknkdomgeolaaNdC
namespace Go.Proofs.Ytloknkdomgeolaa.She
set_option linter.all false
open Go
set_option pp.maxSteps 600
set_option maxRecDepth 10000
set_option maxHeartbeats 4000000

theorem eq_entry18 (x y : En) (w : World) : (Op.equalIn 10000 70 (.agg ⟨enC x⟩) (.agg ⟨enC y⟩)).run Try.prog w = .ok (decide (x = y)) w := by
  obtain ⟨k, v, f⟩ := x
  obtain ⟨k', v', f'⟩ := y
  have hS : Try.prog.underlying 70 = some (.struct (Try.prog.fieldsOf 70)) := by kernel_rfl
  rw [show (10000 : Nat) = 9998 + 1 + 1 from rfl, run_equalIn_agg w (9998 + 1) 70 _ _ hS (by kernel_rfl)]
  simp only [Program.fieldsOf, Try.underlying70]
  simp [Op.eqFields, part, enC]
  simp only [run_equalIn_string w 9998 9 _ _ Try.underlying9, run_equalIn_int w 9998 3 .i64 .i64 _ _ Try.underlying3, Result.andThen_ok]
  have e : ∀ a b : List UInt8, ((⟨⟨a⟩⟩ : ByteArray).toList == (⟨⟨b⟩⟩ : ByteArray).toList) = decide (a = b) := fun a b => by
    rw [ByteArray.toList_eq, ByteArray.toList_eq]; exact beq_eq_decide a b
  rw [e, e]
  by_cases h1 : k = k' <;> by_cases h2 : v = v' <;> by_cases h3 : f = f' <;> simp [h1, h2, h3]

theorem agg_entry18 (x y : En) {k : Value → Prop} (h : k (.bool (!decide (x = y)))) : EvAgg S .neq 70 (.agg ⟨enC x⟩) (.agg ⟨enC y⟩) k := by
  refine .mk (.bool (!decide (x = y))) (fun ox oy w => ?_) (by rw [force_eq]; exact h)
  have h1 := run_eqGuard_agg (P := S.P) w .neq 70 ox oy ⟨enC x⟩ ⟨enC y⟩ (by kernel_rfl)
  have h2 := run_neq_struct (P := S.P) w 70 ⟨enC x⟩ ⟨enC y⟩
  have h3 := eq_entry18 x y w
  rw [Sem.run_bind, h1]
  simp only [Result.andThen_ok]
  rw [h2, show S.P = Try.prog from rfl, h3]
  rfl

theorem same18_spec (leaf leaf' : Bool) (l m : List En) (ao bo : Option Addr) (n c n' c' : Nat) (hn : l.length = n) (hm : m.length = n') (hn2 : n ≤ 10000) (hm2 : n' ≤ 10000) :
    Spec Try.prog 40 [.agg #[.bool leaf, .slice ao n c], .agg #[.bool leaf', .slice bo n' c']] [.view ao 70 (entV l), .view bo 70 (entV m)] (fun v O => v = .bool (leaf == leaf' && decide (l = m)) ∧ O = []) := by
  refine Spec.of_ev S_ok S_mixed Try.func40 rfl rfl ?_
  refine EvNew.mk fun p => ?_
  refine EvNew.mk fun q => ?_
  have fin : ∀ b : Bool, (b == b) = true := fun b => by cases b <;> rfl
  by_cases hll : leaf = leaf'
  · subst hll
    rw [fin leaf, Bool.true_and]
    repeat ((conv => whnf); (first | (first | refine nowA ?_ | refine numN ?_ | refine numI ?_ | refine EvVal.ofN ?_ | refine EvNew.mk fun _ => ?_ | refine EvLoad.mk _ rfl _ rfl ?_ | refine divA ?_) | refine loadNA ?_ | refine EvStore.lit ⟨rfl, by decide⟩ (by rfl) ?_))
    refine EvCut.cut (α := Unit) (fun _ => True) (fun _ => [(19, .bool (decide (n ≠ n')))]) (fun _ => [.blk q 53 [.bool leaf, .slice bo n' c'], .blk p 53 [.bool leaf, .slice ao n c], .view ao 70 (entV l), .view bo 70 (entV m)]) ?_ ?_
    · cases leaf <;> (repeat ((conv => whnf); (first | (first | (first | refine nowA ?_ | refine numN ?_ | refine numI ?_ | refine EvVal.ofN ?_ | refine EvNew.mk fun _ => ?_ | refine EvLoad.mk _ rfl _ rfl ?_ | refine divA ?_) | refine loadNA ?_ | refine EvStore.lit ⟨rfl, by decide⟩ (by rfl) ?_) | (first | refine brT ?_ | refine brF ?_ | refine iteT ?_ | refine iteF ?_))))
      all_goals (refine metA () trivial ⟨?_, trivial⟩; simp only [getF, Option.some.injEq, Value.bool.injEq, decide_eq_decide]; omega)
    intro _ _
    conv => whnf
    refine EvIf.br (brD (fun h => ?_) (fun h => ?_))
    · repeat ((conv => whnf); (first | (first | refine nowA ?_ | refine numN ?_ | refine numI ?_ | refine EvVal.ofN ?_ | refine EvNew.mk fun _ => ?_ | refine EvLoad.mk _ rfl _ rfl ?_ | refine divA ?_) | refine loadNA ?_ | refine EvStore.lit ⟨rfl, by decide⟩ (by rfl) ?_))
      refine retA ⟨?_, rfl⟩
      rw [decide_eq_false (fun e => h (by rw [← hn, ← hm, e]))]; rfl
    have hnn : n = n' := by omega
    subst hnn
    repeat ((conv => whnf); (first | (first | refine nowA ?_ | refine numN ?_ | refine numI ?_ | refine EvVal.ofN ?_ | refine EvNew.mk fun _ => ?_ | refine EvLoad.mk _ rfl _ rfl ?_ | refine divA ?_) | refine loadNA ?_ | refine EvStore.lit ⟨rfl, by decide⟩ (by rfl) ?_))
    refine EvLoop.mk (α := Nat) (fun i => i ≤ n ∧ l.take i = m.take i) (fun i => n - i) (fun i => [(5, .int .i64 i)]) (fun _ => [.blk q 53 [.bool leaf, .slice bo n c'], .blk p 53 [.bool leaf, .slice ao n c], .view ao 70 (entV l), .view bo 70 (entV m)]) ?_ ?_
    · exact metA 0 ⟨Nat.zero_le _, by simp⟩
    rintro i ⟨hi, heq⟩
    repeat ((conv => whnf); (first | (first | refine nowA ?_ | refine numN ?_ | refine numI ?_ | refine EvVal.ofN ?_ | refine EvNew.mk fun _ => ?_ | refine EvLoad.mk _ rfl _ rfl ?_ | refine divA ?_) | refine loadNA ?_ | refine EvStore.lit ⟨rfl, by decide⟩ (by rfl) ?_))
    refine EvIf.br (brD (fun hlt => ?_) (fun hge => ?_))
    · have hl : i < l.length := by omega
      have hm' : i < m.length := by omega
      conv => whnf
      refine EvDraw.mk (.take 0 (.take 2 (.take 5 (.take 7 (.early [1,3,4,6,8,9,10] .nil))))) (by kernel_rfl) ?_
      repeat ((conv => whnf); (first | (first | refine nowA ?_ | refine numN ?_ | refine numI ?_ | refine EvVal.ofN ?_ | refine EvNew.mk fun _ => ?_ | refine EvLoad.mk _ rfl _ rfl ?_ | refine divA ?_) | (first | refine brT ?_ | refine brF ?_ | refine iteT ?_ | refine iteF ?_)))
      refine EvIdx.sl i rfl (by omega) (by rw [entV_length]; omega) ?_
      repeat ((conv => whnf); (first | (first | refine nowA ?_ | refine numN ?_ | refine numI ?_ | refine EvVal.ofN ?_ | refine EvNew.mk fun _ => ?_ | refine EvLoad.mk _ rfl _ rfl ?_ | refine divA ?_) | (first | refine brT ?_ | refine brF ?_ | refine iteT ?_ | refine iteF ?_)))
      refine EvLoadN.mk (i * 3) rfl _ rfl (entV_get hl) ?_
      repeat ((conv => whnf); (first | (first | refine nowA ?_ | refine numN ?_ | refine numI ?_ | refine EvVal.ofN ?_ | refine EvNew.mk fun _ => ?_ | refine EvLoad.mk _ rfl _ rfl ?_ | refine divA ?_) | (first | refine brT ?_ | refine brF ?_ | refine iteT ?_ | refine iteF ?_)))
      refine EvIdx.sl i rfl (by omega) (by rw [entV_length]; omega) ?_
      repeat ((conv => whnf); (first | (first | refine nowA ?_ | refine numN ?_ | refine numI ?_ | refine EvVal.ofN ?_ | refine EvNew.mk fun _ => ?_ | refine EvLoad.mk _ rfl _ rfl ?_ | refine divA ?_) | (first | refine brT ?_ | refine brF ?_ | refine iteT ?_ | refine iteF ?_)))
      refine EvLoadN.mk (i * 3) rfl _ rfl (entV_get hm') ?_
      conv => whnf
      refine agg_entry18 (l.getD i d0) (m.getD i d0) ?_
      conv => whnf
      refine EvIf.br (EvBr.ndec _ _ rfl (fun h => ?_) (fun h => ?_))
      · repeat ((conv => whnf); (first | (first | refine nowA ?_ | refine numN ?_ | refine numI ?_ | refine EvVal.ofN ?_ | refine EvNew.mk fun _ => ?_ | refine EvLoad.mk _ rfl _ rfl ?_ | refine divA ?_) | refine loadNA ?_ | refine EvStore.lit ⟨rfl, by decide⟩ (by rfl) ?_))
        refine retA ⟨?_, rfl⟩
        rw [decide_eq_false (fun e => h (by rw [e]))]; rfl
      · repeat ((conv => whnf); (first | (first | refine nowA ?_ | refine numN ?_ | refine numI ?_ | refine EvVal.ofN ?_ | refine EvNew.mk fun _ => ?_ | refine EvLoad.mk _ rfl _ rfl ?_ | refine divA ?_) | refine loadNA ?_ | refine EvStore.lit ⟨rfl, by decide⟩ (by rfl) ?_))
        refine metA (i + 1) ⟨⟨by omega, ?_⟩, by omega⟩
        rw [take_succ_getD hl d0, take_succ_getD hm' d0, heq, h]
    · have e : i = n := by omega
      subst e
      repeat ((conv => whnf); (first | (first | refine nowA ?_ | refine numN ?_ | refine numI ?_ | refine EvVal.ofN ?_ | refine EvNew.mk fun _ => ?_ | refine EvLoad.mk _ rfl _ rfl ?_ | refine divA ?_) | refine loadNA ?_ | refine EvStore.lit ⟨rfl, by decide⟩ (by rfl) ?_))
      refine retA ⟨?_, rfl⟩
      rw [show l.take i = l by rw [← hn, List.take_length], show m.take i = m by rw [← hm, List.take_length]] at heq
      rw [decide_eq_true heq]; rfl
  · have hf : (leaf == leaf') = false := by cases leaf <;> cases leaf' <;> simp_all
    rw [hf]
    cases leaf <;> cases leaf'
    case true.true => exact absurd rfl hll
    case false.false => exact absurd rfl hll
    all_goals
      repeat ((conv => whnf); (first | (first | refine nowA ?_ | refine numN ?_ | refine numI ?_ | refine EvVal.ofN ?_ | refine EvNew.mk fun _ => ?_ | refine EvLoad.mk _ rfl _ rfl ?_ | refine divA ?_) | refine loadNA ?_ | refine EvStore.lit ⟨rfl, by decide⟩ (by rfl) ?_))
      refine EvCut.direct ?_
      repeat ((conv => whnf); (first | (first | (first | refine nowA ?_ | refine numN ?_ | refine numI ?_ | refine EvVal.ofN ?_ | refine EvNew.mk fun _ => ?_ | refine EvLoad.mk _ rfl _ rfl ?_ | refine divA ?_) | refine loadNA ?_ | refine EvStore.lit ⟨rfl, by decide⟩ (by rfl) ?_) | (first | refine brT ?_ | refine brF ?_ | refine iteT ?_ | refine iteF ?_)))
      refine EvIf.br (brT ?_)
      repeat ((conv => whnf); (first | (first | refine nowA ?_ | refine numN ?_ | refine numI ?_ | refine EvVal.ofN ?_ | refine EvNew.mk fun _ => ?_ | refine EvLoad.mk _ rfl _ rfl ?_ | refine divA ?_) | refine loadNA ?_ | refine EvStore.lit ⟨rfl, by decide⟩ (by rfl) ?_))
      exact retA ⟨rfl, rfl⟩

/-- What Read tells. -/
def readR (rs : List (List UInt8)) : Bool × List En × Bool := if readB rs then (decide (rs.getD 0 [] = [1]), rs.tail.map parE, true) else (false, [], false)

def awL : List En := [⟨[97], [120], -1⟩, ⟨[99], [], 7⟩]
theorem gotN_put {b : List UInt8} {leaf : Bool} {l : List En} (hok : okN leaf l = true) (hb : chk b = 0) (hbr : recs b = recsN leaf l) : gotN b = (leaf, l, 0) := by
  obtain ⟨r1, r2, r3⟩ := readB_recsN hok
  unfold gotN
  rw [if_pos hb, hbr, if_pos r1, r2, r3]

theorem awake18_spec : Spec Try.prog 34 [] [] (fun v O => v = .bool true ∧ O = []) := by
  have hok : okN true awL = true := by decide
  have hroom : ¬ roomL (recsN true awL) < 0 := by decide
  have hsrt : Srt awL := (okN_iff.1 hok).2
  have hlit : Lit awL := by intro x hx; simp [awL] at hx; rcases hx with rfl | rfl <;> decide
  have low : lowB awL [98] = 1 := by decide
  have has : hasB awL [98] = false := by decide
  have bel : belB awL [98] = 0 := by decide
  have bel2 : belB awL [100] = 1 := by decide
  refine Spec.of_ev S_ok S_mixed Try.func34 rfl rfl ?_
  repeat ((conv => whnf); (first | (first | refine nowA ?_ | refine numN ?_ | refine numI ?_ | refine EvVal.ofN ?_ | refine EvNew.mk fun _ => ?_ | refine EvLoad.mk _ rfl _ rfl ?_ | refine divA ?_) | refine loadNA ?_ | refine EvStore.lit ⟨rfl, by decide⟩ (by rfl) ?_))
  rename_i b p
  refine EvCall.mk _ _ _ (nput_spec true awL (some ⟨b, 0, none⟩) 2 2 rfl hlit (by decide)) (.view .nil (sees_all (xs := entV awL) (e := 87))) ?_
  rintro _ _ ⟨hv, rfl⟩
  rcases hv with ⟨h, _⟩ | ⟨_, h, _⟩ | ⟨_, _, b2, hb, hbr, rfl⟩
  · rw [hok] at h; cases h
  · exact absurd h hroom
  have hg := gotN_put hok hb hbr
  have hbl := (chk_zero hb).1
  repeat ((conv => whnf); (first | (first | refine nowA ?_ | refine numN ?_ | refine numI ?_ | refine EvVal.ofN ?_ | refine EvNew.mk fun _ => ?_ | refine EvLoad.mk _ rfl _ rfl ?_ | refine divA ?_) | refine loadNA ?_ | refine EvStore.lit ⟨rfl, by decide⟩ (by rfl) ?_))
  refine callA (nget_spec b2 (by omega)) ?_
  rintro _ _ ⟨a1, c1, hc1, rfl, rfl⟩
  rw [hg]
  repeat ((conv => whnf); (first | (first | refine nowA ?_ | refine numN ?_ | refine numI ?_ | refine EvVal.ofN ?_ | refine EvNew.mk fun _ => ?_ | refine EvLoad.mk _ rfl _ rfl ?_ | refine divA ?_) | refine loadNA ?_ | refine EvStore.lit ⟨rfl, by decide⟩ (by rfl) ?_))
  refine EvCall.mk _ _ _ (find_spec true awL [98] (some ⟨b, 0, none⟩) 2 2 rfl (by decide) hsrt) (.view .nil (sees_all (xs := entV awL) (e := 87))) ?_
  rintro _ _ ⟨rfl, rfl⟩
  rw [low, has]
  repeat ((conv => whnf); (first | (first | refine nowA ?_ | refine numN ?_ | refine numI ?_ | refine EvVal.ofN ?_ | refine EvNew.mk fun _ => ?_ | refine EvLoad.mk _ rfl _ rfl ?_ | refine divA ?_) | refine loadNA ?_ | refine EvStore.lit ⟨rfl, by decide⟩ (by rfl) ?_))
  refine EvCut.direct ?_
  repeat ((conv => whnf); (first | (first | (first | refine nowA ?_ | refine numN ?_ | refine numI ?_ | refine EvVal.ofN ?_ | refine EvNew.mk fun _ => ?_ | refine EvLoad.mk _ rfl _ rfl ?_ | refine divA ?_) | refine loadNA ?_ | refine EvStore.lit ⟨rfl, by decide⟩ (by rfl) ?_) | (first | refine brT ?_ | refine brF ?_ | refine iteT ?_ | refine iteF ?_)))
  refine EvCall.mk _ _ _ (nsame_spec true true awL awL a1 (some ⟨b, 0, none⟩) 2 c1 2 2 rfl rfl (by decide) (by decide)) (.view (.view .nil (sees_all (xs := entV awL) (e := 87))) (sees_all (xs := entV awL) (e := 87))) ?_
  rintro _ _ ⟨rfl, rfl⟩
  rw [show (true == true && decide (awL = awL)) = true by simp]
  repeat ((conv => whnf); (first | (first | (first | refine nowA ?_ | refine numN ?_ | refine numI ?_ | refine EvVal.ofN ?_ | refine EvNew.mk fun _ => ?_ | refine EvLoad.mk _ rfl _ rfl ?_ | refine divA ?_) | refine loadNA ?_ | refine EvStore.lit ⟨rfl, by decide⟩ (by rfl) ?_) | (first | refine brT ?_ | refine brF ?_ | refine iteT ?_ | refine iteF ?_)))
  refine EvCall.mk _ _ _ (below_spec true awL [98] (some ⟨b, 0, none⟩) 2 2 rfl (by decide) hsrt) (.view .nil (sees_all (xs := entV awL) (e := 87))) ?_
  rintro _ _ ⟨rfl, rfl⟩
  rw [bel]
  repeat ((conv => whnf); (first | (first | (first | refine nowA ?_ | refine numN ?_ | refine numI ?_ | refine EvVal.ofN ?_ | refine EvNew.mk fun _ => ?_ | refine EvLoad.mk _ rfl _ rfl ?_ | refine divA ?_) | refine loadNA ?_ | refine EvStore.lit ⟨rfl, by decide⟩ (by rfl) ?_) | (first | refine brT ?_ | refine brF ?_ | refine iteT ?_ | refine iteF ?_)))
  refine EvCall.mk _ _ _ (below_spec true awL [100] (some ⟨b, 0, none⟩) 2 2 rfl (by decide) hsrt) (.view .nil (sees_all (xs := entV awL) (e := 87))) ?_
  rintro _ _ ⟨rfl, rfl⟩
  rw [bel2]
  repeat ((conv => whnf); (first | (first | (first | refine nowA ?_ | refine numN ?_ | refine numI ?_ | refine EvVal.ofN ?_ | refine EvNew.mk fun _ => ?_ | refine EvLoad.mk _ rfl _ rfl ?_ | refine divA ?_) | refine loadNA ?_ | refine EvStore.lit ⟨rfl, by decide⟩ (by rfl) ?_) | (first | refine brT ?_ | refine brF ?_ | refine iteT ?_ | refine iteF ?_)))
  exact retA ⟨rfl, rfl⟩

theorem read18_spec (rs : List (List UInt8)) (ao : Option Addr) (n c : Nat) (hn : rs.length = n) (hn2 : n ≤ 57) (hlens : ∀ s ∈ rs, s.length ≤ 228) :
    Spec Try.prog 42 [.slice ao n c] [.view ao 9 (strV rs)]
      (fun v O => ∃ a' c', (readR rs).2.1.length ≤ c' ∧ v = .tuple #[.agg #[.bool (readR rs).1, .slice a' (readR rs).2.1.length c'], .bool (readR rs).2.2] ∧ O = [.row a' c' 70 3 (entV (readR rs).2.1)]) := by
  have bad : readB rs = false → readR rs = (false, [], false) := fun h => by unfold readR; rw [h]; rfl
  have good : readB rs = true → readR rs = (decide (rs.getD 0 [] = [1]), rs.tail.map parE, true) := fun h => by unfold readR; rw [if_pos h]
  refine Spec.of_ev S_ok S_mixed Try.func42 rfl rfl ?_
  refine EvNew.mk fun q => ?_
  repeat ((conv => whnf); (first | (first | refine nowA ?_ | refine numN ?_ | refine numI ?_ | refine EvVal.ofN ?_ | refine EvNew.mk fun _ => ?_ | refine EvLoad.mk _ rfl _ rfl ?_ | refine divA ?_) | refine loadNA ?_ | refine EvStore.lit ⟨rfl, by decide⟩ (by rfl) ?_))
  refine EvCut.cut (α := Unit) (fun _ => True) (fun _ => [(22, .bool (!(decide (0 < rs.length) && (decide (rs.getD 0 [] = [1]) || decide (rs.getD 0 [] = [2])))))]) (fun _ => [.blk q 53 [.bool false, .slice none 0 0], .view ao 9 (strV rs)]) ?_ ?_
  · by_cases hl0 : (n : Int) = 0
    · repeat ((conv => whnf); (first | (first | (first | refine nowA ?_ | refine numN ?_ | refine numI ?_ | refine EvVal.ofN ?_ | refine EvNew.mk fun _ => ?_ | refine EvLoad.mk _ rfl _ rfl ?_ | refine divA ?_) | refine loadNA ?_ | refine EvStore.lit ⟨rfl, by decide⟩ (by rfl) ?_) | (first | refine brT ?_ | refine brF ?_ | refine iteT ?_ | refine iteF ?_)))
      refine metA () trivial ⟨?_, trivial⟩
      rw [decide_eq_false (show ¬ 0 < rs.length by omega)]; rfl
    · by_cases k1 : rs.getD 0 [] = [1]
      · have k1' : ¬ (rs.getD 0 [] ≠ [1]) := fun h => h k1
        repeat ((conv => whnf); (first | (first | (first | refine nowA ?_ | refine numN ?_ | refine numI ?_ | refine EvVal.ofN ?_ | refine EvNew.mk fun _ => ?_ | refine EvLoad.mk _ rfl _ rfl ?_ | refine divA ?_) | refine loadNA ?_ | refine EvStore.lit ⟨rfl, by decide⟩ (by rfl) ?_) | (first | refine brT ?_ | refine brF ?_ | refine iteT ?_ | refine iteF ?_)))
        refine EvIdx.sl 0 rfl (by omega) (by simp; omega) ?_
        repeat ((conv => whnf); (first | (first | refine nowA ?_ | refine numN ?_ | refine numI ?_ | refine EvVal.ofN ?_ | refine EvNew.mk fun _ => ?_ | refine EvLoad.mk _ rfl _ rfl ?_ | refine divA ?_) | (first | refine brT ?_ | refine brF ?_ | refine iteT ?_ | refine iteF ?_)))
        refine EvLoad.mk (0 * 1) rfl (.string ⟨⟨rs.getD 0 []⟩⟩) (by rw [Nat.mul_one]; exact strV_get (by omega)) ?_
        repeat ((conv => whnf); (first | (first | refine nowA ?_ | refine numN ?_ | refine numI ?_ | refine EvVal.ofN ?_ | refine EvNew.mk fun _ => ?_ | refine EvLoad.mk _ rfl _ rfl ?_ | refine divA ?_) | (first | refine brT ?_ | refine brF ?_ | refine iteT ?_ | refine iteF ?_)))
        refine metA () trivial ⟨?_, trivial⟩
        rw [decide_eq_true (show 0 < rs.length by omega), decide_eq_true k1]; rfl
      · have k1' : rs.getD 0 [] ≠ [1] := k1
        by_cases k2 : rs.getD 0 [] = [2]
        · have k2' : ¬ (rs.getD 0 [] ≠ [2]) := fun h => h k2
          repeat ((conv => whnf); (first | (first | (first | refine nowA ?_ | refine numN ?_ | refine numI ?_ | refine EvVal.ofN ?_ | refine EvNew.mk fun _ => ?_ | refine EvLoad.mk _ rfl _ rfl ?_ | refine divA ?_) | refine loadNA ?_ | refine EvStore.lit ⟨rfl, by decide⟩ (by rfl) ?_) | (first | refine brT ?_ | refine brF ?_ | refine iteT ?_ | refine iteF ?_)))
          refine EvIdx.sl 0 rfl (by omega) (by simp; omega) ?_
          repeat ((conv => whnf); (first | (first | refine nowA ?_ | refine numN ?_ | refine numI ?_ | refine EvVal.ofN ?_ | refine EvNew.mk fun _ => ?_ | refine EvLoad.mk _ rfl _ rfl ?_ | refine divA ?_) | (first | refine brT ?_ | refine brF ?_ | refine iteT ?_ | refine iteF ?_)))
          refine EvLoad.mk (0 * 1) rfl (.string ⟨⟨rs.getD 0 []⟩⟩) (by rw [Nat.mul_one]; exact strV_get (by omega)) ?_
          repeat ((conv => whnf); (first | (first | refine nowA ?_ | refine numN ?_ | refine numI ?_ | refine EvVal.ofN ?_ | refine EvNew.mk fun _ => ?_ | refine EvLoad.mk _ rfl _ rfl ?_ | refine divA ?_) | (first | refine brT ?_ | refine brF ?_ | refine iteT ?_ | refine iteF ?_)))
          refine EvIdx.sl 0 rfl (by omega) (by simp; omega) ?_
          repeat ((conv => whnf); (first | (first | refine nowA ?_ | refine numN ?_ | refine numI ?_ | refine EvVal.ofN ?_ | refine EvNew.mk fun _ => ?_ | refine EvLoad.mk _ rfl _ rfl ?_ | refine divA ?_) | (first | refine brT ?_ | refine brF ?_ | refine iteT ?_ | refine iteF ?_)))
          refine EvLoad.mk (0 * 1) rfl (.string ⟨⟨rs.getD 0 []⟩⟩) (by rw [Nat.mul_one]; exact strV_get (by omega)) ?_
          repeat ((conv => whnf); (first | (first | refine nowA ?_ | refine numN ?_ | refine numI ?_ | refine EvVal.ofN ?_ | refine EvNew.mk fun _ => ?_ | refine EvLoad.mk _ rfl _ rfl ?_ | refine divA ?_) | (first | refine brT ?_ | refine brF ?_ | refine iteT ?_ | refine iteF ?_)))
          refine metA () trivial ⟨?_, trivial⟩
          simp only [getF, Option.some.injEq, Value.bool.injEq]
          rw [decide_eq_true (show 0 < rs.length by omega), decide_eq_true k2, decide_eq_false k1, decide_eq_false k2']; rfl
        · have k2' : rs.getD 0 [] ≠ [2] := k2
          repeat ((conv => whnf); (first | (first | (first | refine nowA ?_ | refine numN ?_ | refine numI ?_ | refine EvVal.ofN ?_ | refine EvNew.mk fun _ => ?_ | refine EvLoad.mk _ rfl _ rfl ?_ | refine divA ?_) | refine loadNA ?_ | refine EvStore.lit ⟨rfl, by decide⟩ (by rfl) ?_) | (first | refine brT ?_ | refine brF ?_ | refine iteT ?_ | refine iteF ?_)))
          refine EvIdx.sl 0 rfl (by omega) (by simp; omega) ?_
          repeat ((conv => whnf); (first | (first | refine nowA ?_ | refine numN ?_ | refine numI ?_ | refine EvVal.ofN ?_ | refine EvNew.mk fun _ => ?_ | refine EvLoad.mk _ rfl _ rfl ?_ | refine divA ?_) | (first | refine brT ?_ | refine brF ?_ | refine iteT ?_ | refine iteF ?_)))
          refine EvLoad.mk (0 * 1) rfl (.string ⟨⟨rs.getD 0 []⟩⟩) (by rw [Nat.mul_one]; exact strV_get (by omega)) ?_
          repeat ((conv => whnf); (first | (first | refine nowA ?_ | refine numN ?_ | refine numI ?_ | refine EvVal.ofN ?_ | refine EvNew.mk fun _ => ?_ | refine EvLoad.mk _ rfl _ rfl ?_ | refine divA ?_) | (first | refine brT ?_ | refine brF ?_ | refine iteT ?_ | refine iteF ?_)))
          refine EvIdx.sl 0 rfl (by omega) (by simp; omega) ?_
          repeat ((conv => whnf); (first | (first | refine nowA ?_ | refine numN ?_ | refine numI ?_ | refine EvVal.ofN ?_ | refine EvNew.mk fun _ => ?_ | refine EvLoad.mk _ rfl _ rfl ?_ | refine divA ?_) | (first | refine brT ?_ | refine brF ?_ | refine iteT ?_ | refine iteF ?_)))
          refine EvLoad.mk (0 * 1) rfl (.string ⟨⟨rs.getD 0 []⟩⟩) (by rw [Nat.mul_one]; exact strV_get (by omega)) ?_
          repeat ((conv => whnf); (first | (first | refine nowA ?_ | refine numN ?_ | refine numI ?_ | refine EvVal.ofN ?_ | refine EvNew.mk fun _ => ?_ | refine EvLoad.mk _ rfl _ rfl ?_ | refine divA ?_) | (first | refine brT ?_ | refine brF ?_ | refine iteT ?_ | refine iteF ?_)))
          refine metA () trivial ⟨?_, trivial⟩
          simp only [getF, Option.some.injEq, Value.bool.injEq]
          rw [decide_eq_true (show 0 < rs.length by omega), decide_eq_false k2, decide_eq_false k1, decide_eq_true k2']; rfl
  intro _ _
  conv => whnf
  refine EvIf.br (EvBr.both (fun h => ?_) (fun h => ?_))
  · repeat ((conv => whnf); (first | (first | refine nowA ?_ | refine numN ?_ | refine numI ?_ | refine EvVal.ofN ?_ | refine EvNew.mk fun _ => ?_ | refine EvLoad.mk _ rfl _ rfl ?_ | refine divA ?_) | refine loadNA ?_ | refine EvStore.lit ⟨rfl, by decide⟩ (by rfl) ?_))
    have hr : readB rs = false := by
      unfold readB
      have h' : (decide (0 < rs.length) && (decide (rs.getD 0 [] = [1]) || decide (rs.getD 0 [] = [2]))) = false := by
        revert h; cases (decide (0 < rs.length) && (decide (rs.getD 0 [] = [1]) || decide (rs.getD 0 [] = [2]))) <;> simp
      rw [h']; rfl
    rw [bad hr]
    exact retA (O' := [.row none 0 70 3 []]) ⟨none, 0, Nat.le_refl _, rfl, rfl⟩
  have hkind : (decide (0 < rs.length) && (decide (rs.getD 0 [] = [1]) || decide (rs.getD 0 [] = [2]))) = true := by
    revert h; cases (decide (0 < rs.length) && (decide (rs.getD 0 [] = [1]) || decide (rs.getD 0 [] = [2]))) <;> simp
  have hpos : 0 < rs.length := by
    have := hkind
    simp only [Bool.and_eq_true, decide_eq_true_eq] at this
    exact this.1
  have hread : readB rs = (rs.tail.all (fun s => decide (OkP s)) && okN (decide (rs.getD 0 [] = [1])) (rs.tail.map parE)) := by
    unfold readB; rw [hkind, Bool.true_and]
  repeat ((conv => whnf); (first | (first | refine nowA ?_ | refine numN ?_ | refine numI ?_ | refine EvVal.ofN ?_ | refine EvNew.mk fun _ => ?_ | refine EvLoad.mk _ rfl _ rfl ?_ | refine divA ?_) | refine loadNA ?_ | refine EvStore.lit ⟨rfl, by decide⟩ (by rfl) ?_))
  refine EvIdx.sl 0 rfl (by omega) (by simp; omega) ?_
  repeat ((conv => whnf); (first | (first | refine nowA ?_ | refine numN ?_ | refine numI ?_ | refine EvVal.ofN ?_ | refine EvNew.mk fun _ => ?_ | refine EvLoad.mk _ rfl _ rfl ?_ | refine divA ?_) | (first | refine brT ?_ | refine brF ?_ | refine iteT ?_ | refine iteF ?_)))
  refine EvLoad.mk (0 * 1) rfl (.string ⟨⟨rs.getD 0 []⟩⟩) (by rw [Nat.mul_one]; exact strV_get hpos) ?_
  repeat ((conv => whnf); (first | (first | refine nowA ?_ | refine numN ?_ | refine numI ?_ | refine EvVal.ofN ?_ | refine EvNew.mk fun _ => ?_ | refine EvLoad.mk _ rfl _ rfl ?_ | refine divA ?_) | refine loadNA ?_ | refine EvStore.lit ⟨rfl, by decide⟩ (by rfl) ?_))
  generalize decide (rs.getD 0 [] = [1]) = lf at *
  rename_i q2
  have htl : rs.tail.length = rs.length - 1 := by simp
  refine EvLoop.mk (α := Nat × Option Addr × Nat) (fun x => x.1 ≤ rs.length - 1 ∧ x.1 ≤ x.2.2 ∧ ∀ j, j < x.1 → OkP (rs.tail.getD j [])) (fun x => rs.length - 1 - x.1) (fun x => [(5, .int .i64 ((x.1 + 1 : Nat) : Int))])
    (fun x => [.blk q2 53 [.bool lf, .slice x.2.1 x.1 x.2.2], .row x.2.1 x.2.2 70 3 (entV ((rs.tail.take x.1).map parE)), .blk q 53 [.bool false, .slice none 0 0], .view ao 9 (strV rs)]) ?_ ?_
  · exact metA (0, none, 0) ⟨by omega, by omega, fun j h => by omega⟩
  rintro ⟨i, ap, cp⟩ ⟨hi, hcp, hok⟩
  dsimp only at hi hcp hok ⊢
  repeat ((conv => whnf); (first | refine nowA ?_ | refine numN ?_ | refine numI ?_ | refine EvVal.ofN ?_ | refine EvNew.mk fun _ => ?_ | refine EvLoad.mk _ rfl _ rfl ?_ | refine divA ?_))
  refine EvIf.br (brD (fun hlt => ?_) (fun hge => ?_))
  · have hlt : i < rs.tail.length := by omega
    have hsl : (rs.tail.getD i []).length ≤ 10000 := by
      have := hlens (rs.tail.getD i []) (by rw [tail_getD, List.getD_eq_getElem?_getD, List.getElem?_eq_getElem (by omega)]; exact List.getElem_mem _)
      omega
    repeat ((conv => whnf); (first | refine nowA ?_ | refine numN ?_ | refine numI ?_ | refine EvVal.ofN ?_ | refine EvNew.mk fun _ => ?_ | refine EvLoad.mk _ rfl _ rfl ?_ | refine divA ?_))
    refine EvIdx.sl (i + 1) rfl (by omega) (by simp; omega) ?_
    refine EvLoad.mk ((i + 1) * 1) rfl (.string ⟨⟨rs.tail.getD i []⟩⟩) (by rw [Nat.mul_one, tail_getD]; exact strV_get (by omega)) ?_
    have hb0 := nb_lt (rs.tail.getD i []) 0
    by_cases hP : OkP (rs.tail.getD i [])
    · have hP2 := hP.2
      have g1 : ¬ ((rs.tail.getD i []).length : Int) < 3 := by omega
      have g2 : ¬ ((rs.tail.getD i []).length : Int) < ((3 + nb (rs.tail.getD i []) 0 : Nat) : Int) := by omega
      repeat ((conv => whnf); (first | refine nowA ?_ | refine numN ?_ | refine numI ?_ | refine EvVal.ofN ?_ | refine EvNew.mk fun _ => ?_ | refine EvLoad.mk _ rfl _ rfl ?_ | refine divA ?_))
      refine EvCut.direct ?_
      repeat ((conv => whnf); (first | (first | (first | refine nowA ?_ | refine numN ?_ | refine numI ?_ | refine EvVal.ofN ?_ | refine EvNew.mk fun _ => ?_ | refine EvLoad.mk _ rfl _ rfl ?_ | refine divA ?_) | refine loadNA ?_ | refine EvStore.lit ⟨rfl, by decide⟩ (by rfl) ?_) | (first | refine brT ?_ | refine brF ?_ | refine iteT ?_ | refine iteF ?_)))
      refine EvIf.br (brF ?_)
      repeat ((conv => whnf); (first | (first | (first | refine nowA ?_ | refine numN ?_ | refine numI ?_ | refine EvVal.ofN ?_ | refine EvNew.mk fun _ => ?_ | refine EvLoad.mk _ rfl _ rfl ?_ | refine divA ?_) | refine loadNA ?_ | refine EvStore.lit ⟨rfl, by decide⟩ (by rfl) ?_) | (first | refine brT ?_ | refine brF ?_ | refine iteT ?_ | refine iteF ?_)))
      have h1 := nb_lt (rs.tail.getD i []) (1 + nb (rs.tail.getD i []) 0)
      have h2 := nb_lt (rs.tail.getD i []) (1 + nb (rs.tail.getD i []) 0 + 1)
      rw [Nat.add_comm (nb (rs.tail.getD i []) 0) 1]
      refine EvDraw.mk (.take 0 (.take 2 (.take 3 (.take 4 (.take 5 (.take 6 (.take 7 (.take 8 (.take 9 (.take 10 (.take 11 (.take 12 (.take 13 (.take 14 (.take 15 (.take 16 (.take 17 (.take 18 (.take 19 (.take 20 (.take 21 (.early [1] (.eff 22 (.eff 23 (.take 24 (.eff 25 .nil)))))))))))))))))))))))))) (by kernel_rfl) ?_
      repeat ((conv => whnf); (first | refine nowA ?_ | refine numN ?_ | refine numI ?_ | refine EvVal.ofN ?_ | refine EvNew.mk fun _ => ?_ | refine EvLoad.mk _ rfl _ rfl ?_ | refine divA ?_))
      refine EvVal.rfl ?_
      repeat ((conv => whnf); (first | refine nowA ?_ | refine numN ?_ | refine numI ?_ | refine EvVal.ofN ?_ | refine EvNew.mk fun _ => ?_ | refine EvLoad.mk _ rfl _ rfl ?_ | refine divA ?_))
      refine EvVal.eq ((rs.tail.getD i []).drop (1 + nb (rs.tail.getD i []) 0 + 2)) (by simp) ?_
      repeat ((conv => whnf); (first | (first | refine nowA ?_ | refine numN ?_ | refine numI ?_ | refine EvVal.ofN ?_ | refine EvNew.mk fun _ => ?_ | refine EvLoad.mk _ rfl _ rfl ?_ | refine divA ?_) | refine loadNA ?_ | refine EvStore.lit ⟨rfl, by decide⟩ (by rfl) ?_))
      refine EvSrc.mk 1 (entV [parE (rs.tail.getD i [])]) (src_sl S_ok rfl rfl (by decide) 1 1 _ rfl (by simp) rfl) ?_
      refine EvApp.own ⟨rfl, rfl, rfl, by decide⟩ (by rw [entV_length]; simp; omega) (allOne_entV _) (by omega) (i + 1) rfl ?_
      intro ao' cap' hcap'
      have e : entV ((rs.tail.take i).map parE) ++ entV [parE (rs.tail.getD i [])] = entV ((rs.tail.take (i + 1)).map parE) := by
        rw [← entV_append, take_succ_getD hlt [], List.map_append]; rfl
      rw [e]
      repeat ((conv => whnf); (first | (first | refine nowA ?_ | refine numN ?_ | refine numI ?_ | refine EvVal.ofN ?_ | refine EvNew.mk fun _ => ?_ | refine EvLoad.mk _ rfl _ rfl ?_ | refine divA ?_) | refine loadNA ?_ | refine EvStore.lit ⟨rfl, by decide⟩ (by rfl) ?_))
      refine metA (i + 1, ao', cap') ⟨⟨by dsimp only; omega, hcap', fun j hj => ?_⟩, by dsimp only; omega⟩
      by_cases hji : j = i
      · subst hji; exact hP
      · exact hok j (by dsimp only at hj; omega)
    · have hr : readB rs = false := by
        rw [hread]
        have : rs.tail.all (fun s => decide (OkP s)) = false := by
          cases h' : rs.tail.all (fun s => decide (OkP s)) with
          | false => rfl
          | true =>
            have := List.all_eq_true.1 h' (rs.tail.getD i []) (by rw [List.getD_eq_getElem?_getD, List.getElem?_eq_getElem hlt]; exact List.getElem_mem _)
            exact absurd (of_decide_eq_true this) hP
        rw [this]; rfl
      rw [bad hr]
      repeat ((conv => whnf); (first | refine nowA ?_ | refine numN ?_ | refine numI ?_ | refine EvVal.ofN ?_ | refine EvNew.mk fun _ => ?_ | refine EvLoad.mk _ rfl _ rfl ?_ | refine divA ?_))
      refine EvCut.direct ?_
      by_cases g1 : ((rs.tail.getD i []).length : Int) < 3
      · repeat ((conv => whnf); (first | (first | (first | refine nowA ?_ | refine numN ?_ | refine numI ?_ | refine EvVal.ofN ?_ | refine EvNew.mk fun _ => ?_ | refine EvLoad.mk _ rfl _ rfl ?_ | refine divA ?_) | refine loadNA ?_ | refine EvStore.lit ⟨rfl, by decide⟩ (by rfl) ?_) | (first | refine brT ?_ | refine brF ?_ | refine iteT ?_ | refine iteF ?_)))
        refine EvIf.br (brT ?_)
        repeat ((conv => whnf); (first | (first | (first | refine nowA ?_ | refine numN ?_ | refine numI ?_ | refine EvVal.ofN ?_ | refine EvNew.mk fun _ => ?_ | refine EvLoad.mk _ rfl _ rfl ?_ | refine divA ?_) | refine loadNA ?_ | refine EvStore.lit ⟨rfl, by decide⟩ (by rfl) ?_) | (first | refine brT ?_ | refine brF ?_ | refine iteT ?_ | refine iteF ?_)))
        exact retA (O' := [.row none 0 70 3 []]) ⟨none, 0, Nat.le_refl _, rfl, rfl⟩
      · have g2 : ((rs.tail.getD i []).length : Int) < ((3 + nb (rs.tail.getD i []) 0 : Nat) : Int) := by
          have : ¬ (3 + nb (rs.tail.getD i []) 0 ≤ (rs.tail.getD i []).length) := fun h => hP ⟨fun e => by rw [e] at g1; simp at g1, h⟩
          omega
        repeat ((conv => whnf); (first | (first | (first | refine nowA ?_ | refine numN ?_ | refine numI ?_ | refine EvVal.ofN ?_ | refine EvNew.mk fun _ => ?_ | refine EvLoad.mk _ rfl _ rfl ?_ | refine divA ?_) | refine loadNA ?_ | refine EvStore.lit ⟨rfl, by decide⟩ (by rfl) ?_) | (first | refine brT ?_ | refine brF ?_ | refine iteT ?_ | refine iteF ?_)))
        refine EvIf.br (brT ?_)
        repeat ((conv => whnf); (first | (first | (first | refine nowA ?_ | refine numN ?_ | refine numI ?_ | refine EvVal.ofN ?_ | refine EvNew.mk fun _ => ?_ | refine EvLoad.mk _ rfl _ rfl ?_ | refine divA ?_) | refine loadNA ?_ | refine EvStore.lit ⟨rfl, by decide⟩ (by rfl) ?_) | (first | refine brT ?_ | refine brF ?_ | refine iteT ?_ | refine iteF ?_)))
        exact retA (O' := [.row none 0 70 3 []]) ⟨none, 0, Nat.le_refl _, rfl, rfl⟩
  · have e : i = rs.tail.length := by omega
    rw [e, List.take_length]
    have hall : rs.tail.all (fun s => decide (OkP s)) = true := by
      rw [List.all_eq_true]
      intro s hs
      obtain ⟨j, hj, rfl⟩ := List.mem_iff_getElem.1 hs
      have := hok j (by omega)
      simp only [List.getD, List.getElem?_eq_getElem hj, Option.getD_some] at this
      exact decide_eq_true this
    rw [hall, Bool.true_and] at hread
    have hLit : Lit (rs.tail.map parE) := by
      intro x hx
      obtain ⟨s, hs, rfl⟩ := List.mem_map.1 hx
      have := hlens s (List.mem_of_mem_tail hs)
      simp only [parE, List.length_drop, List.length_take]
      omega
    repeat ((conv => whnf); (first | (first | refine nowA ?_ | refine numN ?_ | refine numI ?_ | refine EvVal.ofN ?_ | refine EvNew.mk fun _ => ?_ | refine EvLoad.mk _ rfl _ rfl ?_ | refine divA ?_) | refine loadNA ?_ | refine EvStore.lit ⟨rfl, by decide⟩ (by rfl) ?_))
    refine callA (right18_spec lf (rs.tail.map parE) ap rs.tail.length cp (by simp) hLit (by omega)) ?_
    rintro _ _ ⟨rfl, rfl⟩
    cases hok2 : okN lf (rs.tail.map parE)
    · repeat ((conv => whnf); (first | (first | refine nowA ?_ | refine numN ?_ | refine numI ?_ | refine EvVal.ofN ?_ | refine EvNew.mk fun _ => ?_ | refine EvLoad.mk _ rfl _ rfl ?_ | refine divA ?_) | refine loadNA ?_ | refine EvStore.lit ⟨rfl, by decide⟩ (by rfl) ?_))
      refine EvIf.br (brT ?_)
      repeat ((conv => whnf); (first | (first | refine nowA ?_ | refine numN ?_ | refine numI ?_ | refine EvVal.ofN ?_ | refine EvNew.mk fun _ => ?_ | refine EvLoad.mk _ rfl _ rfl ?_ | refine divA ?_) | refine loadNA ?_ | refine EvStore.lit ⟨rfl, by decide⟩ (by rfl) ?_))
      rw [bad (hread.trans hok2)]
      exact retA (O' := [.row none 0 70 3 []]) ⟨none, 0, Nat.le_refl _, rfl, rfl⟩
    · repeat ((conv => whnf); (first | (first | refine nowA ?_ | refine numN ?_ | refine numI ?_ | refine EvVal.ofN ?_ | refine EvNew.mk fun _ => ?_ | refine EvLoad.mk _ rfl _ rfl ?_ | refine divA ?_) | refine loadNA ?_ | refine EvStore.lit ⟨rfl, by decide⟩ (by rfl) ?_))
      refine EvIf.br (brF ?_)
      repeat ((conv => whnf); (first | (first | refine nowA ?_ | refine numN ?_ | refine numI ?_ | refine EvVal.ofN ?_ | refine EvNew.mk fun _ => ?_ | refine EvLoad.mk _ rfl _ rfl ?_ | refine divA ?_) | refine loadNA ?_ | refine EvStore.lit ⟨rfl, by decide⟩ (by rfl) ?_))
      rw [good (hread.trans hok2)]
      exact retA ⟨ap, cp, by rw [List.length_map]; omega, by rw [List.length_map]; rfl, rfl⟩
end Go.Proofs.Ytloknkdomgeolaa.She
