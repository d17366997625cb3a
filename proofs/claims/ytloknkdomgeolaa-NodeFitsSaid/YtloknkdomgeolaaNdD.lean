/- The walks of the functions of node: the place of a key, halves, the same nodes. -/
import Derived.Test.YtloknkdomgeolaaNdB
import Derived.Laws.Externs
import Derived.Laws.StructEq
namespace Go.Proofs.Ytloknkdomgeolaa.She
set_option linter.all false
open Go
set_option pp.maxSteps 600
set_option maxRecDepth 10000
set_option maxHeartbeats 4000000

theorem cmp_ext (a b : List UInt8) (w : World) : (callFunc 64 #[.string ⟨⟨a⟩⟩, .string ⟨⟨b⟩⟩]).run Try.prog w = .ok (.value (.int .i64 (Lib.compareBytes a b))) w := by
  rw [run_callFunc_extern (e := Extern.BytealgCompare.compare) Try.func64 rfl rfl (by kernel_rfl) (by kernel_rfl), Lib.run_compareString]
  rfl

theorem cmps_spec (a b : List UInt8) : Spec Try.prog 63 [.string ⟨⟨a⟩⟩, .string ⟨⟨b⟩⟩] [] (fun v O => v = .int .i64 (Lib.compareBytes a b) ∧ O = []) := by
  refine Spec.of_ev S_ok S_mixed Try.func63 rfl rfl ?_
  repeat ((conv => whnf); (first | refine nowA ?_ | refine numN ?_ | refine numI ?_ | refine EvVal.ofN ?_ | refine EvNew.mk fun _ => ?_ | refine EvLoad.mk _ rfl _ rfl ?_ | refine divA ?_))
  refine EvCall.ext _ (cmp_ext a b) ?_
  repeat ((conv => whnf); (first | refine nowA ?_ | refine numN ?_ | refine numI ?_ | refine EvVal.ofN ?_ | refine EvNew.mk fun _ => ?_ | refine EvLoad.mk _ rfl _ rfl ?_ | refine divA ?_))
  exact retA ⟨rfl, rfl⟩
theorem compare_spec (a b : List UInt8) : Spec Try.prog 59 [.string ⟨⟨a⟩⟩, .string ⟨⟨b⟩⟩] [] (fun v O => v = .int .i64 (Lib.compareBytes a b) ∧ O = []) := by
  refine Spec.of_ev S_ok S_mixed Try.func59 rfl rfl ?_
  repeat ((conv => whnf); (first | refine nowA ?_ | refine numN ?_ | refine numI ?_ | refine EvVal.ofN ?_ | refine EvNew.mk fun _ => ?_ | refine EvLoad.mk _ rfl _ rfl ?_ | refine divA ?_))
  refine callA (cmps_spec a b) ?_
  rintro _ _ ⟨rfl, rfl⟩
  repeat ((conv => whnf); (first | refine nowA ?_ | refine numN ?_ | refine numI ?_ | refine EvVal.ofN ?_ | refine EvNew.mk fun _ => ?_ | refine EvLoad.mk _ rfl _ rfl ?_ | refine divA ?_))
  exact retA ⟨rfl, rfl⟩
theorem findx_spec (x : En) (k : List UInt8) : Spec Try.prog 58 [.agg #[.string ⟨⟨x.key⟩⟩, .string ⟨⟨x.val⟩⟩, .int .i64 x.far], .string ⟨⟨k⟩⟩] [] (fun v O => v = .int .i64 (Lib.compareBytes x.key k) ∧ O = []) := by
  refine Spec.of_ev S_ok S_mixed Try.func58 rfl rfl ?_
  refine EvNew.mk fun q => ?_
  repeat ((conv => whnf); (first | (first | refine nowA ?_ | refine numN ?_ | refine numI ?_ | refine EvVal.ofN ?_ | refine EvNew.mk fun _ => ?_ | refine EvLoad.mk _ rfl _ rfl ?_ | refine divA ?_) | refine loadNA ?_ | refine EvStore.lit ⟨rfl, by decide⟩ (by rfl) ?_))
  refine callA (compare_spec x.key k) ?_
  rintro _ _ ⟨rfl, rfl⟩
  repeat ((conv => whnf); (first | (first | refine nowA ?_ | refine numN ?_ | refine numI ?_ | refine EvVal.ofN ?_ | refine EvNew.mk fun _ => ?_ | refine EvLoad.mk _ rfl _ rfl ?_ | refine divA ?_) | refine loadNA ?_ | refine EvStore.lit ⟨rfl, by decide⟩ (by rfl) ?_))
  exact retA ⟨rfl, rfl⟩

theorem cmp_lt {a b : List UInt8} : Lib.compareBytes a b < 0 ↔ Op.bytesLess a b = true := by
  rw [compare_less]
  split
  · rename_i h; simp [h]
  · rename_i h; split <;> simp [h]
theorem cmp_zero {a b : List UInt8} : Lib.compareBytes a b = 0 ↔ a = b := by
  rw [compare_less]
  split
  · rename_i h; have := less_ne h; simp [this]
  · split <;> simp_all

theorem search_spec (l : List En) (k : List UInt8) (ao : Option Addr) (n c : Nat) (hn : l.length = n) (hn2 : n ≤ 10000) (hs : Srt l) :
    Spec Try.prog 57 [.slice ao n c, .string ⟨⟨k⟩⟩, .func (.func 58) #[] #[]] [.view ao 87 (entV l)]
      (fun v O => v = .tuple #[.int .i64 (lowB l k), .bool (hasB l k)] ∧ O = []) := by
  refine Spec.of_ev S_ok S_mixed Try.func57 rfl rfl ?_
  repeat ((conv => whnf); (first | refine nowA ?_ | refine numN ?_ | refine numI ?_ | refine EvVal.ofN ?_ | refine EvNew.mk fun _ => ?_ | refine EvLoad.mk _ rfl _ rfl ?_ | refine divA ?_))
  refine EvLoop.mk (α := Nat × Nat) (fun x => x.1 ≤ x.2 ∧ x.2 ≤ n ∧ (∀ p, p < x.1 → Op.bytesLess (l.getD p d0).key k = true) ∧ (x.2 < n → Op.bytesLess (l.getD x.2 d0).key k = false)) (fun x => x.2 - x.1)
    (fun x => [(9, .int .i64 x.1), (10, .int .i64 x.2)]) (fun _ => [.view ao 87 (entV l)]) ?_ ?_
  · exact metA (0, n) ⟨by omega, by omega, fun p h => by omega, fun h => by omega⟩
  rintro ⟨i, j⟩ ⟨hij, hj, h1, h2⟩
  dsimp only at hij hj h1 h2 ⊢
  repeat ((conv => whnf); (first | refine nowA ?_ | refine numN ?_ | refine numI ?_ | refine EvVal.ofN ?_ | refine EvNew.mk fun _ => ?_ | refine EvLoad.mk _ rfl _ rfl ?_ | refine divA ?_))
  refine EvIf.br (brD (fun hlt => ?_) (fun hge => ?_))
  · repeat ((conv => whnf); (first | refine nowA ?_ | refine numN ?_ | refine numI ?_ | refine EvVal.ofN ?_ | refine EvNew.mk fun _ => ?_ | refine EvLoad.mk _ rfl _ rfl ?_ | refine divA ?_))
    refine EvPow.mk 2 (by decide) ?_
    refine EvVal.nat ?_
    repeat ((conv => whnf); (first | refine nowA ?_ | refine numN ?_ | refine numI ?_ | refine EvVal.ofN ?_ | refine EvNew.mk fun _ => ?_ | refine EvLoad.mk _ rfl _ rfl ?_ | refine divA ?_))
    have hm : (i + j) / 2 < l.length := by omega
    refine EvIdx.sl ((i + j) / 2) rfl (by omega) (by rw [entV_length]; omega) ?_
    refine EvLoadN.mk ((i + j) / 2 * 3) rfl _ rfl (entV_get hm) ?_
    refine callA (findx_spec (l.getD ((i + j) / 2) d0) k) ?_
    rintro _ _ ⟨rfl, rfl⟩
    repeat ((conv => whnf); (first | refine nowA ?_ | refine numN ?_ | refine numI ?_ | refine EvVal.ofN ?_ | refine EvNew.mk fun _ => ?_ | refine EvLoad.mk _ rfl _ rfl ?_ | refine divA ?_))
    refine EvIf.br (brD (fun hc => ?_) (fun hc => ?_))
    · have hless := cmp_lt.1 hc
      repeat ((conv => whnf); (first | refine nowA ?_ | refine numN ?_ | refine numI ?_ | refine EvVal.ofN ?_ | refine EvNew.mk fun _ => ?_ | refine EvLoad.mk _ rfl _ rfl ?_ | refine divA ?_))
      refine metA ((i + j) / 2 + 1, j) ⟨⟨by dsimp only; omega, hj, fun p hp => ?_, h2⟩, by dsimp only; omega⟩
      by_cases hp2 : p = (i + j) / 2
      · subst hp2; exact hless
      · exact less_of_less_of_nless (hs.get (j := (i + j) / 2) (by dsimp only at hp; omega) hm) (less_asymm hless)
    · have hless : Op.bytesLess (l.getD ((i + j) / 2) d0).key k = false := by
        cases h : Op.bytesLess (l.getD ((i + j) / 2) d0).key k with
        | false => rfl
        | true => exact absurd (cmp_lt.2 h) hc
      repeat ((conv => whnf); (first | refine nowA ?_ | refine numN ?_ | refine numI ?_ | refine EvVal.ofN ?_ | refine EvNew.mk fun _ => ?_ | refine EvLoad.mk _ rfl _ rfl ?_ | refine divA ?_))
      exact metA (i, (i + j) / 2) ⟨⟨by dsimp only; omega, by dsimp only; omega, h1, fun _ => hless⟩, by dsimp only; omega⟩
  · have e : i = j := by omega
    subst e
    have hlow : lowB l k = i := lowB_eq (by omega) h1 (fun h => h2 (by omega))
    repeat ((conv => whnf); (first | refine nowA ?_ | refine numN ?_ | refine numI ?_ | refine EvVal.ofN ?_ | refine EvNew.mk fun _ => ?_ | refine EvLoad.mk _ rfl _ rfl ?_ | refine divA ?_))
    refine EvCut.direct ?_
    by_cases hin : (i : Int) < n
    · repeat ((conv => whnf); (first | (first | (first | refine nowA ?_ | refine numN ?_ | refine numI ?_ | refine EvVal.ofN ?_ | refine EvNew.mk fun _ => ?_ | refine EvLoad.mk _ rfl _ rfl ?_ | refine divA ?_) | refine loadNA ?_ | refine EvStore.lit ⟨rfl, by decide⟩ (by rfl) ?_) | (first | refine brT ?_ | refine brF ?_ | refine iteT ?_ | refine iteF ?_)))
      have hm : i < l.length := by omega
      refine EvIdx.sl i rfl (by omega) (by rw [entV_length]; omega) ?_
      repeat ((conv => whnf); (first | (first | (first | refine nowA ?_ | refine numN ?_ | refine numI ?_ | refine EvVal.ofN ?_ | refine EvNew.mk fun _ => ?_ | refine EvLoad.mk _ rfl _ rfl ?_ | refine divA ?_) | refine loadNA ?_ | refine EvStore.lit ⟨rfl, by decide⟩ (by rfl) ?_) | (first | refine brT ?_ | refine brF ?_ | refine iteT ?_ | refine iteF ?_)))
      refine EvLoadN.mk (i * 3) rfl _ rfl (entV_get hm) ?_
      repeat ((conv => whnf); (first | (first | (first | refine nowA ?_ | refine numN ?_ | refine numI ?_ | refine EvVal.ofN ?_ | refine EvNew.mk fun _ => ?_ | refine EvLoad.mk _ rfl _ rfl ?_ | refine divA ?_) | refine loadNA ?_ | refine EvStore.lit ⟨rfl, by decide⟩ (by rfl) ?_) | (first | refine brT ?_ | refine brF ?_ | refine iteT ?_ | refine iteF ?_)))
      refine callA (findx_spec (l.getD i d0) k) ?_
      rintro _ _ ⟨rfl, rfl⟩
      repeat ((conv => whnf); (first | (first | (first | refine nowA ?_ | refine numN ?_ | refine numI ?_ | refine EvVal.ofN ?_ | refine EvNew.mk fun _ => ?_ | refine EvLoad.mk _ rfl _ rfl ?_ | refine divA ?_) | refine loadNA ?_ | refine EvStore.lit ⟨rfl, by decide⟩ (by rfl) ?_) | (first | refine brT ?_ | refine brF ?_ | refine iteT ?_ | refine iteF ?_)))
      refine retA ⟨?_, rfl⟩
      unfold hasB
      rw [hlow]
      simp only [oneOr, decide_eq_true (show i < l.length from hm), Bool.true_and, decide_eq_decide.2 cmp_zero]
    · repeat ((conv => whnf); (first | (first | (first | refine nowA ?_ | refine numN ?_ | refine numI ?_ | refine EvVal.ofN ?_ | refine EvNew.mk fun _ => ?_ | refine EvLoad.mk _ rfl _ rfl ?_ | refine divA ?_) | refine loadNA ?_ | refine EvStore.lit ⟨rfl, by decide⟩ (by rfl) ?_) | (first | refine brT ?_ | refine brF ?_ | refine iteT ?_ | refine iteF ?_)))
      refine retA ⟨?_, rfl⟩
      unfold hasB
      rw [hlow]
      simp only [oneOr, decide_eq_false (show ¬ i < l.length by omega), Bool.false_and]

theorem find_spec (leaf : Bool) (l : List En) (k : List UInt8) (ao : Option Addr) (n c : Nat) (hn : l.length = n) (hn2 : n ≤ 10000) (hs : Srt l) :
    Spec Try.prog 43 [.agg #[.bool leaf, .slice ao n c], .string ⟨⟨k⟩⟩] [.view ao 87 (entV l)] (fun v O => v = .tuple #[.int .i64 (lowB l k), .bool (hasB l k)] ∧ O = []) := by
  refine Spec.of_ev S_ok S_mixed Try.func43 rfl rfl ?_
  refine EvNew.mk fun q => ?_
  repeat ((conv => whnf); (first | (first | refine nowA ?_ | refine numN ?_ | refine numI ?_ | refine EvVal.ofN ?_ | refine EvNew.mk fun _ => ?_ | refine EvLoad.mk _ rfl _ rfl ?_ | refine divA ?_) | refine loadNA ?_ | refine EvStore.lit ⟨rfl, by decide⟩ (by rfl) ?_))
  refine callA (search_spec l k ao n c hn hn2 hs) ?_
  rintro _ _ ⟨rfl, rfl⟩
  repeat ((conv => whnf); (first | (first | refine nowA ?_ | refine numN ?_ | refine numI ?_ | refine EvVal.ofN ?_ | refine EvNew.mk fun _ => ?_ | refine EvLoad.mk _ rfl _ rfl ?_ | refine divA ?_) | refine loadNA ?_ | refine EvStore.lit ⟨rfl, by decide⟩ (by rfl) ?_))
  exact retA ⟨rfl, rfl⟩

theorem below_spec (leaf : Bool) (l : List En) (k : List UInt8) (ao : Option Addr) (n c : Nat) (hn : l.length = n) (hn2 : n ≤ 10000) (hs : Srt l) :
    Spec Try.prog 44 [.agg #[.bool leaf, .slice ao n c], .string ⟨⟨k⟩⟩] [.view ao 87 (entV l)] (fun v O => v = .int .i64 (belB l k) ∧ O = []) := by
  have hle := lowB_le l k
  refine Spec.of_ev S_ok S_mixed Try.func44 rfl rfl ?_
  refine EvNew.mk fun q => ?_
  repeat ((conv => whnf); (first | (first | refine nowA ?_ | refine numN ?_ | refine numI ?_ | refine EvVal.ofN ?_ | refine EvNew.mk fun _ => ?_ | refine EvLoad.mk _ rfl _ rfl ?_ | refine divA ?_) | refine loadNA ?_ | refine EvStore.lit ⟨rfl, by decide⟩ (by rfl) ?_))
  refine callA (find_spec leaf l k ao n c hn hn2 hs) ?_
  rintro _ _ ⟨rfl, rfl⟩
  repeat ((conv => whnf); (first | (first | refine nowA ?_ | refine numN ?_ | refine numI ?_ | refine EvVal.ofN ?_ | refine EvNew.mk fun _ => ?_ | refine EvLoad.mk _ rfl _ rfl ?_ | refine divA ?_) | refine loadNA ?_ | refine EvStore.lit ⟨rfl, by decide⟩ (by rfl) ?_))
  unfold belB
  cases hb : hasB l k
  · refine EvIf.br (brT ?_)
    repeat ((conv => whnf); (first | (first | refine nowA ?_ | refine numN ?_ | refine numI ?_ | refine EvVal.ofN ?_ | refine EvNew.mk fun _ => ?_ | refine EvLoad.mk _ rfl _ rfl ?_ | refine divA ?_) | refine loadNA ?_ | refine EvStore.lit ⟨rfl, by decide⟩ (by rfl) ?_))
    refine EvVal.eq (((lowB l k - 1 : Nat)) : Int) (by split <;> omega) ?_
    repeat ((conv => whnf); (first | (first | refine nowA ?_ | refine numN ?_ | refine numI ?_ | refine EvVal.ofN ?_ | refine EvNew.mk fun _ => ?_ | refine EvLoad.mk _ rfl _ rfl ?_ | refine divA ?_) | refine loadNA ?_ | refine EvStore.lit ⟨rfl, by decide⟩ (by rfl) ?_))
    exact retA ⟨rfl, rfl⟩
  · refine EvIf.br (brF ?_)
    repeat ((conv => whnf); (first | (first | refine nowA ?_ | refine numN ?_ | refine numI ?_ | refine EvVal.ofN ?_ | refine EvNew.mk fun _ => ?_ | refine EvLoad.mk _ rfl _ rfl ?_ | refine divA ?_) | refine loadNA ?_ | refine EvStore.lit ⟨rfl, by decide⟩ (by rfl) ?_))
    refine EvVal.eq ((lowB l k : Nat) : Int) (by split <;> omega) ?_
    repeat ((conv => whnf); (first | (first | refine nowA ?_ | refine numN ?_ | refine numI ?_ | refine EvVal.ofN ?_ | refine EvNew.mk fun _ => ?_ | refine EvLoad.mk _ rfl _ rfl ?_ | refine divA ?_) | refine loadNA ?_ | refine EvStore.lit ⟨rfl, by decide⟩ (by rfl) ?_))
    exact retA ⟨rfl, rfl⟩

theorem bytL_append (a b : List En) : bytL (a ++ b) = bytL a + bytL b := by
  simp only [bytL, List.map_append]
  induction a.map bytE with
  | nil => simp [sumL]
  | cons x r ih => simp only [List.cons_append, sumL, ih]; omega
theorem bytL_one (x : En) : bytL [x] = bytE x := by simp [bytL, sumL]
theorem bytL_take_le (l : List En) (i : Nat) : bytL (l.take i) ≤ bytL l := by
  have := bytL_append (l.take i) (l.drop i)
  rw [List.take_append_drop] at this
  omega
theorem Lit.byt {l : List En} (h : Lit l) : bytL l ≤ l.length * 20007 := by
  induction l with
  | nil => simp [bytL, sumL]
  | cons x r ih =>
    have h1 := h x (.head _)
    have h2 := ih fun y hy => h y (.tail _ hy)
    simp only [bytL, List.map_cons, sumL, List.length_cons, Nat.succ_mul] at h2 ⊢
    have : bytE x ≤ 20007 := by unfold bytE; omega
    omega
theorem Lit.sub {a b : List En} (h : Lit b) (hs : a ⊆ b) : Lit a := fun x hx => h x (hs hx)

theorem bytes_spec (l : List En) (ao : Option Addr) (n c : Nat) (hn : l.length = n) (hn2 : n ≤ 10000) (hl : Lit l) :
    Spec Try.prog 60 [.slice ao n c] [.view ao 87 (entV l)] (fun v O => v = .int .i64 (bytL l) ∧ O = []) := by
  have hb := hl.byt
  rw [hn] at hb
  have hb2 : n * 20007 ≤ 10000 * 20007 := Nat.mul_le_mul_right _ hn2
  refine Spec.of_ev S_ok S_mixed Try.func60 rfl rfl ?_
  repeat ((conv => whnf); (first | refine nowA ?_ | refine numN ?_ | refine numI ?_ | refine EvVal.ofN ?_ | refine EvNew.mk fun _ => ?_ | refine EvLoad.mk _ rfl _ rfl ?_ | refine divA ?_))
  refine EvLoop.mk (α := Nat) (fun i => i ≤ n) (fun i => n - i) (fun i => [(8, .int .i64 i), (3, .int .i64 (bytL (l.take i)))]) (fun _ => [.view ao 87 (entV l)]) ?_ ?_
  · exact metA 0 (Nat.zero_le _)
  intro i hi
  repeat ((conv => whnf); (first | refine nowA ?_ | refine numN ?_ | refine numI ?_ | refine EvVal.ofN ?_ | refine EvNew.mk fun _ => ?_ | refine EvLoad.mk _ rfl _ rfl ?_ | refine divA ?_))
  refine EvIf.br (brD (fun hlt => ?_) (fun hge => ?_))
  · have hlt : i < l.length := by omega
    have hx := hl.get hlt
    have e : bytL (l.take (i + 1)) = bytL (l.take i) + bytE (l.getD i d0) := by rw [take_succ_getD hlt d0, bytL_append, bytL_one]
    have hle := bytL_take_le l (i + 1)
    refine EvIdx.sl i rfl (by omega) (by rw [entV_length]; omega) ?_
    refine EvLoadN.mk (i * 3) rfl _ rfl (entV_get hlt) ?_
    refine EvNew.mk fun p => ?_
    unfold bytE at e
    repeat ((conv => whnf); (first | (first | refine nowA ?_ | refine numN ?_ | refine numI ?_ | refine EvVal.ofN ?_ | refine EvNew.mk fun _ => ?_ | refine EvLoad.mk _ rfl _ rfl ?_ | refine divA ?_) | refine loadNA ?_ | refine EvStore.lit ⟨rfl, by decide⟩ (by rfl) ?_))
    refine metA (i + 1) ⟨by omega, by omega⟩ ⟨rfl, ?_, trivial⟩
    rw [e]
    (try simp only [getF, Option.some.injEq, Value.int.injEq, true_and])
    (try omega)
  · have e : i = n := by omega
    subst e
    rw [show l.take i = l by rw [← hn, List.take_length]]
    repeat ((conv => whnf); (first | refine nowA ?_ | refine numN ?_ | refine numI ?_ | refine EvVal.ofN ?_ | refine EvNew.mk fun _ => ?_ | refine EvLoad.mk _ rfl _ rfl ?_ | refine divA ?_))
    exact retA ⟨rfl, rfl⟩
end Go.Proofs.Ytloknkdomgeolaa.She
