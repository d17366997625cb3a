/- The walks of the functions of slots: is a payload sound? -/
import Derived.Test.YtloknkdomgeolaaSlC
namespace Go.Proofs.Ytloknkdomgeolaa.She
set_option linter.all false
open Go
set_option pp.maxSteps 600
set_option maxRecDepth 10000

def apartP (x y : Nat × Nat) : Prop := x.2 = 0 ∨ y.2 = 0 ∨ x.1 + x.2 ≤ y.1 ∨ y.1 + y.2 ≤ x.1
instance (x y : Nat × Nat) : Decidable (apartP x y) := by unfold apartP; exact inferInstance

theorem apart_spec (x y : Nat × Nat) (hx : x.1 < 100000 ∧ x.2 < 100000) (hy : y.1 < 100000 ∧ y.2 < 100000) :
    Spec Try.prog 52 [.agg #[.int .i64 x.1, .int .i64 x.2], .agg #[.int .i64 y.1, .int .i64 y.2]] [] (fun v O => v = .bool (decide (apartP x y)) ∧ O = []) := by
  refine Spec.of_ev S_ok S_mixed Try.func52 rfl rfl ?_
  repeat ((conv => whnf); (first | refine nowA ?_ | refine numN ?_ | refine numI ?_ | refine EvVal.ofN ?_ | refine EvNew.mk fun _ => ?_ | refine EvLoad.mk _ rfl _ rfl ?_ | refine divA ?_))
  refine EvCut.direct ?_
  repeat' ((conv => whnf); (first | (first | refine nowA ?_ | refine numN ?_ | refine numI ?_ | refine EvVal.ofN ?_ | refine EvNew.mk fun _ => ?_ | refine EvLoad.mk _ rfl _ rfl ?_ | refine divA ?_) | (first | refine brT ?_ | refine brF ?_ | refine iteT ?_ | refine iteF ?_ | refine brD (fun _ => ?_) (fun _ => ?_))))
  all_goals
    refine EvRet.mk [] .nil rfl ⟨?_, rfl⟩
    simp only [oneOr, Value.bool.injEq]
    symm
    simp only [decide_eq_decide, decide_eq_true_eq]
    unfold apartP
    omega

def soundAt (l : List UInt8) (i : Nat) : Prop := (tw l 2 ≤ (slot l i).1 ∧ (slot l i).1 + (slot l i).2 ≤ 232) ∧ ∀ j, j < i → apartP (slot l i) (slot l j)
instance (l : List UInt8) (i : Nat) : Decidable (soundAt l i) := by unfold soundAt; exact inferInstance
/-- A payload of 232 bytes is sound. -/
def SoundP (l : List UInt8) : Prop := tw l 2 ≤ 232 ∧ 4 + 4 * tw l 0 ≤ tw l 2 ∧ ∀ i, i < tw l 0 → soundAt l i
instance (l : List UInt8) : Decidable (SoundP l) := by unfold SoundP; exact inferInstance
/-- What Check answers. -/
def chk (l : List UInt8) : Int := if l.length = 232 then (if SoundP l then 0 else 14) else 6

theorem slot_lt (l : List UInt8) (i : Nat) : (slot l i).1 < 65536 ∧ (slot l i).2 < 65536 := ⟨tw_lt _ _, tw_lt _ _⟩

theorem chk_spec (l : List UInt8) (hl : l.length < 9223372036854775807) : Spec Try.prog 24 [.string ⟨⟨l⟩⟩] [] (fun v O => v = .int .i64 (chk l) ∧ O = []) := by
  refine Spec.of_ev S_ok S_mixed Try.func24 rfl rfl ?_
  repeat ((conv => whnf); (first | refine nowA ?_ | refine numN ?_ | refine numI ?_ | refine EvVal.ofN ?_ | refine EvNew.mk fun _ => ?_ | refine EvLoad.mk _ rfl _ rfl ?_ | refine divA ?_))
  refine EvIf.br (EvBr.dec _ _ rfl (fun h => ?_) (fun h => ?_))
  · refine EvRet.mk [] .nil rfl ⟨?_, rfl⟩
    simp only [oneOr, chk, if_neg (show ¬ l.length = 232 by omega)]
  have h232 : l.length = 232 := by omega
  refine EvCall.mk [] [] _ (two_spec l 0 (by omega) (by omega)) .nil ?_
  rintro _ _ ⟨rfl, rfl⟩
  refine EvCall.mk [] [] _ (two_spec l 2 (by omega) (by omega)) .nil ?_
  rintro _ _ ⟨rfl, rfl⟩
  have t0 := tw_lt l 0
  have t2 := tw_lt l 2
  conv => whnf
  refine EvCut.cut (α := Unit) (fun _ => True) (fun _ => [(26, .bool (decide (tw l 2 > 232 ∨ 4 + 4 * tw l 0 > tw l 2)))]) (fun _ => []) ?_ ?_
  · repeat' ((conv => whnf); (first | (first | refine nowA ?_ | refine numN ?_ | refine numI ?_ | refine EvVal.ofN ?_ | refine EvNew.mk fun _ => ?_ | refine EvLoad.mk _ rfl _ rfl ?_ | refine divA ?_) | (first | refine brT ?_ | refine brF ?_ | refine iteT ?_ | refine iteF ?_ | refine brD (fun _ => ?_) (fun _ => ?_))))
    · refine ⟨(), trivial, ⟨?_, trivial⟩, rfl, .nil⟩
      rw [show decide (tw l 2 > 232 ∨ 4 + 4 * tw l 0 > tw l 2) = true from decide_eq_true (by omega)]
      rfl
    · refine ⟨(), trivial, ⟨?_, trivial⟩, rfl, .nil⟩
      simp only [getF, Option.some.injEq, Value.bool.injEq, decide_eq_decide]
      omega
  intro _ _
  repeat ((conv => whnf); (first | refine nowA ?_ | refine numN ?_ | refine numI ?_ | refine EvVal.ofN ?_ | refine EvNew.mk fun _ => ?_ | refine EvLoad.mk _ rfl _ rfl ?_ | refine divA ?_))
  refine EvIf.br (EvBr.dec _ _ rfl (fun h => ?_) (fun h => ?_))
  · refine EvRet.mk [] .nil rfl ⟨?_, rfl⟩
    have : ¬ SoundP l := fun hs => by have h1 := hs.1; have h2 := hs.2.1; omega
    simp only [oneOr, chk, if_pos h232, if_neg this]
  refine EvCall.mk [] [] _ (list_spec l (by omega) (by omega)) .nil ?_
  rintro _ _ ⟨ao, cap, hcap, rfl, rfl⟩
  conv => whnf
  refine EvLoop.mk (α := Nat) (fun i => i ≤ tw l 0 ∧ ∀ k, k < i → soundAt l k) (fun i => tw l 0 - i) (fun i => [(31, .int .i64 i)]) (fun _ => [.row ao cap 81 2 (slV (slotsOf l (tw l 0)))]) ?_ ?_
  · exact ⟨0, ⟨by omega, fun k hk => absurd hk (by omega)⟩, ⟨rfl, trivial⟩, rfl, .cons .here .nil⟩
  rintro i ⟨hi, hs⟩
  repeat ((conv => whnf); (first | refine nowA ?_ | refine numN ?_ | refine numI ?_ | refine EvVal.ofN ?_ | refine EvNew.mk fun _ => ?_ | refine EvLoad.mk _ rfl _ rfl ?_ | refine divA ?_))
  refine EvIf.br (EvBr.dec _ _ rfl (fun h => ?_) (fun h => ?_))
  · have hlt : i < tw l 0 := by omega
    refine EvIdx.row i rfl hlt (by rw [slV_length]; simp; omega) ?_
    refine EvLoadN.mk (i * 2) rfl _ rfl (slV_get (slotsOf_get l hlt)) ?_
    refine EvNew.mk fun q => ?_
    repeat ((conv => whnf); (first | (first | refine nowA ?_ | refine numN ?_ | refine numI ?_ | refine EvVal.ofN ?_ | refine EvNew.mk fun _ => ?_ | refine EvLoad.mk _ rfl _ rfl ?_ | refine divA ?_) | refine loadNA ?_ | refine EvStore.lit ⟨rfl, by decide⟩ (by rfl) ?_))
    have hq := slot_lt l i
    refine EvCut.cut (α := Unit) (fun _ => True) (fun _ => [(47, .bool (decide ((slot l i).1 < tw l 2 ∨ (slot l i).1 + (slot l i).2 > 232)))]) (fun _ => [.blk q 81 [.int .i64 (slot l i).1, .int .i64 (slot l i).2], .row ao cap 81 2 (slV (slotsOf l (tw l 0)))]) ?_ ?_
    · repeat' ((conv => whnf); (first | (first | refine nowA ?_ | refine numN ?_ | refine numI ?_ | refine EvVal.ofN ?_ | refine EvNew.mk fun _ => ?_ | refine EvLoad.mk _ rfl _ rfl ?_ | refine divA ?_) | (first | refine brT ?_ | refine brF ?_ | refine iteT ?_ | refine iteF ?_ | refine brD (fun _ => ?_) (fun _ => ?_))))
      · refine ⟨(), trivial, ⟨?_, trivial⟩, rfl, .cons .here (.cons .here .nil)⟩
        rw [show decide ((slot l i).1 < tw l 2 ∨ (slot l i).1 + (slot l i).2 > 232) = true from decide_eq_true (by omega)]
        rfl
      · refine ⟨(), trivial, ⟨?_, trivial⟩, rfl, .cons .here (.cons .here .nil)⟩
        simp only [getF, Option.some.injEq, Value.bool.injEq, decide_eq_decide]
        omega
    intro _ _
    repeat ((conv => whnf); (first | refine nowA ?_ | refine numN ?_ | refine numI ?_ | refine EvVal.ofN ?_ | refine EvNew.mk fun _ => ?_ | refine EvLoad.mk _ rfl _ rfl ?_ | refine divA ?_))
    refine EvIf.br (EvBr.dec _ _ rfl (fun h => ?_) (fun h => ?_))
    · refine EvRet.mk [] .nil rfl ⟨?_, rfl⟩
      have : ¬ SoundP l := fun hs => by have := (hs.2.2 i hlt).1; omega
      simp only [oneOr, chk, if_pos h232, if_neg this]
    repeat ((conv => whnf); (first | refine nowA ?_ | refine numN ?_ | refine numI ?_ | refine EvVal.ofN ?_ | refine EvNew.mk fun _ => ?_ | refine EvLoad.mk _ rfl _ rfl ?_ | refine divA ?_))
    refine EvLoop.mk (α := Nat) (fun j => j ≤ i ∧ ∀ k, k < j → apartP (slot l i) (slot l k)) (fun j => i - j) (fun j => [(52, .int .i64 j)]) (fun _ => [.blk q 81 [.int .i64 (slot l i).1, .int .i64 (slot l i).2], .row ao cap 81 2 (slV (slotsOf l (tw l 0)))]) ?_ ?_
    · exact ⟨0, ⟨by omega, fun k hk => absurd hk (by omega)⟩, ⟨rfl, trivial⟩, rfl, .cons .here (.cons .here .nil)⟩
    rintro j ⟨hj, hs2⟩
    repeat ((conv => whnf); (first | refine nowA ?_ | refine numN ?_ | refine numI ?_ | refine EvVal.ofN ?_ | refine EvNew.mk fun _ => ?_ | refine EvLoad.mk _ rfl _ rfl ?_ | refine divA ?_))
    refine EvIf.br (EvBr.dec _ _ rfl (fun h => ?_) (fun h => ?_))
    · have hjlt : j < i := by omega
      refine EvIdx.row j rfl hjlt (by rw [slV_length]; simp; omega) ?_
      refine EvLoadN.mk (j * 2) rfl _ rfl (slV_get (slotsOf_get l (Nat.lt_trans hjlt hlt))) ?_
      refine EvNew.mk fun q2 => ?_
      repeat ((conv => whnf); (first | (first | refine nowA ?_ | refine numN ?_ | refine numI ?_ | refine EvVal.ofN ?_ | refine EvNew.mk fun _ => ?_ | refine EvLoad.mk _ rfl _ rfl ?_ | refine divA ?_) | refine loadNA ?_ | refine EvStore.lit ⟨rfl, by decide⟩ (by rfl) ?_))
      have hq2 := slot_lt l j
      refine EvCall.mk [] _ _ (apart_spec (slot l i) (slot l j) (by omega) (by omega)) .nil ?_
      rintro _ _ ⟨rfl, rfl⟩
      repeat ((conv => whnf); (first | refine nowA ?_ | refine numN ?_ | refine numI ?_ | refine EvVal.ofN ?_ | refine EvNew.mk fun _ => ?_ | refine EvLoad.mk _ rfl _ rfl ?_ | refine divA ?_))
      refine EvIf.br (EvBr.ndec _ _ rfl (fun h => ?_) (fun h => ?_))
      · refine EvRet.mk [] .nil rfl ⟨?_, rfl⟩
        have : ¬ SoundP l := fun hs => h ((hs.2.2 i hlt).2 j hjlt)
        simp only [oneOr, chk, if_pos h232, if_neg this]
      repeat ((conv => whnf); (first | refine nowA ?_ | refine numN ?_ | refine numI ?_ | refine EvVal.ofN ?_ | refine EvNew.mk fun _ => ?_ | refine EvLoad.mk _ rfl _ rfl ?_ | refine divA ?_))
      refine ⟨j + 1, ⟨⟨by omega, fun k hk => ?_⟩, by omega⟩, ⟨rfl, trivial⟩, rfl, .cons (.there .here) (.cons (.there .here) .nil)⟩
      by_cases hkj : k = j
      · subst hkj; exact h
      · exact hs2 k (by omega)
    repeat ((conv => whnf); (first | refine nowA ?_ | refine numN ?_ | refine numI ?_ | refine EvVal.ofN ?_ | refine EvNew.mk fun _ => ?_ | refine EvLoad.mk _ rfl _ rfl ?_ | refine divA ?_))
    refine ⟨i + 1, ⟨⟨by omega, fun k hk => ?_⟩, by omega⟩, ⟨rfl, trivial⟩, rfl, .cons (.there .here) .nil⟩
    by_cases hki : k = i
    · subst hki; exact ⟨by omega, fun m hm => hs2 m (by omega)⟩
    · exact hs k (by omega)
  refine EvRet.mk [] .nil rfl ⟨?_, rfl⟩
  have : SoundP l := ⟨by omega, by omega, fun k hk => hs k (by omega)⟩
  simp only [oneOr, chk, if_pos h232, if_pos this]

end Go.Proofs.Ytloknkdomgeolaa.She
