/- The walks of what the laws of slots share: the calls that must come at any rate, and one call of a list of calls. -/
import Derived.Test.YtloknkdomgeolaaSlI
namespace Go.Proofs.Ytloknkdomgeolaa.She
set_option linter.all false
open Go
set_option pp.maxSteps 600
set_option maxRecDepth 10000
set_option maxHeartbeats 4000000

theorem insert_ok {l r : List UInt8} {i : Nat} (h : chk l = 0) (hi : i ≤ (recs l).length) (hr : (r.length : Int) ≤ roomL (recs l) - 4) : Spec Try.prog 13 [.string ⟨⟨l⟩⟩, .int .i64 i, .string ⟨⟨r⟩⟩] []
    (fun v O => ∃ b, chk b = 0 ∧ recs b = ins (recs l) i r ∧ v = .tuple #[.string ⟨⟨b⟩⟩, .int .i64 0] ∧ O = []) := by
  have hrl : roomL (recs l) ≤ 228 := by unfold roomL; omega
  refine (insert_spec l i r (by have := (chk_zero h).1; omega) (by omega)).mono ?_
  rintro v O ⟨rfl, rfl⟩
  obtain ⟨h1, h2⟩ := insB_ok h hi hr
  exact ⟨insB l i r, h1, h2, by rw [if_pos h, if_pos (by omega), if_pos hr]; rfl, rfl⟩

theorem awake_spec : Spec Try.prog 15 [] [] (fun v O => v = .bool true ∧ O = []) := by
  refine Spec.of_ev S_ok S_mixed Try.func15 rfl rfl ?_
  refine EvCall.mk [] _ _ empty_spec .nil ?_
  rintro _ _ ⟨rfl, rfl⟩
  refine EvCall.mk [] _ _ (insert_ok (l := emptyB) (i := 0) (r := [97, 98, 99]) emptyB_ok.1 (by omega) (by rw [emptyB_ok.2]; decide)) .nil ?_
  rintro _ _ ⟨b, hb, hbr, rfl, rfl⟩
  rw [emptyB_ok.2] at hbr
  replace hbr : recs b = [[97, 98, 99]] := hbr
  refine EvCall.mk [] _ _ (get_spec b 0 (by have := (chk_zero hb).1; omega)) .nil ?_
  rintro _ _ ⟨rfl, rfl⟩
  rw [if_pos hb, hbr, if_pos (by decide)]
  refine EvCall.mk [] _ _ (insert_ok (i := 0) (r := [100]) hb (by omega) (by rw [hbr]; decide)) .nil ?_
  rintro _ _ ⟨c, hc, hcr, rfl, rfl⟩
  rw [hbr] at hcr
  replace hcr : recs c = [[100], [97, 98, 99]] := hcr
  have hcl : c.length < 9223372036854775807 := by have := (chk_zero hc).1; omega
  refine EvCall.mk [] _ _ (all_spec c hcl) .nil ?_
  rintro _ _ ⟨a1, c1, hc1, rfl, rfl⟩
  rw [hc, hcr]
  repeat ((conv => whnf); (first | refine nowA ?_ | refine numN ?_ | refine numI ?_ | refine EvVal.ofN ?_ | refine EvNew.mk fun _ => ?_ | refine EvLoad.mk _ rfl _ rfl ?_ | refine divA ?_))
  refine EvCut.direct ?_
  repeat ((conv => whnf); (first | (first | refine nowA ?_ | refine numN ?_ | refine numI ?_ | refine EvVal.ofN ?_ | refine EvNew.mk fun _ => ?_ | refine EvLoad.mk _ rfl _ rfl ?_ | refine divA ?_) | (first | refine brT ?_ | refine brF ?_ | refine iteT ?_ | refine iteF ?_)))
  refine EvCall.mk _ _ _ (same_spec [[100], [97, 98, 99]] [[100], [97, 98, 99]] a1 _ _ _ _ _ rfl rfl (by decide) (by decide)) (.view (.view .nil sees_all) sees_all) ?_
  rintro _ _ ⟨rfl, rfl⟩
  repeat ((conv => whnf); (first | (first | refine nowA ?_ | refine numN ?_ | refine numI ?_ | refine EvVal.ofN ?_ | refine EvNew.mk fun _ => ?_ | refine EvLoad.mk _ rfl _ rfl ?_ | refine divA ?_) | (first | refine brT ?_ | refine brF ?_ | refine iteT ?_ | refine iteF ?_)))
  refine EvCall.mk [] _ _ (room_spec c hcl) .nil ?_
  rintro _ _ ⟨rfl, rfl⟩
  rw [room_eq hc, hcr]
  repeat ((conv => whnf); (first | (first | refine nowA ?_ | refine numN ?_ | refine numI ?_ | refine EvVal.ofN ?_ | refine EvNew.mk fun _ => ?_ | refine EvLoad.mk _ rfl _ rfl ?_ | refine divA ?_) | (first | refine brT ?_ | refine brF ?_ | refine iteT ?_ | refine iteF ?_)))
  refine EvCall.mk [] _ _ (len_spec c hcl) .nil ?_
  rintro _ _ ⟨rfl, rfl⟩
  rw [hcr]
  repeat ((conv => whnf); (first | (first | refine nowA ?_ | refine numN ?_ | refine numI ?_ | refine EvVal.ofN ?_ | refine EvNew.mk fun _ => ?_ | refine EvLoad.mk _ rfl _ rfl ?_ | refine divA ?_) | (first | refine brT ?_ | refine brF ?_ | refine iteT ?_ | refine iteF ?_)))
  refine EvRet.mk [] .nil rfl ⟨rfl, rfl⟩

/-- One call of a payload, and of the list that it is. -/
theorem do_spec (b r : List UInt8) (rs : List (List UInt8)) (k i : Int) (ao : Option Addr) (c cap : Nat) (hb : chk b = 0) (hr : recs b = rs) (hc : rs.length ≤ c) (hrl : r.length ≤ 9223372036854775807) :
    Spec Try.prog 18 [.string ⟨⟨b⟩⟩, .slice ao rs.length c, .agg #[.int .i64 k, .int .i64 i, .string ⟨⟨r⟩⟩]] [.row ao cap 9 1 (strV rs)]
      (fun v O => ∃ b' rs' a' c' cap', chk b' = 0 ∧ recs b' = rs' ∧ rs'.length ≤ c' ∧ v = .tuple #[.string ⟨⟨b'⟩⟩, .slice a' rs'.length c', .bool true] ∧ O = [.row a' cap' 9 1 (strV rs')]) := by
  have hroom := recs_room hb
  have hbl : b.length < 9223372036854775807 := by have := (chk_zero hb).1; omega
  rw [hr] at hroom
  have hlens : ∀ r ∈ rs, r.length ≤ 10000 := fun r h => by have := mem_sumL h; omega
  refine Spec.of_ev S_ok S_mixed Try.func18 rfl rfl ?_
  refine EvNew.mk fun q => ?_
  repeat ((conv => whnf); (first | (first | refine nowA ?_ | refine numN ?_ | refine numI ?_ | refine EvVal.ofN ?_ | refine EvNew.mk fun _ => ?_ | refine EvLoad.mk _ rfl _ rfl ?_ | refine divA ?_) | refine loadNA ?_ | refine EvStore.lit ⟨rfl, by decide⟩ (by rfl) ?_))
  refine EvIf.cut (α := Unit) (fun _ => True) (fun _ => [(17, .bool (decide (k = 0 ∨ k = 1 ∨ k = 2 ∨ k = 3)))]) (fun _ => [.blk q 33 [.int .i64 k, .int .i64 i, .string ⟨⟨r⟩⟩], .row ao cap 9 1 (strV rs)]) ?_ ?_
  · have fin : ∀ (p : Prop) [Decidable p], (p ↔ (k = 0 ∨ k = 1 ∨ k = 2 ∨ k = 3)) → some (Value.bool (decide p)) = some (.bool (decide (k = 0 ∨ k = 1 ∨ k = 2 ∨ k = 3))) := fun p _ h => by rw [decide_eq_decide.2 h]
    refine EvBr.dec _ _ rfl (fun h => ?_) (fun h => ?_)
    · exact ⟨(), trivial, ⟨fin _ (by omega), trivial⟩, rfl, .cons .here (.cons .here .nil)⟩
    repeat ((conv => whnf); (first | refine nowA ?_ | refine numN ?_ | refine numI ?_ | refine EvVal.ofN ?_ | refine EvNew.mk fun _ => ?_ | refine EvLoad.mk _ rfl _ rfl ?_ | refine divA ?_))
    refine EvIf.br (EvBr.dec _ _ rfl (fun h => ?_) (fun h => ?_))
    · exact ⟨(), trivial, ⟨fin _ (by omega), trivial⟩, rfl, .cons .here (.cons .here .nil)⟩
    repeat ((conv => whnf); (first | refine nowA ?_ | refine numN ?_ | refine numI ?_ | refine EvVal.ofN ?_ | refine EvNew.mk fun _ => ?_ | refine EvLoad.mk _ rfl _ rfl ?_ | refine divA ?_))
    refine EvIf.br (EvBr.dec _ _ rfl (fun h => ?_) (fun h => ?_))
    · exact ⟨(), trivial, ⟨fin _ (by omega), trivial⟩, rfl, .cons .here (.cons .here .nil)⟩
    repeat ((conv => whnf); (first | refine nowA ?_ | refine numN ?_ | refine numI ?_ | refine EvVal.ofN ?_ | refine EvNew.mk fun _ => ?_ | refine EvLoad.mk _ rfl _ rfl ?_ | refine divA ?_))
    exact ⟨(), trivial, ⟨fin _ (by omega), trivial⟩, rfl, .cons .here (.cons .here .nil)⟩
  intro _ _
  conv => whnf
  refine EvIf.br (EvBr.dec _ _ rfl (fun hk => ?_) (fun hk => ?_))
  · repeat ((conv => whnf); (first | (first | refine nowA ?_ | refine numN ?_ | refine numI ?_ | refine EvVal.ofN ?_ | refine EvNew.mk fun _ => ?_ | refine EvLoad.mk _ rfl _ rfl ?_ | refine divA ?_) | refine loadNA ?_ | refine EvStore.lit ⟨rfl, by decide⟩ (by rfl) ?_))
    refine EvCall.mk [] _ _ (insert_spec b i r hbl hrl) .nil ?_
    rintro _ _ ⟨rfl, rfl⟩
    rw [if_pos hb, hr]
    have hrb : roomL rs ≤ 228 ∧ 0 ≤ roomL rs := by unfold roomL; omega
    by_cases hi : 0 ≤ i ∧ i ≤ rs.length
    · rw [if_pos hi]
      by_cases hrm : (r.length : Int) ≤ roomL rs - 4
      · rw [if_pos hrm]
        repeat ((conv => whnf); (first | (first | refine nowA ?_ | refine numN ?_ | refine numI ?_ | refine EvVal.ofN ?_ | refine EvNew.mk fun _ => ?_ | refine EvLoad.mk _ rfl _ rfl ?_ | refine divA ?_) | refine loadNA ?_ | refine EvStore.lit ⟨rfl, by decide⟩ (by rfl) ?_))
        refine EvCut.cut (α := Unit) (fun _ => True) (fun _ => [(40, .bool (decide (¬ (0 ≤ i ∧ i ≤ rs.length))))]) (fun _ => [.blk q 33 [.int .i64 k, .int .i64 i, .string ⟨⟨r⟩⟩], .row ao cap 9 1 (strV rs)]) ?_ ?_
        · repeat' ((conv => whnf); (first | (first | (first | refine nowA ?_ | refine numN ?_ | refine numI ?_ | refine EvVal.ofN ?_ | refine EvNew.mk fun _ => ?_ | refine EvLoad.mk _ rfl _ rfl ?_ | refine divA ?_) | refine loadNA ?_ | refine EvStore.lit ⟨rfl, by decide⟩ (by rfl) ?_) | (first | refine brT ?_ | refine brF ?_ | refine iteT ?_ | refine iteF ?_ | refine brD (fun _ => ?_) (fun _ => ?_))))
          · refine ⟨(), trivial, ⟨?_, trivial⟩, rfl, .cons .here (.cons .here .nil)⟩
            rw [show decide (¬ (0 ≤ i ∧ i ≤ rs.length)) = true from decide_eq_true (by omega)]
            rfl
          · refine ⟨(), trivial, ⟨?_, trivial⟩, rfl, .cons .here (.cons .here .nil)⟩
            simp only [getF, Option.some.injEq, Value.bool.injEq, decide_eq_decide]
            omega
        intro _ _
        repeat ((conv => whnf); (first | (first | refine nowA ?_ | refine numN ?_ | refine numI ?_ | refine EvVal.ofN ?_ | refine EvNew.mk fun _ => ?_ | refine EvLoad.mk _ rfl _ rfl ?_ | refine divA ?_) | refine loadNA ?_ | refine EvStore.lit ⟨rfl, by decide⟩ (by rfl) ?_))
        refine EvIf.br (EvBr.dec _ _ rfl (fun h => absurd hi h) (fun _ => ?_))
        conv => whnf
        refine EvDraw.mk (.group [0,1,2,3,4,5,6] .nil) (by kernel_rfl) ?_
        repeat ((conv => whnf); (first | (first | refine nowA ?_ | refine numN ?_ | refine numI ?_ | refine EvVal.ofN ?_ | refine EvNew.mk fun _ => ?_ | refine EvLoad.mk _ rfl _ rfl ?_ | refine divA ?_) | refine loadNA ?_ | refine EvStore.lit ⟨rfl, by decide⟩ (by rfl) ?_))
        refine EvQCall.mk _ _ ((rroom_spec rs ao _ _ rfl hlens (by omega)).mono fun v O h => h.1) (.view .nil sees_all) ?_
        repeat ((conv => whnf); (first | (first | refine nowA ?_ | refine numN ?_ | refine numI ?_ | refine EvVal.ofN ?_ | refine EvNew.mk fun _ => ?_ | refine EvLoad.mk _ rfl _ rfl ?_ | refine divA ?_) | refine loadNA ?_ | refine EvStore.lit ⟨rfl, by decide⟩ (by rfl) ?_))
        refine EvIf.br (EvBr.dec _ _ rfl (fun h => absurd h (by omega)) (fun _ => ?_))
        obtain ⟨j, rfl⟩ := Int.eq_ofNat_of_zero_le hi.1
        have hj : j ≤ rs.length := by omega
        obtain ⟨o1, o2⟩ := insB_ok hb (i := j) (by rw [hr]; omega) (by rw [hr]; exact hrm)
        rw [hr] at o2
        repeat ((conv => whnf); (first | (first | refine nowA ?_ | refine numN ?_ | refine numI ?_ | refine EvVal.ofN ?_ | refine EvNew.mk fun _ => ?_ | refine EvLoad.mk _ rfl _ rfl ?_ | refine divA ?_) | refine loadNA ?_ | refine EvStore.lit ⟨rfl, by decide⟩ (by rfl) ?_))
        refine EvCall.mk _ _ _ (rput_spec rs r ao rs.length c j rfl hj hc (by omega)) (.view .nil sees_all) ?_
        rintro _ _ ⟨a3, c3, hc3, rfl, rfl⟩
        repeat ((conv => whnf); (first | (first | refine nowA ?_ | refine numN ?_ | refine numI ?_ | refine EvVal.ofN ?_ | refine EvNew.mk fun _ => ?_ | refine EvLoad.mk _ rfl _ rfl ?_ | refine divA ?_) | refine loadNA ?_ | refine EvStore.lit ⟨rfl, by decide⟩ (by rfl) ?_))
        have hil : (ins rs j r).length = rs.length + 1 := by simp [ins]; omega
        refine EvRet.mk [_] (.cons .here .nil) rfl ⟨insB b j r, ins rs j r, a3, c3, c3, o1, o2, by omega, ?_, rfl⟩
        rw [hil]; rfl
      · rw [if_neg hrm]
        repeat ((conv => whnf); (first | (first | refine nowA ?_ | refine numN ?_ | refine numI ?_ | refine EvVal.ofN ?_ | refine EvNew.mk fun _ => ?_ | refine EvLoad.mk _ rfl _ rfl ?_ | refine divA ?_) | refine loadNA ?_ | refine EvStore.lit ⟨rfl, by decide⟩ (by rfl) ?_))
        refine EvCut.cut (α := Unit) (fun _ => True) (fun _ => [(40, .bool (decide (¬ (0 ≤ i ∧ i ≤ rs.length))))]) (fun _ => [.blk q 33 [.int .i64 k, .int .i64 i, .string ⟨⟨r⟩⟩], .row ao cap 9 1 (strV rs)]) ?_ ?_
        · repeat' ((conv => whnf); (first | (first | (first | refine nowA ?_ | refine numN ?_ | refine numI ?_ | refine EvVal.ofN ?_ | refine EvNew.mk fun _ => ?_ | refine EvLoad.mk _ rfl _ rfl ?_ | refine divA ?_) | refine loadNA ?_ | refine EvStore.lit ⟨rfl, by decide⟩ (by rfl) ?_) | (first | refine brT ?_ | refine brF ?_ | refine iteT ?_ | refine iteF ?_ | refine brD (fun _ => ?_) (fun _ => ?_))))
          · refine ⟨(), trivial, ⟨?_, trivial⟩, rfl, .cons .here (.cons .here .nil)⟩
            rw [show decide (¬ (0 ≤ i ∧ i ≤ rs.length)) = true from decide_eq_true (by omega)]
            rfl
          · refine ⟨(), trivial, ⟨?_, trivial⟩, rfl, .cons .here (.cons .here .nil)⟩
            simp only [getF, Option.some.injEq, Value.bool.injEq, decide_eq_decide]
            omega
        intro _ _
        repeat ((conv => whnf); (first | (first | refine nowA ?_ | refine numN ?_ | refine numI ?_ | refine EvVal.ofN ?_ | refine EvNew.mk fun _ => ?_ | refine EvLoad.mk _ rfl _ rfl ?_ | refine divA ?_) | refine loadNA ?_ | refine EvStore.lit ⟨rfl, by decide⟩ (by rfl) ?_))
        refine EvIf.br (EvBr.dec _ _ rfl (fun h => absurd hi h) (fun _ => ?_))
        conv => whnf
        refine EvDraw.mk (.group [0,1,2,3,4,5,6] .nil) (by kernel_rfl) ?_
        repeat ((conv => whnf); (first | (first | refine nowA ?_ | refine numN ?_ | refine numI ?_ | refine EvVal.ofN ?_ | refine EvNew.mk fun _ => ?_ | refine EvLoad.mk _ rfl _ rfl ?_ | refine divA ?_) | refine loadNA ?_ | refine EvStore.lit ⟨rfl, by decide⟩ (by rfl) ?_))
        refine EvQCall.mk _ _ ((rroom_spec rs ao _ _ rfl hlens (by omega)).mono fun v O h => h.1) (.view .nil sees_all) ?_
        repeat ((conv => whnf); (first | (first | refine nowA ?_ | refine numN ?_ | refine numI ?_ | refine EvVal.ofN ?_ | refine EvNew.mk fun _ => ?_ | refine EvLoad.mk _ rfl _ rfl ?_ | refine divA ?_) | refine loadNA ?_ | refine EvStore.lit ⟨rfl, by decide⟩ (by rfl) ?_))
        refine EvIf.br (EvBr.dec _ _ rfl (fun _ => ?_) (fun h => absurd (show (r.length : Int) > roomL rs - 4 by omega) h))
        conv => whnf
        refine EvCut.direct ?_
        repeat ((conv => whnf); (first | (first | (first | refine nowA ?_ | refine numN ?_ | refine numI ?_ | refine EvVal.ofN ?_ | refine EvNew.mk fun _ => ?_ | refine EvLoad.mk _ rfl _ rfl ?_ | refine divA ?_) | refine loadNA ?_ | refine EvStore.lit ⟨rfl, by decide⟩ (by rfl) ?_) | (first | refine brT ?_ | refine brF ?_ | refine iteT ?_ | refine iteF ?_)))
        exact EvRet.mk [_] (.cons (.there .here) .nil) rfl ⟨b, rs, ao, c, cap, hb, hr, hc, rfl, rfl⟩
    · rw [if_neg hi]
      repeat ((conv => whnf); (first | (first | refine nowA ?_ | refine numN ?_ | refine numI ?_ | refine EvVal.ofN ?_ | refine EvNew.mk fun _ => ?_ | refine EvLoad.mk _ rfl _ rfl ?_ | refine divA ?_) | refine loadNA ?_ | refine EvStore.lit ⟨rfl, by decide⟩ (by rfl) ?_))
      refine EvCut.cut (α := Unit) (fun _ => True) (fun _ => [(40, .bool (decide (¬ (0 ≤ i ∧ i ≤ rs.length))))]) (fun _ => [.blk q 33 [.int .i64 k, .int .i64 i, .string ⟨⟨r⟩⟩], .row ao cap 9 1 (strV rs)]) ?_ ?_
      · repeat' ((conv => whnf); (first | (first | (first | refine nowA ?_ | refine numN ?_ | refine numI ?_ | refine EvVal.ofN ?_ | refine EvNew.mk fun _ => ?_ | refine EvLoad.mk _ rfl _ rfl ?_ | refine divA ?_) | refine loadNA ?_ | refine EvStore.lit ⟨rfl, by decide⟩ (by rfl) ?_) | (first | refine brT ?_ | refine brF ?_ | refine iteT ?_ | refine iteF ?_ | refine brD (fun _ => ?_) (fun _ => ?_))))
        · refine ⟨(), trivial, ⟨?_, trivial⟩, rfl, .cons .here (.cons .here .nil)⟩
          rw [show decide (¬ (0 ≤ i ∧ i ≤ rs.length)) = true from decide_eq_true (by omega)]
          rfl
        · refine ⟨(), trivial, ⟨?_, trivial⟩, rfl, .cons .here (.cons .here .nil)⟩
          simp only [getF, Option.some.injEq, Value.bool.injEq, decide_eq_decide]
          omega
      intro _ _
      repeat ((conv => whnf); (first | (first | refine nowA ?_ | refine numN ?_ | refine numI ?_ | refine EvVal.ofN ?_ | refine EvNew.mk fun _ => ?_ | refine EvLoad.mk _ rfl _ rfl ?_ | refine divA ?_) | refine loadNA ?_ | refine EvStore.lit ⟨rfl, by decide⟩ (by rfl) ?_))
      refine EvIf.br (EvBr.dec _ _ rfl (fun _ => ?_) (fun h => absurd hi h))
      conv => whnf
      refine EvCut.direct ?_
      repeat ((conv => whnf); (first | (first | (first | refine nowA ?_ | refine numN ?_ | refine numI ?_ | refine EvVal.ofN ?_ | refine EvNew.mk fun _ => ?_ | refine EvLoad.mk _ rfl _ rfl ?_ | refine divA ?_) | refine loadNA ?_ | refine EvStore.lit ⟨rfl, by decide⟩ (by rfl) ?_) | (first | refine brT ?_ | refine brF ?_ | refine iteT ?_ | refine iteF ?_)))
      exact EvRet.mk [_] (.cons (.there .here) .nil) rfl ⟨b, rs, ao, c, cap, hb, hr, hc, rfl, rfl⟩
  repeat ((conv => whnf); (first | (first | refine nowA ?_ | refine numN ?_ | refine numI ?_ | refine EvVal.ofN ?_ | refine EvNew.mk fun _ => ?_ | refine EvLoad.mk _ rfl _ rfl ?_ | refine divA ?_) | refine loadNA ?_ | refine EvStore.lit ⟨rfl, by decide⟩ (by rfl) ?_))
  refine EvIf.br (EvBr.dec _ _ rfl (fun hk6 => ?_) (fun hk6 => ?_))
  · refine EvCall.mk [] _ _ (compact_spec b hbl) .nil ?_
    rintro _ _ ⟨rfl, rfl⟩
    obtain ⟨o1, o2, _, _⟩ := compact_ok (rs := rs) hroom
    rw [if_pos hb, hr]
    repeat ((conv => whnf); (first | (first | refine nowA ?_ | refine numN ?_ | refine numI ?_ | refine EvVal.ofN ?_ | refine EvNew.mk fun _ => ?_ | refine EvLoad.mk _ rfl _ rfl ?_ | refine divA ?_) | refine loadNA ?_ | refine EvStore.lit ⟨rfl, by decide⟩ (by rfl) ?_))
    exact EvRet.mk [_] (.cons (.there .here) .nil) rfl ⟨compact rs, rs, ao, c, cap, o1, o2, hc, rfl, rfl⟩
  repeat ((conv => whnf); (first | (first | refine nowA ?_ | refine numN ?_ | refine numI ?_ | refine EvVal.ofN ?_ | refine EvNew.mk fun _ => ?_ | refine EvLoad.mk _ rfl _ rfl ?_ | refine divA ?_) | refine loadNA ?_ | refine EvStore.lit ⟨rfl, by decide⟩ (by rfl) ?_))
  refine EvCall.mk [] _ _ (delete_spec b i hbl) .nil ?_
  rintro _ _ ⟨rfl, rfl⟩
  rw [if_pos hb, hr]
  by_cases hi : 0 ≤ i ∧ i < rs.length
  · rw [if_pos hi]
    repeat ((conv => whnf); (first | (first | refine nowA ?_ | refine numN ?_ | refine numI ?_ | refine EvVal.ofN ?_ | refine EvNew.mk fun _ => ?_ | refine EvLoad.mk _ rfl _ rfl ?_ | refine divA ?_) | refine loadNA ?_ | refine EvStore.lit ⟨rfl, by decide⟩ (by rfl) ?_))
    refine EvCut.cut (α := Unit) (fun _ => True) (fun _ => [(100, .bool (decide (¬ (0 ≤ i ∧ i < rs.length))))]) (fun _ => [.blk q 33 [.int .i64 k, .int .i64 i, .string ⟨⟨r⟩⟩], .row ao cap 9 1 (strV rs)]) ?_ ?_
    · repeat' ((conv => whnf); (first | (first | (first | refine nowA ?_ | refine numN ?_ | refine numI ?_ | refine EvVal.ofN ?_ | refine EvNew.mk fun _ => ?_ | refine EvLoad.mk _ rfl _ rfl ?_ | refine divA ?_) | refine loadNA ?_ | refine EvStore.lit ⟨rfl, by decide⟩ (by rfl) ?_) | (first | refine brT ?_ | refine brF ?_ | refine iteT ?_ | refine iteF ?_ | refine brD (fun _ => ?_) (fun _ => ?_))))
      · refine ⟨(), trivial, ⟨?_, trivial⟩, rfl, .cons .here (.cons .here .nil)⟩
        rw [show decide (¬ (0 ≤ i ∧ i < rs.length)) = true from decide_eq_true (by omega)]
        rfl
      · refine ⟨(), trivial, ⟨?_, trivial⟩, rfl, .cons .here (.cons .here .nil)⟩
        simp only [getF, Option.some.injEq, Value.bool.injEq, decide_eq_decide]
        omega
    intro _ _
    repeat ((conv => whnf); (first | (first | refine nowA ?_ | refine numN ?_ | refine numI ?_ | refine EvVal.ofN ?_ | refine EvNew.mk fun _ => ?_ | refine EvLoad.mk _ rfl _ rfl ?_ | refine divA ?_) | refine loadNA ?_ | refine EvStore.lit ⟨rfl, by decide⟩ (by rfl) ?_))
    refine EvIf.br (EvBr.dec _ _ rfl (fun h => absurd hi h) (fun _ => ?_))
    obtain ⟨j, rfl⟩ := Int.eq_ofNat_of_zero_le hi.1
    have hj : j < rs.length := by omega
    obtain ⟨o1, o2⟩ := delB_ok hb (i := j) (by rw [hr]; omega)
    rw [hr] at o2
    repeat ((conv => whnf); (first | (first | refine nowA ?_ | refine numN ?_ | refine numI ?_ | refine EvVal.ofN ?_ | refine EvNew.mk fun _ => ?_ | refine EvLoad.mk _ rfl _ rfl ?_ | refine divA ?_) | refine loadNA ?_ | refine EvStore.lit ⟨rfl, by decide⟩ (by rfl) ?_))
    refine EvCall.mk _ _ _ (rtake_spec rs ao rs.length c j rfl hj hc (by omega)) (.view .nil sees_all) ?_
    rintro _ _ ⟨a3, c3, hc3, rfl, rfl⟩
    repeat ((conv => whnf); (first | (first | refine nowA ?_ | refine numN ?_ | refine numI ?_ | refine EvVal.ofN ?_ | refine EvNew.mk fun _ => ?_ | refine EvLoad.mk _ rfl _ rfl ?_ | refine divA ?_) | refine loadNA ?_ | refine EvStore.lit ⟨rfl, by decide⟩ (by rfl) ?_))
    have hil : (del rs j).length = rs.length - 1 := by simp [del]; omega
    refine EvRet.mk [_] (.cons .here .nil) rfl ⟨delB b j, del rs j, a3, c3, c3, o1, o2, by omega, ?_, rfl⟩
    rw [hil]; rfl
  · rw [if_neg hi]
    repeat ((conv => whnf); (first | (first | refine nowA ?_ | refine numN ?_ | refine numI ?_ | refine EvVal.ofN ?_ | refine EvNew.mk fun _ => ?_ | refine EvLoad.mk _ rfl _ rfl ?_ | refine divA ?_) | refine loadNA ?_ | refine EvStore.lit ⟨rfl, by decide⟩ (by rfl) ?_))
    refine EvCut.cut (α := Unit) (fun _ => True) (fun _ => [(100, .bool (decide (¬ (0 ≤ i ∧ i < rs.length))))]) (fun _ => [.blk q 33 [.int .i64 k, .int .i64 i, .string ⟨⟨r⟩⟩], .row ao cap 9 1 (strV rs)]) ?_ ?_
    · repeat' ((conv => whnf); (first | (first | (first | refine nowA ?_ | refine numN ?_ | refine numI ?_ | refine EvVal.ofN ?_ | refine EvNew.mk fun _ => ?_ | refine EvLoad.mk _ rfl _ rfl ?_ | refine divA ?_) | refine loadNA ?_ | refine EvStore.lit ⟨rfl, by decide⟩ (by rfl) ?_) | (first | refine brT ?_ | refine brF ?_ | refine iteT ?_ | refine iteF ?_ | refine brD (fun _ => ?_) (fun _ => ?_))))
      · refine ⟨(), trivial, ⟨?_, trivial⟩, rfl, .cons .here (.cons .here .nil)⟩
        rw [show decide (¬ (0 ≤ i ∧ i < rs.length)) = true from decide_eq_true (by omega)]
        rfl
      · refine ⟨(), trivial, ⟨?_, trivial⟩, rfl, .cons .here (.cons .here .nil)⟩
        simp only [getF, Option.some.injEq, Value.bool.injEq, decide_eq_decide]
        omega
    intro _ _
    repeat ((conv => whnf); (first | (first | refine nowA ?_ | refine numN ?_ | refine numI ?_ | refine EvVal.ofN ?_ | refine EvNew.mk fun _ => ?_ | refine EvLoad.mk _ rfl _ rfl ?_ | refine divA ?_) | refine loadNA ?_ | refine EvStore.lit ⟨rfl, by decide⟩ (by rfl) ?_))
    refine EvIf.br (EvBr.dec _ _ rfl (fun _ => ?_) (fun h => absurd hi h))
    conv => whnf
    refine EvCut.direct ?_
    repeat ((conv => whnf); (first | (first | (first | refine nowA ?_ | refine numN ?_ | refine numI ?_ | refine EvVal.ofN ?_ | refine EvNew.mk fun _ => ?_ | refine EvLoad.mk _ rfl _ rfl ?_ | refine divA ?_) | refine loadNA ?_ | refine EvStore.lit ⟨rfl, by decide⟩ (by rfl) ?_) | (first | refine brT ?_ | refine brF ?_ | refine iteT ?_ | refine iteF ?_)))
    exact EvRet.mk [_] (.cons (.there .here) .nil) rfl ⟨b, rs, ao, c, cap, hb, hr, hc, rfl, rfl⟩

end Go.Proofs.Ytloknkdomgeolaa.She
