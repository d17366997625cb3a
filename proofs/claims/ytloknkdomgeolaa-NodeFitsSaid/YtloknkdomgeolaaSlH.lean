/- The walks of the document's functions for slots. -/
import Derived.Test.YtloknkdomgeolaaSlG
namespace Go.Proofs.Ytloknkdomgeolaa.She
set_option linter.all false
open Go
set_option pp.maxSteps 600
set_option maxRecDepth 10000

theorem len_spec (l : List UInt8) (hl : l.length < 9223372036854775807) : Spec Try.prog 25 [.string ⟨⟨l⟩⟩] [] (fun v O => v = .int .i64 (recs l).length ∧ O = []) := by
  refine Spec.of_ev S_ok S_mixed Try.func25 rfl rfl ?_
  refine EvCall.mk [] [] _ (chk_spec l hl) .nil ?_
  rintro _ _ ⟨rfl, rfl⟩
  repeat ((conv => whnf); (first | refine nowA ?_ | refine numN ?_ | refine numI ?_ | refine EvVal.ofN ?_ | refine EvNew.mk fun _ => ?_ | refine EvLoad.mk _ rfl _ rfl ?_ | refine divA ?_))
  refine EvIf.br (EvBr.dec _ _ rfl (fun h => ?_) (fun h => ?_))
  · refine EvRet.mk [] .nil rfl ⟨?_, rfl⟩
    simp [oneOr, recs, h]
  have h0 : chk l = 0 := by omega
  obtain ⟨h1, h2⟩ := chk_zero h0
  refine EvCall.mk [] [] _ (two_spec l 0 (by omega) (by omega)) .nil ?_
  rintro _ _ ⟨rfl, rfl⟩
  refine EvRet.mk [] .nil rfl ⟨?_, rfl⟩
  simp [oneOr, recs, h0]

theorem get_spec (l : List UInt8) (i : Int) (hl : l.length < 9223372036854775807) : Spec Try.prog 21 [.string ⟨⟨l⟩⟩, .int .i64 i] []
    (fun v O => v = (if chk l = 0 then (if 0 ≤ i ∧ i < (recs l).length then .tuple #[.string ⟨⟨(recs l).getD i.toNat []⟩⟩, .int .i64 0] else .tuple #[.string ⟨⟨[]⟩⟩, .int .i64 3]) else .tuple #[.string ⟨⟨[]⟩⟩, .int .i64 (chk l)]) ∧ O = []) := by
  refine Spec.of_ev S_ok S_mixed Try.func21 rfl rfl ?_
  refine EvCall.mk [] [] _ (chk_spec l hl) .nil ?_
  rintro _ _ ⟨rfl, rfl⟩
  repeat ((conv => whnf); (first | refine nowA ?_ | refine numN ?_ | refine numI ?_ | refine EvVal.ofN ?_ | refine EvNew.mk fun _ => ?_ | refine EvLoad.mk _ rfl _ rfl ?_ | refine divA ?_))
  refine EvIf.br (EvBr.dec _ _ rfl (fun h => ?_) (fun h => ?_))
  · refine EvRet.mk [] .nil rfl ⟨?_, rfl⟩
    simp [oneOr, h]
  have h0 : chk l = 0 := by omega
  obtain ⟨h1, h2⟩ := chk_zero h0
  have t1 := h2.1
  have t2 := h2.2.1
  have hr : recs l = recsOf l (tw l 0) := by simp [recs, h0]
  refine EvCall.mk [] [] _ (list_spec l (by omega) (by omega)) .nil ?_
  rintro _ _ ⟨ao, cap, hcap, rfl, rfl⟩
  conv => whnf
  refine EvCut.cut (α := Unit) (fun _ => True) (fun _ => [(22, .bool (decide (¬ (0 ≤ i ∧ i < tw l 0))))]) (fun _ => [.row ao cap 81 2 (slV (slotsOf l (tw l 0)))]) ?_ ?_
  · repeat' ((conv => whnf); (first | (first | refine nowA ?_ | refine numN ?_ | refine numI ?_ | refine EvVal.ofN ?_ | refine EvNew.mk fun _ => ?_ | refine EvLoad.mk _ rfl _ rfl ?_ | refine divA ?_) | (first | refine brT ?_ | refine brF ?_ | refine iteT ?_ | refine iteF ?_ | refine brD (fun _ => ?_) (fun _ => ?_))))
    · refine ⟨(), trivial, ⟨?_, trivial⟩, rfl, .cons .here .nil⟩
      rw [show decide (¬ (0 ≤ i ∧ i < tw l 0)) = true from decide_eq_true (by omega)]
      rfl
    · refine ⟨(), trivial, ⟨?_, trivial⟩, rfl, .cons .here .nil⟩
      simp only [getF, Option.some.injEq, Value.bool.injEq, decide_eq_decide]
      omega
  intro _ _
  repeat ((conv => whnf); (first | refine nowA ?_ | refine numN ?_ | refine numI ?_ | refine EvVal.ofN ?_ | refine EvNew.mk fun _ => ?_ | refine EvLoad.mk _ rfl _ rfl ?_ | refine divA ?_))
  refine EvIf.br (EvBr.dec _ _ rfl (fun h => ?_) (fun h => ?_))
  · refine EvRet.mk [] .nil rfl ⟨?_, rfl⟩
    rw [if_pos h0, if_neg (by rw [hr]; simpa using h)]
    rfl
  have hi := Decidable.not_not.1 h
  obtain ⟨j, rfl⟩ := Int.eq_ofNat_of_zero_le hi.1
  have hlt : j < tw l 0 := by omega
  have hb := (h2.2.2 j hlt).1
  refine EvIdx.row j rfl hlt (by rw [slV_length]; simp; omega) ?_
  refine EvLoadN.mk (j * 2) rfl _ rfl (slV_get (slotsOf_get l hlt)) ?_
  refine EvCall.mk [] _ _ (rec_spec l (slot l j).1 (slot l j).2 (by omega) (by omega)) .nil ?_
  rintro _ _ ⟨rfl, rfl⟩
  refine EvRet.mk [] .nil rfl ⟨?_, rfl⟩
  rw [if_pos h0, if_pos (by rw [hr]; simpa using hi)]
  rw [hr]
  simp [oneOr, recsOf, List.getD, slotsOf_get l hlt, cutB]

theorem delete_spec (l : List UInt8) (i : Int) (hl : l.length < 9223372036854775807) : Spec Try.prog 22 [.string ⟨⟨l⟩⟩, .int .i64 i] []
    (fun v O => v = (if chk l = 0 then (if 0 ≤ i ∧ i < (recs l).length then .tuple #[.string ⟨⟨delB l i.toNat⟩⟩, .int .i64 0] else .tuple #[.string ⟨⟨[]⟩⟩, .int .i64 3]) else .tuple #[.string ⟨⟨[]⟩⟩, .int .i64 (chk l)]) ∧ O = []) := by
  refine Spec.of_ev S_ok S_mixed Try.func22 rfl rfl ?_
  refine EvCall.mk [] [] _ (chk_spec l hl) .nil ?_
  rintro _ _ ⟨rfl, rfl⟩
  repeat ((conv => whnf); (first | refine nowA ?_ | refine numN ?_ | refine numI ?_ | refine EvVal.ofN ?_ | refine EvNew.mk fun _ => ?_ | refine EvLoad.mk _ rfl _ rfl ?_ | refine divA ?_))
  refine EvIf.br (EvBr.dec _ _ rfl (fun h => ?_) (fun h => ?_))
  · refine EvRet.mk [] .nil rfl ⟨?_, rfl⟩
    rw [if_neg h]; rfl
  have h0 : chk l = 0 := by omega
  rw [if_pos h0]
  have hg := chk_good h0
  have hn := recs_n h0
  refine EvCall.mk [] [] _ (list_spec l (by omega) (by omega)) .nil ?_
  rintro _ _ ⟨ao, cap, hcap, rfl, rfl⟩
  rw [← hn] at hcap ⊢
  conv => whnf
  refine EvCut.cut (α := Unit) (fun _ => True) (fun _ => [(23, .bool (decide (¬ (0 ≤ i ∧ i < (recs l).length))))]) (fun _ => [.row ao cap 81 2 (slV (slotsOf l (recs l).length))]) ?_ ?_
  · repeat' ((conv => whnf); (first | (first | refine nowA ?_ | refine numN ?_ | refine numI ?_ | refine EvVal.ofN ?_ | refine EvNew.mk fun _ => ?_ | refine EvLoad.mk _ rfl _ rfl ?_ | refine divA ?_) | (first | refine brT ?_ | refine brF ?_ | refine iteT ?_ | refine iteF ?_ | refine brD (fun _ => ?_) (fun _ => ?_))))
    · refine ⟨(), trivial, ⟨?_, trivial⟩, rfl, .cons .here .nil⟩
      rw [show decide (¬ (0 ≤ i ∧ i < (recs l).length)) = true from decide_eq_true (by omega)]
      rfl
    · refine ⟨(), trivial, ⟨?_, trivial⟩, rfl, .cons .here .nil⟩
      simp only [getF, Option.some.injEq, Value.bool.injEq, decide_eq_decide]
      omega
  intro _ _
  repeat ((conv => whnf); (first | refine nowA ?_ | refine numN ?_ | refine numI ?_ | refine EvVal.ofN ?_ | refine EvNew.mk fun _ => ?_ | refine EvLoad.mk _ rfl _ rfl ?_ | refine divA ?_))
  refine EvIf.br (EvBr.dec _ _ rfl (fun h => ?_) (fun h => ?_))
  · refine EvRet.mk [] .nil rfl ⟨?_, rfl⟩
    rw [if_neg h]; rfl
  have hi := Decidable.not_not.1 h
  rw [if_pos hi]
  obtain ⟨j, rfl⟩ := Int.eq_ofNat_of_zero_le hi.1
  have hj : j < (recs l).length := by omega
  intro bb cb hcb
  conv => whnf
  refine EvDraw.mk (.take 0 (.take 1 (.take 2 (.take 3 (.take 4 (.take 5 (.take 6 (.take 7 (.take 8 (.take 10 (.eff 9 (.eff 11 (.eff 12 (.take 13 (.take 14 .nil))))))))))))))) (by kernel_rfl) ?_
  repeat ((conv => whnf); (first | refine nowA ?_ | refine numN ?_ | refine numI ?_ | refine EvVal.ofN ?_ | refine EvNew.mk fun _ => ?_ | refine EvLoad.mk _ rfl _ rfl ?_ | refine divA ?_))
  refine EvVal.rfl ?_
  refine EvVal.rfl ?_
  have hslen := slotsOf_length l (recs l).length
  refine EvSrc.mk ((recs l).length - (j + 1)) (slV ((slotsOf l (recs l).length).drop (j + 1))) (src_sub S_ok rfl rfl (by decide) ((j + 1) * 2) _ _ _ (fun h => by have := of_decide_eq_true h; omega) _ (by rw [slV_drop, slV_take, List.take_of_length_le (by simp)]) (by rw [slV_length]; simp; omega) (allOne_slV _)) ?_
  have hmem : ∀ x ∈ (slotsOf l (recs l).length).take j ++ (slotsOf l (recs l).length).drop (j + 1), x.1 < 100000 ∧ x.2 < 100000 := fun x hx => by
    simp only [List.mem_append] at hx
    rcases hx with hx | hx
    · obtain ⟨q, _, rfl⟩ := List.mem_map.1 (List.mem_of_mem_take hx)
      have := slot_lt l q; omega
    · obtain ⟨q, _, rfl⟩ := List.mem_map.1 (List.mem_of_mem_drop hx)
      have := slot_lt l q; omega
  by_cases hlast : (recs l).length = j + 1
  · refine EvApp.same ⟨by omega, by omega⟩ ?_
    refine EvCall.mk [] _ _ (two_spec l 2 (by omega) (by omega)) .nil ?_
    rintro _ _ ⟨rfl, rfl⟩
    have hd : (slotsOf l (recs l).length).drop (j + 1) = [] := List.drop_of_length_le (by omega)
    have hys : ((slV (slotsOf l (recs l).length)).take (slV ((slotsOf l (recs l).length).take j)).length) = slV ((slotsOf l (recs l).length).take j) := by
      rw [slV_length, slV_take, List.length_take, hslen, Nat.min_eq_left (by omega)]
    refine EvCall.mk _ _ _ (with_spec l ((slotsOf l (recs l).length).take j) _ ao l.length cb cb j j (tw l 2) (by simp; omega) (by omega) rfl (by simp; omega) (fun x hx => hmem x (by simp [hx])) (by omega)) (.own .here rfl (.view .nil (sees_sub0 _ hys))) ?_
    rintro _ _ ⟨rfl, rfl⟩
    refine EvRet.mk [] .nil rfl ⟨?_, rfl⟩
    rw [delB, ← hn]
    simp only [Int.toNat_natCast, hd, List.append_nil]
    rfl
  · refine EvApp.copy (by omega) (by simp [slV_length]; omega) (by omega) ((recs l).length - 1) (by omega) (slV ((slotsOf l (recs l).length).take j)) (slV_take _ _) ?_
    intro a3 c3 hc3
    rw [← slV_append]
    refine EvCall.mk [] _ _ (two_spec l 2 (by omega) (by omega)) .nil ?_
    rintro _ _ ⟨rfl, rfl⟩
    refine EvCall.mk _ _ _ (with_spec l _ _ a3 l.length cb cb ((recs l).length - 1) c3 (tw l 2) (by simp; omega) (by omega) rfl (by simp; omega) hmem (by omega)) (.own (.there .here) rfl (.view .nil sees_all)) ?_
    rintro _ _ ⟨rfl, rfl⟩
    refine EvRet.mk [] .nil rfl ⟨?_, rfl⟩
    rw [delB, ← hn]
    rfl

theorem num_spec (l : List UInt8) (i : Nat) (h : i + 1 < l.length) (hl : l.length < 9223372036854775807) : Spec Try.prog 50 [.string ⟨⟨l⟩⟩, .int .i64 i] [] (fun v O => v = .int .i64 (tw l i) ∧ O = []) := by
  refine Spec.of_ev S_ok S_mixed Try.func50 rfl rfl ?_
  refine EvDraw.mk (.take 0 (.take 1 (.take 2 (.take 3 (.take 4 (.take 5 (.take 6 (.take 7 (.take 8 (.take 9 (.take 10 (.take 11 .nil)))))))))))) (by kernel_rfl) ?_
  have h1 := nb_lt l i
  have h2 := nb_lt l (i + 1)
  repeat ((conv => whnf); (first | refine nowA ?_ | refine numN ?_ | refine numI ?_ | refine EvVal.ofN ?_ | refine EvNew.mk fun _ => ?_ | refine EvLoad.mk _ rfl _ rfl ?_ | refine divA ?_))
  refine EvRet.mk [] .nil rfl ⟨rfl, rfl⟩

/-- Cell k lies in one of the first i slots. -/
def covered (l : List UInt8) (i k : Nat) : Prop := ∃ j, j < i ∧ (slot l j).1 ≤ k ∧ k < (slot l j).1 + (slot l j).2
instance (l : List UInt8) (i k : Nat) : Decidable (covered l i k) := by unfold covered; exact inferInstance
def usedL (l : List UInt8) (i kk : Nat) : List Nat := (List.range 232).map fun k => if covered l i k ∨ ((slot l i).1 ≤ k ∧ k < kk) then 1 else 0
@[simp] theorem usedL_length (l : List UInt8) (i kk : Nat) : (usedL l i kk).length = 232 := by simp [usedL]
theorem usedL_zero (l : List UInt8) : usedL l 0 0 = List.replicate 232 0 := by
  apply List.ext_getElem (by simp)
  intro k h1 h2
  simp only [usedL, List.getElem_map, List.getElem_range, List.getElem_replicate]
  rw [if_neg]
  rintro (⟨j, hj, _⟩ | h) <;> omega
theorem usedL_start (l : List UInt8) (i : Nat) : usedL l i (slot l i).1 = usedL l i 0 := by
  apply List.ext_getElem (by simp)
  intro k h1 h2
  simp only [usedL, List.getElem_map, List.getElem_range]
  congr 1
  simp only [eq_iff_iff]
  constructor
  · rintro (h | h)
    · exact .inl h
    · omega
  · rintro (h | h)
    · exact .inl h
    · omega
theorem usedL_end (l : List UInt8) (i : Nat) : usedL l i ((slot l i).1 + (slot l i).2) = usedL l (i + 1) 0 := by
  apply List.ext_getElem (by simp)
  intro k h1 h2
  simp only [usedL, List.getElem_map, List.getElem_range]
  congr 1
  simp only [eq_iff_iff]
  constructor
  · rintro (⟨j, hj, h⟩ | h)
    · exact .inl ⟨j, by omega, h⟩
    · exact .inl ⟨i, by omega, h⟩
  · rintro (⟨j, hj, h⟩ | h)
    · by_cases hji : j = i
      · subst hji; exact .inr h
      · exact .inl ⟨j, by omega, h⟩
    · omega
theorem usedL_set (l : List UInt8) (i k : Nat) (hk : (slot l i).1 ≤ k) : (usedL l i k).set k 1 = usedL l i (k + 1) := by
  apply List.ext_getElem (by simp)
  intro q h1 h2
  simp only [usedL, List.getElem_map, List.getElem_range, List.getElem_set]
  by_cases hq : k = q
  · subst hq
    rw [if_pos rfl, if_pos (.inr ⟨hk, by omega⟩)]
  · rw [if_neg hq]
    congr 1
    simp only [eq_iff_iff]
    constructor
    · rintro (h | h)
      · exact .inl h
      · exact .inr (by omega)
    · rintro (h | h)
      · exact .inl h
      · exact .inr (by omega)
theorem usedL_get (l : List UInt8) (i k : Nat) (hk : k < 232) : (usedL l i k).getD k 0 = if covered l i k then 1 else 0 := by
  rw [List.getD_eq_getElem?_getD, List.getElem?_eq_getElem (by simpa using hk)]
  simp [usedL]

theorem rchk_spec (l : List UInt8) (hl : l.length < 9223372036854775807) : Spec Try.prog 19 [.string ⟨⟨l⟩⟩] [] (fun v O => v = .int .i64 (chk l) ∧ O = []) := by
  refine Spec.of_ev S_ok S_mixed Try.func19 rfl rfl ?_
  repeat ((conv => whnf); (first | refine nowA ?_ | refine numN ?_ | refine numI ?_ | refine EvVal.ofN ?_ | refine EvNew.mk fun _ => ?_ | refine EvLoad.mk _ rfl _ rfl ?_ | refine divA ?_))
  refine EvIf.br (EvBr.dec _ _ rfl (fun h => ?_) (fun h => ?_))
  · refine EvRet.mk [] .nil rfl ⟨?_, rfl⟩
    simp only [oneOr, chk, if_neg (show ¬ l.length = 232 by omega)]
  have h232 : l.length = 232 := by omega
  refine EvCall.mk [] [] _ (num_spec l 0 (by omega) (by omega)) .nil ?_
  rintro _ _ ⟨rfl, rfl⟩
  refine EvCall.mk [] [] _ (num_spec l 2 (by omega) (by omega)) .nil ?_
  rintro _ _ ⟨rfl, rfl⟩
  have t0 := tw_lt l 0
  have t2 := tw_lt l 2
  conv => whnf
  refine EvCut.cut (α := Unit) (fun _ => True) (fun _ => [(25, .bool (decide (tw l 2 > 232 ∨ 4 + 4 * tw l 0 > tw l 2)))]) (fun _ => []) ?_ ?_
  · repeat' ((conv => whnf); (first | (first | refine nowA ?_ | refine numN ?_ | refine numI ?_ | refine EvVal.ofN ?_ | refine EvNew.mk fun _ => ?_ | refine EvLoad.mk _ rfl _ rfl ?_ | refine divA ?_) | (first | refine brT ?_ | refine brF ?_ | refine iteT ?_ | refine iteF ?_ | refine brD (fun _ => ?_) (fun _ => ?_))))
    · refine ⟨(), trivial, ⟨?_, trivial⟩, rfl, .nil⟩
      rw [show decide (tw l 2 > 232 ∨ 4 + 4 * tw l 0 > tw l 2) = true from decide_eq_true (by omega)]
      rfl
    · refine ⟨(), trivial, ⟨?_, trivial⟩, rfl, .nil⟩
      simp only [getF, Option.some.injEq, Value.bool.injEq, decide_eq_decide]
      omega
  intro _ _
  repeat ((conv => whnf); (first | refine nowA ?_ | refine numN ?_ | refine numI ?_ | refine EvVal.ofN ?_ | refine EvNew.mk fun _ => ?_ | refine EvLoad.mk _ rfl _ rfl ?_ | refine divA ?_))
  refine EvIf.br (EvBr.dec _ _ rfl (fun h => ?_) (fun h => ?_))
  · refine EvRet.mk [] .nil rfl ⟨?_, rfl⟩
    have : ¬ SoundP l := fun hs => by have h1 := hs.1; have h2 := hs.2.1; omega
    simp only [oneOr, chk, if_pos h232, if_neg this]
  refine EvMake.mk (by omega) (by decide) (by decide) (by decide) 232 232 rfl rfl fun b => ?_
  rw [zerosV_i64, ← usedL_zero l]
  conv => whnf
  refine EvLoop.mk (α := Nat) (fun i => i ≤ tw l 0 ∧ ∀ k, k < i → soundAt l k) (fun i => tw l 0 - i) (fun i => [(6, .int .i64 i)]) (fun i => [.row (some ⟨b, 0, none⟩) 232 3 1 (natV (usedL l i 0))]) ?_ ?_
  · exact ⟨0, ⟨by omega, fun k hk => absurd hk (by omega)⟩, ⟨rfl, trivial⟩, rfl, .cons .here .nil⟩
  rintro i ⟨hi, hs⟩
  repeat ((conv => whnf); (first | refine nowA ?_ | refine numN ?_ | refine numI ?_ | refine EvVal.ofN ?_ | refine EvNew.mk fun _ => ?_ | refine EvLoad.mk _ rfl _ rfl ?_ | refine divA ?_))
  refine EvIf.br (EvBr.dec _ _ rfl (fun h => ?_) (fun h => ?_))
  · have hlt : i < tw l 0 := by omega
    have hq := slot_lt l i
    repeat ((conv => whnf); (first | refine nowA ?_ | refine numN ?_ | refine numI ?_ | refine EvVal.ofN ?_ | refine EvNew.mk fun _ => ?_ | refine EvLoad.mk _ rfl _ rfl ?_ | refine divA ?_))
    refine EvCall.mk [] _ _ (num_spec l (4 + 4 * i) (by omega) (by omega)) .nil ?_
    rintro _ _ ⟨rfl, rfl⟩
    repeat ((conv => whnf); (first | refine nowA ?_ | refine numN ?_ | refine numI ?_ | refine EvVal.ofN ?_ | refine EvNew.mk fun _ => ?_ | refine EvLoad.mk _ rfl _ rfl ?_ | refine divA ?_))
    refine EvCall.mk [] _ _ (num_spec l (6 + 4 * i) (by omega) (by omega)) .nil ?_
    rintro _ _ ⟨rfl, rfl⟩
    rw [show tw l (4 + 4 * i) = (slot l i).1 from rfl, show tw l (6 + 4 * i) = (slot l i).2 by unfold slot; dsimp only; congr 1; omega]
    conv => whnf
    refine EvCut.cut (α := Unit) (fun _ => True) (fun _ => [(50, .bool (decide ((slot l i).1 < tw l 2 ∨ (slot l i).1 + (slot l i).2 > 232)))]) (fun _ => [.row (some ⟨b, 0, none⟩) 232 3 1 (natV (usedL l i 0))]) ?_ ?_
    · repeat' ((conv => whnf); (first | (first | refine nowA ?_ | refine numN ?_ | refine numI ?_ | refine EvVal.ofN ?_ | refine EvNew.mk fun _ => ?_ | refine EvLoad.mk _ rfl _ rfl ?_ | refine divA ?_) | (first | refine brT ?_ | refine brF ?_ | refine iteT ?_ | refine iteF ?_ | refine brD (fun _ => ?_) (fun _ => ?_))))
      · refine ⟨(), trivial, ⟨?_, trivial⟩, rfl, .cons .here .nil⟩
        rw [show decide ((slot l i).1 < tw l 2 ∨ (slot l i).1 + (slot l i).2 > 232) = true from decide_eq_true (by omega)]
        rfl
      · refine ⟨(), trivial, ⟨?_, trivial⟩, rfl, .cons .here .nil⟩
        simp only [getF, Option.some.injEq, Value.bool.injEq, decide_eq_decide]
        omega
    intro _ _
    repeat ((conv => whnf); (first | refine nowA ?_ | refine numN ?_ | refine numI ?_ | refine EvVal.ofN ?_ | refine EvNew.mk fun _ => ?_ | refine EvLoad.mk _ rfl _ rfl ?_ | refine divA ?_))
    refine EvIf.br (EvBr.dec _ _ rfl (fun h => ?_) (fun h => ?_))
    · refine EvRet.mk [] .nil rfl ⟨?_, rfl⟩
      have : ¬ SoundP l := fun hs => by have := (hs.2.2 i hlt).1; omega
      simp only [oneOr, chk, if_pos h232, if_neg this]
    rw [← usedL_start]
    conv => whnf
    refine EvLoop.mk (α := Nat) (fun k => (slot l i).1 ≤ k ∧ k ≤ (slot l i).1 + (slot l i).2 ∧ ∀ q, (slot l i).1 ≤ q → q < k → ¬ covered l i q) (fun k => (slot l i).1 + (slot l i).2 - k) (fun k => [(9, .int .i64 k)]) (fun k => [.row (some ⟨b, 0, none⟩) 232 3 1 (natV (usedL l i k))]) ?_ ?_
    · exact ⟨(slot l i).1, ⟨by omega, by omega, fun q h1 h2 => absurd h1 (by omega)⟩, ⟨rfl, trivial⟩, rfl, .cons .here .nil⟩
    rintro k ⟨hk1, hk2, hk3⟩
    repeat ((conv => whnf); (first | refine nowA ?_ | refine numN ?_ | refine numI ?_ | refine EvVal.ofN ?_ | refine EvNew.mk fun _ => ?_ | refine EvLoad.mk _ rfl _ rfl ?_ | refine divA ?_))
    refine EvIf.br (EvBr.dec _ _ rfl (fun h => ?_) (fun h => ?_))
    · have hklt : k < (slot l i).1 + (slot l i).2 := by omega
      refine EvIdx.row k rfl (by omega) (by simp; omega) ?_
      refine EvLoad.mk (k * 1) rfl (.int .i64 ((usedL l i k).getD k 0 : Nat)) (by rw [Nat.mul_one]; exact natV_get (by simp; omega)) ?_
      rw [usedL_get l i k (by omega)]
      repeat ((conv => whnf); (first | refine nowA ?_ | refine numN ?_ | refine numI ?_ | refine EvVal.ofN ?_ | refine EvNew.mk fun _ => ?_ | refine EvLoad.mk _ rfl _ rfl ?_ | refine divA ?_))
      refine EvIf.br (EvBr.dec _ _ rfl (fun h => ?_) (fun h => ?_))
      · refine EvRet.mk [] .nil rfl ⟨?_, rfl⟩
        have hc : covered l i k := by
          by_cases hc : covered l i k
          · exact hc
          · rw [if_neg hc] at h; exact absurd h (by decide)
        obtain ⟨j, hj, hj2⟩ := hc
        have : ¬ SoundP l := fun hs => by
          have := (hs.2.2 i hlt).2 j hj
          unfold apartP at this; omega
        simp only [oneOr, chk, if_pos h232, if_neg this]
      have hc : ¬ covered l i k := fun hc => h (by rw [if_pos hc]; decide)
      refine EvIdx.row k rfl (by omega) (by simp; omega) ?_
      repeat ((conv => whnf); (first | refine nowA ?_ | refine numN ?_ | refine numI ?_ | refine EvVal.ofN ?_ | refine EvNew.mk fun _ => ?_ | refine EvLoad.mk _ rfl _ rfl ?_ | refine divA ?_))
      refine EvStore.mk ⟨rfl, by decide⟩ (by rfl) (by simp; omega) (natV (usedL l i (k + 1))) (by simp only [setCells, Nat.mul_one]; rw [← usedL_set l i k hk1, ← natV_set]; rfl) ?_
      repeat ((conv => whnf); (first | refine nowA ?_ | refine numN ?_ | refine numI ?_ | refine EvVal.ofN ?_ | refine EvNew.mk fun _ => ?_ | refine EvLoad.mk _ rfl _ rfl ?_ | refine divA ?_))
      refine ⟨k + 1, ⟨⟨by omega, by omega, fun q h1 h2 => ?_⟩, by omega⟩, ⟨rfl, trivial⟩, rfl, .cons .here .nil⟩
      by_cases hqk : q = k
      · subst hqk; exact hc
      · exact hk3 q h1 (by omega)
    have e : k = (slot l i).1 + (slot l i).2 := by omega
    subst e
    rw [usedL_end]
    repeat ((conv => whnf); (first | refine nowA ?_ | refine numN ?_ | refine numI ?_ | refine EvVal.ofN ?_ | refine EvNew.mk fun _ => ?_ | refine EvLoad.mk _ rfl _ rfl ?_ | refine divA ?_))
    refine ⟨i + 1, ⟨⟨by omega, fun q hq => ?_⟩, by omega⟩, ⟨rfl, trivial⟩, rfl, .cons .here .nil⟩
    by_cases hqi : q = i
    · subst hqi
      refine ⟨by omega, fun j hj => ?_⟩
      unfold apartP
      by_cases ha : (slot l q).2 = 0
      · exact .inl ha
      by_cases hb2 : (slot l j).2 = 0
      · exact .inr (.inl hb2)
      by_cases hle : (slot l q).1 ≤ (slot l j).1
      · by_cases hx : (slot l q).1 + (slot l q).2 ≤ (slot l j).1
        · omega
        · exact absurd ⟨j, hj, by omega, by omega⟩ (hk3 (slot l j).1 hle (by omega))
      · by_cases hx : (slot l j).1 + (slot l j).2 ≤ (slot l q).1
        · omega
        · exact absurd ⟨j, hj, by omega, by omega⟩ (hk3 (slot l q).1 (by omega) (by omega))
    · exact hs q (by omega)
  refine EvRet.mk [] .nil rfl ⟨?_, rfl⟩
  have : SoundP l := ⟨by omega, by omega, fun k hk => hs k (by omega)⟩
  simp only [oneOr, chk, if_pos h232, if_pos this]

theorem rall_spec (l : List UInt8) (h0 : chk l = 0) : Spec Try.prog 27 [.string ⟨⟨l⟩⟩] []
    (fun v O => ∃ ao cap, (recs l).length ≤ cap ∧ v = .slice ao (recs l).length cap ∧ O = [.row ao cap 9 1 (strV (recs l))]) := by
  refine Spec.of_ev S_ok S_mixed Try.func27 rfl rfl ?_
  obtain ⟨h1, h2⟩ := chk_zero h0
  have t1 := h2.1
  have t2 := h2.2.1
  have hr : recs l = recsOf l (tw l 0) := by simp [recs, h0]
  conv => whnf
  refine EvLoop.mk (α := Nat × Option Addr × Nat) (fun x => x.1 ≤ tw l 0 ∧ x.1 ≤ x.2.2) (fun x => tw l 0 - x.1) (fun x => [(4, .int .i64 x.1), (3, .slice x.2.1 x.1 x.2.2)]) (fun x => [.row x.2.1 x.2.2 9 1 (strV (recsOf l x.1))]) ?_ ?_
  · exact ⟨(0, none, 0), ⟨by omega, by omega⟩, ⟨rfl, rfl, trivial⟩, rfl, .none .nil⟩
  rintro ⟨i, ap, cp⟩ ⟨hi, hcp⟩
  dsimp only at hi hcp ⊢
  refine EvCall.mk [] _ _ (num_spec l 0 (by omega) (by omega)) .nil ?_
  rintro _ _ ⟨rfl, rfl⟩
  repeat ((conv => whnf); (first | refine nowA ?_ | refine numN ?_ | refine numI ?_ | refine EvVal.ofN ?_ | refine EvNew.mk fun _ => ?_ | refine EvLoad.mk _ rfl _ rfl ?_ | refine divA ?_))
  refine EvIf.br (EvBr.dec _ _ rfl (fun h => ?_) (fun h => ?_))
  · have hlt : i < tw l 0 := by omega
    have hb := (h2.2.2 i hlt).1
    repeat ((conv => whnf); (first | refine nowA ?_ | refine numN ?_ | refine numI ?_ | refine EvVal.ofN ?_ | refine EvNew.mk fun _ => ?_ | refine EvLoad.mk _ rfl _ rfl ?_ | refine divA ?_))
    refine EvCall.mk [] _ _ (num_spec l (4 + 4 * i) (by omega) (by omega)) .nil ?_
    rintro _ _ ⟨rfl, rfl⟩
    rw [show tw l (4 + 4 * i) = (slot l i).1 from rfl]
    repeat ((conv => whnf); (first | refine nowA ?_ | refine numN ?_ | refine numI ?_ | refine EvVal.ofN ?_ | refine EvNew.mk fun _ => ?_ | refine EvLoad.mk _ rfl _ rfl ?_ | refine divA ?_))
    refine EvCall.mk [] _ _ (num_spec l (6 + 4 * i) (by omega) (by omega)) .nil ?_
    rintro _ _ ⟨rfl, rfl⟩
    rw [show tw l (6 + 4 * i) = (slot l i).2 by unfold slot; dsimp only; congr 1; omega]
    repeat ((conv => whnf); (first | refine nowA ?_ | refine numN ?_ | refine numI ?_ | refine EvVal.ofN ?_ | refine EvNew.mk fun _ => ?_ | refine EvLoad.mk _ rfl _ rfl ?_ | refine divA ?_))
    refine EvVal.rfl ?_
    repeat ((conv => whnf); (first | refine nowA ?_ | refine numN ?_ | refine numI ?_ | refine EvVal.ofN ?_ | refine EvNew.mk fun _ => ?_ | refine EvLoad.mk _ rfl _ rfl ?_ | refine divA ?_))
    refine EvSrc.mk 1 (strV [cutB l (slot l i)]) (src_sl S_ok rfl rfl (by decide) 1 1 _ rfl (by simp) rfl) ?_
    refine EvApp.own ⟨rfl, rfl, rfl, by decide⟩ (by simp) (allOne_strV _) (by omega) (i + 1) rfl ?_
    intro ao' cap' hcap'
    rw [← strV_append, ← recsOf_succ]
    repeat ((conv => whnf); (first | refine nowA ?_ | refine numN ?_ | refine numI ?_ | refine EvVal.ofN ?_ | refine EvNew.mk fun _ => ?_ | refine EvLoad.mk _ rfl _ rfl ?_ | refine divA ?_))
    refine ⟨(i + 1, ao', cap'), ⟨⟨by dsimp only; omega, hcap'⟩, by dsimp only; omega⟩, ⟨rfl, rfl, trivial⟩, rfl, .cons (.there .here) .nil⟩
  · have e : i = tw l 0 := by omega
    subst e
    refine EvRet.mk [_] (.cons .here .nil) rfl ⟨ap, cp, by rw [hr]; simpa using hcp, ?_, by rw [hr]⟩
    rw [hr]
    simp [oneOr]

theorem roomL_take_succ {rs : List (List UInt8)} {i : Nat} (h : i < rs.length) : roomL (rs.take (i + 1)) = roomL (rs.take i) - 4 - (rs.getD i []).length := by
  have := sumL_take_succ h
  unfold roomL
  simp only [List.length_take] at *
  omega

theorem rroom_spec (rs : List (List UInt8)) (ao : Option Addr) (n c : Nat) (hn : rs.length = n) (hr : ∀ r ∈ rs, r.length ≤ 10000) (hn2 : n ≤ 10000) : Spec Try.prog 32 [.slice ao n c] [.view ao 9 (strV rs)] (fun v O => v = .int .i64 (roomL rs) ∧ O = []) := by
  refine Spec.of_ev S_ok S_mixed Try.func32 rfl rfl ?_
  conv => whnf
  refine EvLoop.mk (α := Nat) (fun i => i ≤ n) (fun i => n - i) (fun i => [(4, .int .i64 i), (3, .int .i64 (roomL (rs.take i)))]) (fun _ => [.view ao 9 (strV rs)]) ?_ ?_
  · exact ⟨0, by omega, ⟨rfl, rfl, trivial⟩, rfl, .cons .here .nil⟩
  rintro i hi
  repeat ((conv => whnf); (first | refine nowA ?_ | refine numN ?_ | refine numI ?_ | refine EvVal.ofN ?_ | refine EvNew.mk fun _ => ?_ | refine EvLoad.mk _ rfl _ rfl ?_ | refine divA ?_))
  refine EvIf.br (EvBr.dec _ _ rfl (fun h => ?_) (fun h => ?_))
  · have hlt : i < rs.length := by omega
    have hri : (rs.getD i []).length ≤ 10000 := hr _ (by rw [List.getD_eq_getElem?_getD, List.getElem?_eq_getElem hlt]; exact List.getElem_mem _)
    have hb : -200000000 ≤ roomL (rs.take i) ∧ roomL (rs.take i) ≤ 228 := by
      have := sumL_bd (rs := rs.take i) (m := 10000) (fun r hr' => hr r (List.mem_of_mem_take hr'))
      unfold roomL; simp only [List.length_take] at *
      have h3 : min i rs.length ≤ 10000 := by omega
      have : min i rs.length * 10000 ≤ 10000 * 10000 := Nat.mul_le_mul_right _ h3
      omega
    repeat ((conv => whnf); (first | refine nowA ?_ | refine numN ?_ | refine numI ?_ | refine EvVal.ofN ?_ | refine EvNew.mk fun _ => ?_ | refine EvLoad.mk _ rfl _ rfl ?_ | refine divA ?_))
    refine EvIdx.sl i rfl (by omega) (by simp; omega) ?_
    refine EvLoad.mk (i * 1) rfl (.string ⟨⟨rs.getD i []⟩⟩) (by rw [Nat.mul_one]; exact strV_get hlt) ?_
    repeat ((conv => whnf); (first | refine nowA ?_ | refine numN ?_ | refine numI ?_ | refine EvVal.ofN ?_ | refine EvNew.mk fun _ => ?_ | refine EvLoad.mk _ rfl _ rfl ?_ | refine divA ?_))
    refine ⟨i + 1, ⟨by omega, by omega⟩, ⟨rfl, ?_, trivial⟩, rfl, .cons .here .nil⟩
    rw [roomL_take_succ hlt]; rfl
  refine EvRet.mk [] .nil rfl ⟨?_, rfl⟩
  rw [show i = n by omega, ← hn, List.take_length]
  rfl

end Go.Proofs.Ytloknkdomgeolaa.She
