/- The walks of the functions of slots: Delete and Of. -/
import Derived.Test.YtloknkdomgeolaaSlF
namespace Go.Proofs.Ytloknkdomgeolaa.She
set_option linter.all false
open Go
set_option pp.maxSteps 600
set_option maxRecDepth 10000

theorem delete_spec (l : List UInt8) (i : Int) (hl : l.length < 9223372036854775807) : Spec Try.prog 22 [.string ⟨⟨l⟩⟩, .int .i64 i] []
    (fun v O => v = (if chk l = 0 then (if 0 ≤ i ∧ i < (recs l).length then .tuple #[.string ⟨⟨delB l i.toNat⟩⟩, .int .i64 0] else .tuple #[.string ⟨⟨[]⟩⟩, .int .i64 3]) else .tuple #[.string ⟨⟨[]⟩⟩, .int .i64 (chk l)]) ∧ O = []) := by
  refine Spec.of_ev S_ok S_mixed Try.func22 rfl rfl ?_
  refine EvCall.mk [] [] _ (chk_spec l hl) .nil ?_
  rintro _ _ ⟨rfl, rfl⟩
  repeat ((conv => whnf); (first | refine nowA ?_ | refine numN ?_ | refine numI ?_ | refine EvVal.ofN ?_ | refine EvNew.mk fun _ => ?_ | refine EvLoad.mk _ rfl _ rfl ?_ | refine divA ?_))
  refine EvIf.br (EvBr.dec _ _ rfl (fun h => ?_) (fun h => ?_))
  · refine EvRet.mk [] .nil rfl ⟨?_, rfl⟩
    rw [if_neg h]; rfl
  have h0 : chk l = 0 := by omega
  rw [if_pos h0]
  have hg := chk_good h0
  have hn := recs_n h0
  refine EvCall.mk [] [] _ (list_spec l (by omega) (by omega)) .nil ?_
  rintro _ _ ⟨ao, cap, hcap, rfl, rfl⟩
  rw [← hn] at hcap ⊢
  conv => whnf
  refine EvCut.cut (α := Unit) (fun _ => True) (fun _ => [(23, .bool (decide (¬ (0 ≤ i ∧ i < (recs l).length))))]) (fun _ => [.row ao cap 81 2 (slV (slotsOf l (recs l).length))]) ?_ ?_
  · repeat' ((conv => whnf); (first | (first | refine nowA ?_ | refine numN ?_ | refine numI ?_ | refine EvVal.ofN ?_ | refine EvNew.mk fun _ => ?_ | refine EvLoad.mk _ rfl _ rfl ?_ | refine divA ?_) | (first | refine brT ?_ | refine brF ?_ | refine iteT ?_ | refine iteF ?_ | refine brD (fun _ => ?_) (fun _ => ?_))))
    · refine ⟨(), trivial, ⟨?_, trivial⟩, rfl, .cons .here .nil⟩
      rw [show decide (¬ (0 ≤ i ∧ i < (recs l).length)) = true from decide_eq_true (by omega)]
      rfl
    · refine ⟨(), trivial, ⟨?_, trivial⟩, rfl, .cons .here .nil⟩
      simp only [getF, Option.some.injEq, Value.bool.injEq, decide_eq_decide]
      omega
  intro _ _
  repeat ((conv => whnf); (first | refine nowA ?_ | refine numN ?_ | refine numI ?_ | refine EvVal.ofN ?_ | refine EvNew.mk fun _ => ?_ | refine EvLoad.mk _ rfl _ rfl ?_ | refine divA ?_))
  refine EvIf.br (EvBr.dec _ _ rfl (fun h => ?_) (fun h => ?_))
  · refine EvRet.mk [] .nil rfl ⟨?_, rfl⟩
    rw [if_neg h]; rfl
  have hi := Decidable.not_not.1 h
  rw [if_pos hi]
  obtain ⟨j, rfl⟩ := Int.eq_ofNat_of_zero_le hi.1
  have hj : j < (recs l).length := by omega
  intro bb cb hcb
  conv => whnf
  refine EvDraw.mk (.take 0 (.take 1 (.take 2 (.take 3 (.take 4 (.take 5 (.take 6 (.take 7 (.take 8 (.take 10 (.eff 9 (.eff 11 (.eff 12 (.take 13 (.take 14 .nil))))))))))))))) (by kernel_rfl) ?_
  repeat ((conv => whnf); (first | refine nowA ?_ | refine numN ?_ | refine numI ?_ | refine EvVal.ofN ?_ | refine EvNew.mk fun _ => ?_ | refine EvLoad.mk _ rfl _ rfl ?_ | refine divA ?_))
  refine EvVal.rfl ?_
  refine EvVal.rfl ?_
  have hslen := slotsOf_length l (recs l).length
  refine EvSrc.mk ((recs l).length - (j + 1)) (slV ((slotsOf l (recs l).length).drop (j + 1))) (src_sub S_ok rfl rfl (by decide) ((j + 1) * 2) _ _ _ (fun h => by have := of_decide_eq_true h; omega) _ (by rw [slV_drop, slV_take, List.take_of_length_le (by simp)]) (by rw [slV_length]; simp; omega) (allOne_slV _)) ?_
  have hmem : ∀ x ∈ (slotsOf l (recs l).length).take j ++ (slotsOf l (recs l).length).drop (j + 1), x.1 < 100000 ∧ x.2 < 100000 := fun x hx => by
    simp only [List.mem_append] at hx
    rcases hx with hx | hx
    · obtain ⟨q, _, rfl⟩ := List.mem_map.1 (List.mem_of_mem_take hx)
      have := slot_lt l q; omega
    · obtain ⟨q, _, rfl⟩ := List.mem_map.1 (List.mem_of_mem_drop hx)
      have := slot_lt l q; omega
  by_cases hlast : (recs l).length = j + 1
  · refine EvApp.same ⟨by omega, by omega⟩ ?_
    refine EvCall.mk [] _ _ (two_spec l 2 (by omega) (by omega)) .nil ?_
    rintro _ _ ⟨rfl, rfl⟩
    have hd : (slotsOf l (recs l).length).drop (j + 1) = [] := List.drop_of_length_le (by omega)
    have hys : ((slV (slotsOf l (recs l).length)).take (slV ((slotsOf l (recs l).length).take j)).length) = slV ((slotsOf l (recs l).length).take j) := by
      rw [slV_length, slV_take, List.length_take, hslen, Nat.min_eq_left (by omega)]
    refine EvCall.mk _ _ _ (with_spec l ((slotsOf l (recs l).length).take j) _ ao l.length cb cb j j (tw l 2) (by simp; omega) (by omega) rfl (by simp; omega) (fun x hx => hmem x (by simp [hx])) (by omega)) (.own .here rfl (.view .nil (sees_sub0 _ hys))) ?_
    rintro _ _ ⟨rfl, rfl⟩
    refine EvRet.mk [] .nil rfl ⟨?_, rfl⟩
    rw [delB, ← hn]
    simp only [Int.toNat_natCast, hd, List.append_nil]
    rfl
  · refine EvApp.copy (by omega) (by simp [slV_length]; omega) (by omega) ((recs l).length - 1) (by omega) (slV ((slotsOf l (recs l).length).take j)) (slV_take _ _) ?_
    intro a3 c3 hc3
    rw [← slV_append]
    refine EvCall.mk [] _ _ (two_spec l 2 (by omega) (by omega)) .nil ?_
    rintro _ _ ⟨rfl, rfl⟩
    refine EvCall.mk _ _ _ (with_spec l _ _ a3 l.length cb cb ((recs l).length - 1) c3 (tw l 2) (by simp; omega) (by omega) rfl (by simp; omega) hmem (by omega)) (.own (.there .here) rfl (.view .nil sees_all)) ?_
    rintro _ _ ⟨rfl, rfl⟩
    refine EvRet.mk [] .nil rfl ⟨?_, rfl⟩
    rw [delB, ← hn]
    rfl

def emptyB : List UInt8 := setTw (List.replicate 232 0) 2 232
theorem emptyB_ok : chk emptyB = 0 ∧ recs emptyB = [] := by
  have h : emptyB = compact [] := by decide +kernel
  rw [h]
  have := compact_ok (rs := []) (by decide)
  exact ⟨this.1, this.2.1⟩

theorem sumL_map_take_le (rs : List (List UInt8)) (i : Nat) : sumL ((rs.take i).map List.length) ≤ sumL (rs.map List.length) := sumL_take_le rs i
theorem sumL_bd {rs : List (List UInt8)} {m : Nat} (h : ∀ r ∈ rs, r.length ≤ m) : sumL (rs.map List.length) ≤ rs.length * m := by
  induction rs with
  | nil => simp [sumL]
  | cons x r ih =>
    have := h x (.head _)
    have := ih fun y hy => h y (.tail _ hy)
    simp only [List.map_cons, sumL, List.length_cons, Nat.succ_mul]; omega

/-- What Of answers. -/
theorem of_spec (rs : List (List UInt8)) (ao : Option Addr) (n c : Nat) (hn : rs.length = n) (hr : ∀ r ∈ rs, r.length ≤ 10000) (hn2 : n ≤ 10000) : Spec Try.prog 31 [.slice ao n c] [.view ao 9 (strV rs)]
    (fun v O => ((roomL rs < 0 ∧ v = .tuple #[.string ⟨⟨[]⟩⟩, .int .i64 11]) ∨ (0 ≤ roomL rs ∧ ∃ b, chk b = 0 ∧ recs b = rs ∧ v = .tuple #[.string ⟨⟨b⟩⟩, .int .i64 0])) ∧ O = []) := by
  refine Spec.of_ev S_ok S_mixed Try.func31 rfl rfl ?_
  refine EvCall.mk [] _ _ empty_spec .nil ?_
  rintro _ _ ⟨rfl, rfl⟩
  conv => whnf
  refine EvLoop.mk (α := Nat × List UInt8) (fun x => x.1 ≤ n ∧ chk x.2 = 0 ∧ recs x.2 = rs.take x.1) (fun x => n - x.1) (fun x => [(12, .int .i64 x.1), (4, .string ⟨⟨x.2⟩⟩)]) (fun x => [.view ao 9 (strV rs)]) ?_ ?_
  · exact ⟨(0, emptyB), ⟨by omega, emptyB_ok.1, by simpa using emptyB_ok.2⟩, ⟨rfl, rfl, trivial⟩, rfl, .cons .here .nil⟩
  rintro ⟨i, b⟩ ⟨hi, hb, hbr⟩
  dsimp only at hi hb hbr ⊢
  have hb232 := (chk_good hb).1
  have hbl : (recs b).length = i := by rw [hbr]; simp; omega
  refine EvNow.mk rfl ?_
  refine EvIf.br (EvBr.dec _ _ rfl (fun h => ?_) (fun h => ?_))
  · have hlt : i < rs.length := by omega
    have hri : (rs.getD i []).length ≤ 10000 := hr _ (by rw [List.getD_eq_getElem?_getD, List.getElem?_eq_getElem hlt]; exact List.getElem_mem _)
    refine EvIdx.sl i rfl (by omega) (by simp; omega) ?_
    refine EvLoad.mk (i * 1) rfl (.string ⟨⟨rs.getD i []⟩⟩) (by rw [Nat.mul_one]; exact strV_get hlt) ?_
    refine EvCall.mk [] _ _ (insert_spec b i (rs.getD i []) (by omega) (by omega)) .nil ?_
    rintro _ _ ⟨rfl, rfl⟩
    rw [if_pos hb, if_pos (by omega)]
    have hst := sumL_take_succ hlt
    have hstl := sumL_take_le rs (i + 1)
    have hlen : (rs.take i).length = i := by simp; omega
    by_cases hroom : ((rs.getD i []).length : Int) ≤ roomL (recs b) - 4
    · rw [if_pos hroom]
      obtain ⟨o1, o2⟩ := insB_ok hb (i := i) (by omega) hroom
      repeat ((conv => whnf); (first | refine nowA ?_ | refine numN ?_ | refine numI ?_ | refine EvVal.ofN ?_ | refine EvNew.mk fun _ => ?_ | refine EvLoad.mk _ rfl _ rfl ?_ | refine divA ?_))
      refine EvIf.br (EvBr.dec _ _ rfl (fun h => absurd rfl h) (fun _ => ?_))
      repeat ((conv => whnf); (first | refine nowA ?_ | refine numN ?_ | refine numI ?_ | refine EvVal.ofN ?_ | refine EvNew.mk fun _ => ?_ | refine EvLoad.mk _ rfl _ rfl ?_ | refine divA ?_))
      refine ⟨(i + 1, insB b i (rs.getD i [])), ⟨⟨by dsimp only; omega, o1, ?_⟩, by dsimp only; omega⟩, ⟨rfl, rfl, trivial⟩, rfl, .cons .here .nil⟩
      dsimp only
      rw [o2, hbr, ins, take_succ_getD hlt [], List.take_take, Nat.min_self, List.drop_of_length_le (by omega), List.append_nil]
    · rw [if_neg hroom]
      repeat ((conv => whnf); (first | refine nowA ?_ | refine numN ?_ | refine numI ?_ | refine EvVal.ofN ?_ | refine EvNew.mk fun _ => ?_ | refine EvLoad.mk _ rfl _ rfl ?_ | refine divA ?_))
      refine EvIf.br (EvBr.dec _ _ rfl (fun _ => ?_) (fun h => absurd (by decide) h))
      refine EvRet.mk [] .nil rfl ⟨.inl ⟨?_, rfl⟩, rfl⟩
      unfold roomL at hroom ⊢
      rw [hbr] at hroom
      omega
  · have e : i = n := by omega
    subst e
    refine EvRet.mk [] .nil rfl ⟨.inr ⟨?_, b, hb, by rw [hbr, ← hn, List.take_length], rfl⟩, rfl⟩
    have := recs_room hb
    rw [hbr, ← hn, List.take_length] at this
    unfold roomL; omega

end Go.Proofs.Ytloknkdomgeolaa.She
