/- The walks of the functions of slots: what changes a payload. -/
import Derived.Test.YtloknkdomgeolaaSlM
namespace Go.Proofs.Ytloknkdomgeolaa.She
set_option linter.all false
open Go
set_option pp.maxSteps 600
set_option maxRecDepth 10000

theorem EvCopy.over {L : SH} {l s : List UInt8} {b p n cap : Nat} {upd : List Value → SH} [ho : HasOwn L b (bytesV l) upd] {k : Value → SH → Prop} (hp : p + s.length ≤ l.length) (hc : l.length ≤ cap) (hn : s.length ≤ n)
    (h : listK (upd (bytesV (over l p s))) fun L' => k (.int .i64 (s.length : Nat)) L') : EvCopy (subA (some ⟨b, 0, none⟩) (p * 1) (decide (cap = p))) n 1 L s.length (bytesV s) k := by
  by_cases hs : s.length = 0
  · have hs' : s = [] := List.length_eq_zero_iff.1 hs
    subst hs'
    refine .zero (by simp) ?_
    obtain ⟨A, B, mk, h1, h2, _⟩ := ho.own
    have e : She.over l p [] = l := by simp [She.over]
    rw [e, listK_eq, h2, ← h1] at h
    exact h
  · have hd : decide (cap = p) = false := decide_eq_false (by omega)
    refine .own (xs := bytesV l) b p (by rw [hd]; simp [subA, Addr.add]; omega) s.length (by omega) (allOne_bytesV _) (by simp; omega) (bytesV (She.over l p s)) ?_ h
    rw [Nat.mul_one, ← bytesV_length s, List.take_length]
    exact setCells_bytesV _ _ _ hp

theorem compact_spec (l : List UInt8) (hl : l.length < 9223372036854775807) : Spec Try.prog 23 [.string ⟨⟨l⟩⟩] []
    (fun v O => v = (if chk l = 0 then .tuple #[.string ⟨⟨compact (recs l)⟩⟩, .int .i64 0] else .tuple #[.string ⟨⟨[]⟩⟩, .int .i64 (chk l)]) ∧ O = []) := by
  refine Spec.of_ev S_ok S_mixed Try.func23 rfl rfl ?_
  refine EvCall.mk [] [] _ (all_spec l hl) .nil ?_
  rintro _ _ ⟨ao, cap, hcap, rfl, rfl⟩
  repeat ((conv => whnf); (first | refine nowA ?_ | refine numN ?_ | refine numI ?_ | refine EvVal.ofN ?_ | refine EvNew.mk fun _ => ?_ | refine EvLoad.mk _ rfl _ rfl ?_ | refine divA ?_))
  refine EvIf.br (EvBr.dec _ _ rfl (fun h => ?_) (fun h => ?_))
  · refine EvRet.mk [] .nil rfl ⟨?_, rfl⟩
    rw [if_neg h]; rfl
  have h0 : chk l = 0 := by omega
  have hroom := recs_room h0
  rw [if_pos h0]
  generalize hrs : recs l = rs at *
  have hs : sumL (rs.map List.length) ≤ 232 := by omega
  refine EvMake.mk (by omega) (by decide) (by decide) (by decide) 232 232 rfl rfl fun b => ?_
  rw [zerosV_u8]
  conv => whnf
  refine EvLoop.mk (α := Nat × Option Addr × Nat) (fun x => x.1 ≤ rs.length) (fun x => rs.length - x.1) (fun x => [(22, .int .i64 x.1), (7, .slice x.2.1 x.1 x.2.2), (8, .int .i64 (posN rs x.1))])
    (fun x => [.row (some ⟨b, 0, none⟩) 232 5 1 (bytesV (compBuf rs x.1)), .row x.2.1 x.2.2 81 2 (slV (tosN rs x.1)), .row ao cap 9 1 (strV rs)]) ?_ ?_
  · refine ⟨(0, none, 0), by dsimp only; omega, ⟨rfl, rfl, rfl, trivial⟩, rfl, ?_⟩
    dsimp only
    rw [show compBuf rs 0 = List.replicate 232 0 by simp [compBuf, posN, sumL]]
    exact .cons .here (.none (.cons .here .nil))
  rintro ⟨i, at_, ct⟩ hi
  dsimp only at hi ⊢
  repeat ((conv => whnf); (first | refine nowA ?_ | refine numN ?_ | refine numI ?_ | refine EvVal.ofN ?_ | refine EvNew.mk fun _ => ?_ | refine EvLoad.mk _ rfl _ rfl ?_ | refine divA ?_))
  refine EvIf.br (EvBr.dec _ _ rfl (fun h => ?_) (fun h => ?_))
  · have hlt : i < rs.length := by omega
    obtain ⟨hp1, hp2⟩ := posN_succ hlt hs
    refine EvIdx.row i rfl hlt (by simp; omega) ?_
    refine EvLoad.mk (i * 1) rfl (.string ⟨⟨rs.getD i []⟩⟩) (by rw [Nat.mul_one]; exact strV_get hlt) ?_
    refine EvNow.mk rfl ?_
    refine EvNum.fit (posN rs (i + 1) : Nat) (by omega) (fit_i64 (by omega) (by omega)) ?_
    repeat ((conv => whnf); (first | refine nowA ?_ | refine numN ?_ | refine numI ?_ | refine EvVal.ofN ?_ | refine EvNew.mk fun _ => ?_ | refine EvLoad.mk _ rfl _ rfl ?_ | refine divA ?_))
    refine EvVal.rfl ?_
    refine EvVal.rfl ?_
    refine EvSrc.mk _ _ (src_str S_ok rfl rfl _ (rs.getD i [])) ?_
    refine EvCopy.over (by rw [compBuf_length rs i hs]; omega) (by rw [compBuf_length rs i hs]; omega) (by omega) ?_
    rw [compBuf_succ hlt hs]
    repeat ((conv => whnf); (first | refine nowA ?_ | refine numN ?_ | refine numI ?_ | refine EvVal.ofN ?_ | refine EvNew.mk fun _ => ?_ | refine EvLoad.mk _ rfl _ rfl ?_ | refine divA ?_))
    refine EvSrc.mk 1 (slV [(posN rs (i + 1), (rs.getD i []).length)]) (src_sl S_ok rfl rfl (by decide) 1 1 _ rfl (by simp) rfl) ?_
    refine EvApp.own ⟨rfl, rfl, rfl, by decide⟩ (by simp [slV_length]) (allOne_slV _) (by omega) (i + 1) rfl ?_
    intro ao' cap' hcap'
    rw [← slV_append, ← tosN_succ]
    repeat ((conv => whnf); (first | refine nowA ?_ | refine numN ?_ | refine numI ?_ | refine EvVal.ofN ?_ | refine EvNew.mk fun _ => ?_ | refine EvLoad.mk _ rfl _ rfl ?_ | refine divA ?_))
    refine ⟨(i + 1, ao', cap'), ⟨by dsimp only; omega, by dsimp only; omega⟩, ⟨rfl, rfl, rfl, trivial⟩, rfl, .cons (.there .here) (.cons (.there .here) (.cons (.there .here) .nil))⟩
  have e : i = rs.length := by omega
  subst e
  refine EvCall.mk _ _ _ (with_spec (compBuf rs rs.length) (tosN rs rs.length) _ at_ 232 232 232 rs.length ct (posN rs rs.length) (by rw [compBuf_length _ _ hs]; simp; omega) (by rw [compBuf_length _ _ hs]; omega) (compBuf_length _ _ hs) (by simp) (fun x hx => ?_) (by unfold posN; omega)) (.own .here rfl (.view .nil sees_all)) ?_
  · obtain ⟨j, hj, rfl⟩ := List.mem_map.1 hx
    have hj : j < rs.length := by simpa using hj
    have := posN_succ hj hs
    dsimp only; omega
  rintro _ _ ⟨rfl, rfl⟩
  refine EvRet.mk [] .nil rfl ⟨rfl, rfl⟩

theorem insert_spec (l : List UInt8) (i : Int) (r : List UInt8) (hl : l.length < 9223372036854775807) (hr : r.length ≤ 9223372036854775807) : Spec Try.prog 13 [.string ⟨⟨l⟩⟩, .int .i64 i, .string ⟨⟨r⟩⟩] []
    (fun v O => v = (if chk l = 0 then (if 0 ≤ i ∧ i ≤ (recs l).length then (if (r.length : Int) ≤ roomL (recs l) - 4 then .tuple #[.string ⟨⟨insB l i.toNat r⟩⟩, .int .i64 0] else .tuple #[.string ⟨⟨[]⟩⟩, .int .i64 11]) else .tuple #[.string ⟨⟨[]⟩⟩, .int .i64 3]) else .tuple #[.string ⟨⟨[]⟩⟩, .int .i64 (chk l)]) ∧ O = []) := by
  refine Spec.of_ev S_ok S_mixed Try.func13 rfl rfl ?_
  refine EvCall.mk [] [] _ (chk_spec l hl) .nil ?_
  rintro _ _ ⟨rfl, rfl⟩
  repeat ((conv => whnf); (first | refine nowA ?_ | refine numN ?_ | refine numI ?_ | refine EvVal.ofN ?_ | refine EvNew.mk fun _ => ?_ | refine EvLoad.mk _ rfl _ rfl ?_ | refine divA ?_))
  refine EvIf.br (EvBr.dec _ _ rfl (fun h => ?_) (fun h => ?_))
  · refine EvRet.mk [] .nil rfl ⟨?_, rfl⟩
    rw [if_neg h]; rfl
  have h0 : chk l = 0 := by omega
  rw [if_pos h0]
  have hg := chk_good h0
  have hn := recs_n h0
  have hroom := recs_room h0
  refine EvCall.mk [] [] _ (list_spec l (by omega) (by omega)) .nil ?_
  rintro _ _ ⟨ao, cap, hcap, rfl, rfl⟩
  rw [← hn] at hcap ⊢
  conv => whnf
  refine EvCut.cut (α := Unit) (fun _ => True) (fun _ => [(20, .bool (decide (¬ (0 ≤ i ∧ i ≤ (recs l).length))))]) (fun _ => [.row ao cap 81 2 (slV (slotsOf l (recs l).length))]) ?_ ?_
  · repeat' ((conv => whnf); (first | (first | refine nowA ?_ | refine numN ?_ | refine numI ?_ | refine EvVal.ofN ?_ | refine EvNew.mk fun _ => ?_ | refine EvLoad.mk _ rfl _ rfl ?_ | refine divA ?_) | (first | refine brT ?_ | refine brF ?_ | refine iteT ?_ | refine iteF ?_ | refine brD (fun _ => ?_) (fun _ => ?_))))
    · refine ⟨(), trivial, ⟨?_, trivial⟩, rfl, .cons .here .nil⟩
      rw [show decide (¬ (0 ≤ i ∧ i ≤ (recs l).length)) = true from decide_eq_true (by omega)]
      rfl
    · refine ⟨(), trivial, ⟨?_, trivial⟩, rfl, .cons .here .nil⟩
      simp only [getF, Option.some.injEq, Value.bool.injEq, decide_eq_decide]
      omega
  intro _ _
  repeat ((conv => whnf); (first | refine nowA ?_ | refine numN ?_ | refine numI ?_ | refine EvVal.ofN ?_ | refine EvNew.mk fun _ => ?_ | refine EvLoad.mk _ rfl _ rfl ?_ | refine divA ?_))
  refine EvIf.br (EvBr.dec _ _ rfl (fun h => ?_) (fun h => ?_))
  · refine EvRet.mk [] .nil rfl ⟨?_, rfl⟩
    rw [if_neg h]; rfl
  have hi := Decidable.not_not.1 h
  rw [if_pos hi]
  obtain ⟨j, rfl⟩ := Int.eq_ofNat_of_zero_le hi.1
  have hj : j ≤ (recs l).length := by omega
  refine EvCall.mk [] _ _ (room_spec l hl) .nil ?_
  rintro _ _ ⟨rfl, rfl⟩
  rw [room_eq h0]
  have hrl : roomL (recs l) ≤ 228 ∧ 0 ≤ roomL (recs l) := by unfold roomL; omega
  repeat ((conv => whnf); (first | refine nowA ?_ | refine numN ?_ | refine numI ?_ | refine EvVal.ofN ?_ | refine EvNew.mk fun _ => ?_ | refine EvLoad.mk _ rfl _ rfl ?_ | refine divA ?_))
  refine EvIf.br (EvBr.dec _ _ rfl (fun h => ?_) (fun h => ?_))
  · refine EvRet.mk [] .nil rfl ⟨?_, rfl⟩
    rw [if_neg (by omega)]; rfl
  rw [if_pos (by omega)]
  have hrl2 : (r.length : Int) ≤ roomL (recs l) - 4 := by omega
  repeat ((conv => whnf); (first | refine nowA ?_ | refine numN ?_ | refine numI ?_ | refine EvVal.ofN ?_ | refine EvNew.mk fun _ => ?_ | refine EvLoad.mk _ rfl _ rfl ?_ | refine divA ?_))
  refine EvCall.mk [] _ _ (two_spec l 2 (by omega) (by omega)) .nil ?_
  rintro _ _ ⟨rfl, rfl⟩
  repeat ((conv => whnf); (first | refine nowA ?_ | refine numN ?_ | refine numI ?_ | refine EvVal.ofN ?_ | refine EvNew.mk fun _ => ?_ | refine EvLoad.mk _ rfl _ rfl ?_ | refine divA ?_))
  refine EvIf.cut (α := Option Addr × Nat) (fun x => (recs l).length ≤ x.2)
    (fun x => [(0, .string ⟨⟨if 4 + 4 * (tw l 0 + 1) + r.length > tw l 2 then compact (recs l) else l⟩⟩), (9, .slice x.1 (recs l).length x.2)])
    (fun x => [.row x.1 x.2 81 2 (slV (slotsOf (if 4 + 4 * (tw l 0 + 1) + r.length > tw l 2 then compact (recs l) else l) (recs l).length))]) (EvBr.dec _ _ rfl (fun h => ?_) (fun h => ?_)) ?_
  · obtain ⟨c1, c2, c3, c4⟩ := compact_ok hroom
    have c5 := chk_good c1
    refine EvCall.mk [] _ _ (compact_spec l hl) .nil ?_
    rintro _ _ ⟨rfl, rfl⟩
    rw [if_pos h0]
    refine EvCall.mk [] _ _ (list_spec (compact (recs l)) (by omega) (by omega)) .nil ?_
    rintro _ _ ⟨ao2, cap2, hcap2, rfl, rfl⟩
    rw [c4] at hcap2 ⊢
    refine ⟨(ao2, cap2), hcap2, ⟨?_, rfl, trivial⟩, rfl, ?_⟩
    · rw [if_pos (by omega)]; rfl
    · rw [if_pos (by omega)]; exact .cons .here .nil
  · refine ⟨(ao, cap), hcap, ⟨?_, rfl, trivial⟩, rfl, ?_⟩
    · rw [if_neg (by omega)]; rfl
    · rw [if_neg (by omega)]; exact .cons .here .nil
  rintro ⟨a2, c2⟩ hc2
  dsimp only at hc2 ⊢
  have hb1 : ∃ b1, b1 = (if 4 + 4 * (tw l 0 + 1) + r.length > tw l 2 then compact (recs l) else l) ∧ chk b1 = 0 ∧ tw b1 0 = (recs l).length ∧ 4 + 4 * ((recs l).length + 1) + r.length ≤ tw b1 2 := by
    refine ⟨_, rfl, ?_⟩
    split
    · obtain ⟨c1, c2, c3, c4⟩ := compact_ok hroom
      exact ⟨c1, c4, by unfold roomL at hrl2; omega⟩
    · exact ⟨h0, by omega, by omega⟩
  unfold insB
  obtain ⟨b1, hb, b2, b3, b4⟩ := hb1
  rw [← hb]
  clear hb
  have b5 := chk_good b2
  refine EvCall.mk [] _ _ (two_spec b1 2 (by omega) (by omega)) .nil ?_
  rintro _ _ ⟨rfl, rfl⟩
  refine EvNow.mk rfl ?_
  refine EvNum.fit ((tw b1 2 - r.length : Nat) : Int) (by omega) (fit_i64 (by omega) (by omega)) ?_
  intro bb cb hcb
  repeat ((conv => whnf); (first | refine nowA ?_ | refine numN ?_ | refine numI ?_ | refine EvVal.ofN ?_ | refine EvNew.mk fun _ => ?_ | refine EvLoad.mk _ rfl _ rfl ?_ | refine divA ?_))
  refine EvVal.rfl ?_
  refine EvVal.rfl ?_
  refine EvSrc.mk _ _ (src_str S_ok rfl rfl _ r) ?_
  refine EvCopy.over (by omega) (by omega) (by omega) ?_
  repeat ((conv => whnf); (first | refine nowA ?_ | refine numN ?_ | refine numI ?_ | refine EvVal.ofN ?_ | refine EvNew.mk fun _ => ?_ | refine EvLoad.mk _ rfl _ rfl ?_ | refine divA ?_))
  have hslen := slotsOf_length b1 (recs l).length
  refine EvSrc.mk 1 (slV [(tw b1 2 - r.length, r.length)]) (src_sl S_ok rfl rfl (by decide) 1 1 _ rfl (by simp) rfl) ?_
  refine EvApp.copy (by omega) (by simp [slV_length]; omega) (by omega) (j + 1) rfl (slV ((slotsOf b1 (recs l).length).take j)) (slV_take _ _) ?_
  intro a3 c3 hc3
  rw [← slV_append]
  repeat ((conv => whnf); (first | refine nowA ?_ | refine numN ?_ | refine numI ?_ | refine EvVal.ofN ?_ | refine EvNew.mk fun _ => ?_ | refine EvLoad.mk _ rfl _ rfl ?_ | refine divA ?_))
  refine EvVal.rfl ?_
  refine EvVal.rfl ?_
  refine EvSrc.mk ((recs l).length - j) (slV ((slotsOf b1 (recs l).length).drop j)) (src_sub S_ok rfl rfl (by decide) (j * 2) _ _ _ (fun h => by have := of_decide_eq_true h; omega) _ (by rw [slV_drop, slV_take, List.take_of_length_le (by simp)]) (by rw [slV_length]; simp; omega) (allOne_slV _)) ?_
  refine EvApp.own ⟨rfl, rfl, rfl, by decide⟩ (by simp [slV_length]; omega) (allOne_slV _) (by omega) ((recs l).length + 1) (by omega) ?_
  intro a4 c4 hc4
  rw [← slV_append]
  refine EvCall.mk _ _ _ (with_spec (over b1 (tw b1 2 - r.length) r) _ _ a4 _ _ cb ((recs l).length + 1) c4 (tw b1 2 - r.length) ?_ (by rw [over_length (by omega)]; omega) (over_length (by omega)) (by simp; omega) (fun x hx => ?_) (by omega)) (.own (.there (.there .here)) rfl (.view .nil sees_all)) ?_
  · rw [over_length (by omega)]; simp; omega
  · simp only [List.mem_append, List.mem_singleton] at hx
    rcases hx with (hx | hx) | hx
    · obtain ⟨q, _, rfl⟩ := List.mem_map.1 (List.mem_of_mem_take hx)
      have := slot_lt b1 q; omega
    · subst hx; dsimp only; omega
    · obtain ⟨q, _, rfl⟩ := List.mem_map.1 (List.mem_of_mem_drop hx)
      have := slot_lt b1 q; omega
  rintro _ _ ⟨rfl, rfl⟩
  refine EvRet.mk [] .nil rfl ⟨?_, rfl⟩
  rw [insX, b3]
  rfl

end Go.Proofs.Ytloknkdomgeolaa.She
