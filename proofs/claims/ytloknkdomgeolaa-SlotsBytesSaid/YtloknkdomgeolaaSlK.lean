/- The law SlotsBytes, walked: where the records lie: a first one at the end. -/
import Derived.Test.YtloknkdomgeolaaSlJ
namespace Go.Proofs.Ytloknkdomgeolaa.She
set_option linter.all false
open Go
set_option pp.maxSteps 600
set_option maxRecDepth 10000
set_option maxHeartbeats 4000000

theorem take8 {l : List UInt8} (h : 8 ≤ l.length) (a b c d : Nat) : (setTw (setTw (setTw (setTw l 0 a) 2 b) 4 c) 6 d).take 8 = twoB a ++ twoB b ++ twoB c ++ twoB d := by
  match l, h with
  | x0 :: x1 :: x2 :: x3 :: x4 :: x5 :: x6 :: x7 :: r, _ => simp [setTw, twoB]

theorem first_bytes (r : List UInt8) (h : r.length ≤ 224) : (insB emptyB 0 r).length = 232 ∧ (insB emptyB 0 r).take 8 = twoB 1 ++ twoB (232 - r.length) ++ twoB (232 - r.length) ++ twoB r.length ∧ (insB emptyB 0 r).drop (232 - r.length) = r := by
  have e0 : tw emptyB 0 = 0 := by decide +kernel
  have e2 : tw emptyB 2 = 232 := by decide +kernel
  have el : emptyB.length = 232 := by decide +kernel
  have hol : (over emptyB (232 - r.length) r).length = 232 := by rw [over_length (by omega)]; exact el
  have e : insB emptyB 0 r = withB (over emptyB (232 - r.length) r) [(232 - r.length, r.length)] (232 - r.length) := by
    unfold insB
    rw [if_neg (by omega), insX, e0, e2]
    rfl
  rw [e]
  refine ⟨by simpa using hol, ?_, ?_⟩
  · show (setTw (setTw (setTw (setTw _ 0 1) 2 _) 4 _) 6 _).take 8 = _
    exact take8 (by omega) _ _ _ _
  · obtain ⟨_, _, _, r4⟩ := withB_read (b := over emptyB (232 - r.length) r) (xs := [(232 - r.length, r.length)]) (heap := 232 - r.length) (by simp; omega) (by omega) (by simp; omega) (by omega)
    rw [r4 _ (by simp; omega)]
    unfold over
    rw [List.append_assoc, List.drop_append, List.drop_of_length_le (by simp; omega), List.nil_append, List.length_take, el, Nat.min_eq_left (by omega), Nat.sub_self, List.drop_zero, List.drop_of_length_le (by omega), List.append_nil]

theorem slotsBytes_spec (r : List UInt8) (hr : r.length < 9223372036854775807) : Spec Try.prog 3 [.string ⟨⟨r⟩⟩] [] (fun v O => v = .bool true ∧ O = []) := by
  refine Spec.of_ev S_ok S_mixed Try.func3 rfl rfl ?_
  refine EvCall.mk [] _ _ empty_spec .nil ?_
  rintro _ _ ⟨rfl, rfl⟩
  have hroom : roomL (recs emptyB) - 4 = 224 := by rw [emptyB_ok.2]; rfl
  by_cases h : r.length ≤ 224
  · obtain ⟨b1, b2, b3⟩ := first_bytes r h
    refine EvCall.mk [] _ _ (insert_spec emptyB 0 r (by decide +kernel) hr) .nil ?_
    rintro _ _ ⟨rfl, rfl⟩
    rw [if_pos emptyB_ok.1, if_pos (by omega), if_pos (by omega), Int.toNat_zero]
    repeat ((conv => whnf); (first | refine EvNow.mk (by first | rfl | exact fun _ => rfl | exact (fun h => nomatch h) | exact ⟨rfl, by decide⟩ | omega | decide) ?_ | (first | refine EvNum.nat (fit_i64 (by omega) (by omega)) ?_ | refine EvNum.nat (fit_u8 (by omega) (by omega)) ?_ | refine EvNum.fit _ rfl (fit_i64 (by omega) (by omega)) ?_) | refine EvVal.ofN ?_ | refine EvNew.mk fun _ => ?_ | refine EvLoad.mk _ rfl _ rfl ?_ | refine EvDiv.mk (by omega) ?_))
    refine EvIf.br (EvBr.dec _ _ rfl (fun h => absurd h (by omega)) (fun _ => ?_))
    refine EvNow.mk rfl ?_
    refine EvNum.fit ((232 - r.length : Nat) : Int) (by omega) (fit_i64 (by omega) (by omega)) ?_
    conv => whnf
    refine EvCut.direct ?_
    refine EvDraw.mk (.group [0,1,2,3,4,5,6,7,8,9,10,11,12,13,14,15,16,17,18,19,20,21,22,23,24,25,26,27,28,29,30,31,32,33] .nil) (by kernel_rfl) ?_
    refine EvQCall.mk _ _ (awake_spec.mono fun v O h => h.1) .nil ?_
    repeat ((conv => whnf); (first | (first | refine EvNow.mk (by first | rfl | exact fun _ => rfl | exact (fun h => nomatch h) | exact ⟨rfl, by decide⟩ | omega | decide) ?_ | (first | refine EvNum.nat (fit_i64 (by omega) (by omega)) ?_ | refine EvNum.nat (fit_u8 (by omega) (by omega)) ?_ | refine EvNum.fit _ rfl (fit_i64 (by omega) (by omega)) ?_) | refine EvVal.ofN ?_ | refine EvNew.mk fun _ => ?_ | refine EvLoad.mk _ rfl _ rfl ?_ | refine EvDiv.mk (by omega) ?_) | (first | refine EvBr.t (by first | rfl | exact decide_eq_true rfl | exact decide_eq_true (by assumption)) ?_ | refine EvBr.f (by first | rfl | exact decide_eq_false (by assumption)) ?_ | refine EvIte.t (by first | rfl | exact decide_eq_true rfl | exact decide_eq_true (by assumption)) ?_ | refine EvIte.f (by first | rfl | exact decide_eq_false (by assumption)) ?_)))
    rw [b1]
    repeat ((conv => whnf); (first | (first | refine EvNow.mk (by first | rfl | exact fun _ => rfl | exact (fun h => nomatch h) | exact ⟨rfl, by decide⟩ | omega | decide) ?_ | (first | refine EvNum.nat (fit_i64 (by omega) (by omega)) ?_ | refine EvNum.nat (fit_u8 (by omega) (by omega)) ?_ | refine EvNum.fit _ rfl (fit_i64 (by omega) (by omega)) ?_) | refine EvVal.ofN ?_ | refine EvNew.mk fun _ => ?_ | refine EvLoad.mk _ rfl _ rfl ?_ | refine EvDiv.mk (by omega) ?_) | (first | refine EvBr.t (by first | rfl | exact decide_eq_true rfl | exact decide_eq_true (by assumption)) ?_ | refine EvBr.f (by first | rfl | exact decide_eq_false (by assumption)) ?_ | refine EvIte.t (by first | rfl | exact decide_eq_true rfl | exact decide_eq_true (by assumption)) ?_ | refine EvIte.f (by first | rfl | exact decide_eq_false (by assumption)) ?_)))
    refine EvVal.eq (twoB 1 ++ twoB (232 - r.length) ++ twoB (232 - r.length) ++ twoB r.length) b2 ?_
    repeat ((conv => whnf); (first | (first | refine EvNow.mk (by first | rfl | exact fun _ => rfl | exact (fun h => nomatch h) | exact ⟨rfl, by decide⟩ | omega | decide) ?_ | (first | refine EvNum.nat (fit_i64 (by omega) (by omega)) ?_ | refine EvNum.nat (fit_u8 (by omega) (by omega)) ?_ | refine EvNum.fit _ rfl (fit_i64 (by omega) (by omega)) ?_) | refine EvVal.ofN ?_ | refine EvNew.mk fun _ => ?_ | refine EvLoad.mk _ rfl _ rfl ?_ | refine EvDiv.mk (by omega) ?_) | (first | refine EvBr.t (by first | rfl | exact decide_eq_true rfl | exact decide_eq_true (by assumption)) ?_ | refine EvBr.f (by first | rfl | exact decide_eq_false (by assumption)) ?_ | refine EvIte.t (by first | rfl | exact decide_eq_true rfl | exact decide_eq_true (by assumption)) ?_ | refine EvIte.f (by first | rfl | exact decide_eq_false (by assumption)) ?_)))
    refine EvQCall.mk _ _ ((rtwo_spec 1 (by omega)).mono fun v O h => h.1) .nil ?_
    repeat ((conv => whnf); (first | (first | refine EvNow.mk (by first | rfl | exact fun _ => rfl | exact (fun h => nomatch h) | exact ⟨rfl, by decide⟩ | omega | decide) ?_ | (first | refine EvNum.nat (fit_i64 (by omega) (by omega)) ?_ | refine EvNum.nat (fit_u8 (by omega) (by omega)) ?_ | refine EvNum.fit _ rfl (fit_i64 (by omega) (by omega)) ?_) | refine EvVal.ofN ?_ | refine EvNew.mk fun _ => ?_ | refine EvLoad.mk _ rfl _ rfl ?_ | refine EvDiv.mk (by omega) ?_) | (first | refine EvBr.t (by first | rfl | exact decide_eq_true rfl | exact decide_eq_true (by assumption)) ?_ | refine EvBr.f (by first | rfl | exact decide_eq_false (by assumption)) ?_ | refine EvIte.t (by first | rfl | exact decide_eq_true rfl | exact decide_eq_true (by assumption)) ?_ | refine EvIte.f (by first | rfl | exact decide_eq_false (by assumption)) ?_)))
    refine EvQCall.mk _ _ ((rtwo_spec (232 - r.length) (by omega)).mono fun v O h => h.1) .nil ?_
    repeat ((conv => whnf); (first | (first | refine EvNow.mk (by first | rfl | exact fun _ => rfl | exact (fun h => nomatch h) | exact ⟨rfl, by decide⟩ | omega | decide) ?_ | (first | refine EvNum.nat (fit_i64 (by omega) (by omega)) ?_ | refine EvNum.nat (fit_u8 (by omega) (by omega)) ?_ | refine EvNum.fit _ rfl (fit_i64 (by omega) (by omega)) ?_) | refine EvVal.ofN ?_ | refine EvNew.mk fun _ => ?_ | refine EvLoad.mk _ rfl _ rfl ?_ | refine EvDiv.mk (by omega) ?_) | (first | refine EvBr.t (by first | rfl | exact decide_eq_true rfl | exact decide_eq_true (by assumption)) ?_ | refine EvBr.f (by first | rfl | exact decide_eq_false (by assumption)) ?_ | refine EvIte.t (by first | rfl | exact decide_eq_true rfl | exact decide_eq_true (by assumption)) ?_ | refine EvIte.f (by first | rfl | exact decide_eq_false (by assumption)) ?_)))
    refine EvNow.mk (by simp [twoB]) ?_
    repeat ((conv => whnf); (first | (first | refine EvNow.mk (by first | rfl | exact fun _ => rfl | exact (fun h => nomatch h) | exact ⟨rfl, by decide⟩ | omega | decide) ?_ | (first | refine EvNum.nat (fit_i64 (by omega) (by omega)) ?_ | refine EvNum.nat (fit_u8 (by omega) (by omega)) ?_ | refine EvNum.fit _ rfl (fit_i64 (by omega) (by omega)) ?_) | refine EvVal.ofN ?_ | refine EvNew.mk fun _ => ?_ | refine EvLoad.mk _ rfl _ rfl ?_ | refine EvDiv.mk (by omega) ?_) | (first | refine EvBr.t (by first | rfl | exact decide_eq_true rfl | exact decide_eq_true (by assumption)) ?_ | refine EvBr.f (by first | rfl | exact decide_eq_false (by assumption)) ?_ | refine EvIte.t (by first | rfl | exact decide_eq_true rfl | exact decide_eq_true (by assumption)) ?_ | refine EvIte.f (by first | rfl | exact decide_eq_false (by assumption)) ?_)))
    refine EvQCall.mk _ _ ((rtwo_spec (232 - r.length) (by omega)).mono fun v O h => h.1) .nil ?_
    repeat ((conv => whnf); (first | (first | refine EvNow.mk (by first | rfl | exact fun _ => rfl | exact (fun h => nomatch h) | exact ⟨rfl, by decide⟩ | omega | decide) ?_ | (first | refine EvNum.nat (fit_i64 (by omega) (by omega)) ?_ | refine EvNum.nat (fit_u8 (by omega) (by omega)) ?_ | refine EvNum.fit _ rfl (fit_i64 (by omega) (by omega)) ?_) | refine EvVal.ofN ?_ | refine EvNew.mk fun _ => ?_ | refine EvLoad.mk _ rfl _ rfl ?_ | refine EvDiv.mk (by omega) ?_) | (first | refine EvBr.t (by first | rfl | exact decide_eq_true rfl | exact decide_eq_true (by assumption)) ?_ | refine EvBr.f (by first | rfl | exact decide_eq_false (by assumption)) ?_ | refine EvIte.t (by first | rfl | exact decide_eq_true rfl | exact decide_eq_true (by assumption)) ?_ | refine EvIte.f (by first | rfl | exact decide_eq_false (by assumption)) ?_)))
    refine EvNow.mk (by simp [twoB]) ?_
    repeat ((conv => whnf); (first | (first | refine EvNow.mk (by first | rfl | exact fun _ => rfl | exact (fun h => nomatch h) | exact ⟨rfl, by decide⟩ | omega | decide) ?_ | (first | refine EvNum.nat (fit_i64 (by omega) (by omega)) ?_ | refine EvNum.nat (fit_u8 (by omega) (by omega)) ?_ | refine EvNum.fit _ rfl (fit_i64 (by omega) (by omega)) ?_) | refine EvVal.ofN ?_ | refine EvNew.mk fun _ => ?_ | refine EvLoad.mk _ rfl _ rfl ?_ | refine EvDiv.mk (by omega) ?_) | (first | refine EvBr.t (by first | rfl | exact decide_eq_true rfl | exact decide_eq_true (by assumption)) ?_ | refine EvBr.f (by first | rfl | exact decide_eq_false (by assumption)) ?_ | refine EvIte.t (by first | rfl | exact decide_eq_true rfl | exact decide_eq_true (by assumption)) ?_ | refine EvIte.f (by first | rfl | exact decide_eq_false (by assumption)) ?_)))
    refine EvQCall.mk _ _ ((rtwo_spec r.length (by omega)).mono fun v O h => h.1) .nil ?_
    repeat ((conv => whnf); (first | (first | refine EvNow.mk (by first | rfl | exact fun _ => rfl | exact (fun h => nomatch h) | exact ⟨rfl, by decide⟩ | omega | decide) ?_ | (first | refine EvNum.nat (fit_i64 (by omega) (by omega)) ?_ | refine EvNum.nat (fit_u8 (by omega) (by omega)) ?_ | refine EvNum.fit _ rfl (fit_i64 (by omega) (by omega)) ?_) | refine EvVal.ofN ?_ | refine EvNew.mk fun _ => ?_ | refine EvLoad.mk _ rfl _ rfl ?_ | refine EvDiv.mk (by omega) ?_) | (first | refine EvBr.t (by first | rfl | exact decide_eq_true rfl | exact decide_eq_true (by assumption)) ?_ | refine EvBr.f (by first | rfl | exact decide_eq_false (by assumption)) ?_ | refine EvIte.t (by first | rfl | exact decide_eq_true rfl | exact decide_eq_true (by assumption)) ?_ | refine EvIte.f (by first | rfl | exact decide_eq_false (by assumption)) ?_)))
    refine EvNow.mk (by simp [twoB]) ?_
    repeat ((conv => whnf); (first | (first | refine EvNow.mk (by first | rfl | exact fun _ => rfl | exact (fun h => nomatch h) | exact ⟨rfl, by decide⟩ | omega | decide) ?_ | (first | refine EvNum.nat (fit_i64 (by omega) (by omega)) ?_ | refine EvNum.nat (fit_u8 (by omega) (by omega)) ?_ | refine EvNum.fit _ rfl (fit_i64 (by omega) (by omega)) ?_) | refine EvVal.ofN ?_ | refine EvNew.mk fun _ => ?_ | refine EvLoad.mk _ rfl _ rfl ?_ | refine EvDiv.mk (by omega) ?_) | (first | refine EvBr.t (by first | rfl | exact decide_eq_true rfl | exact decide_eq_true (by assumption)) ?_ | refine EvBr.f (by first | rfl | exact decide_eq_false (by assumption)) ?_ | refine EvIte.t (by first | rfl | exact decide_eq_true rfl | exact decide_eq_true (by assumption)) ?_ | refine EvIte.f (by first | rfl | exact decide_eq_false (by assumption)) ?_)))
    refine EvVal.eq r (by rw [List.take_of_length_le (by omega)]; exact b3) ?_
    repeat ((conv => whnf); (first | (first | refine EvNow.mk (by first | rfl | exact fun _ => rfl | exact (fun h => nomatch h) | exact ⟨rfl, by decide⟩ | omega | decide) ?_ | (first | refine EvNum.nat (fit_i64 (by omega) (by omega)) ?_ | refine EvNum.nat (fit_u8 (by omega) (by omega)) ?_ | refine EvNum.fit _ rfl (fit_i64 (by omega) (by omega)) ?_) | refine EvVal.ofN ?_ | refine EvNew.mk fun _ => ?_ | refine EvLoad.mk _ rfl _ rfl ?_ | refine EvDiv.mk (by omega) ?_) | (first | refine EvBr.t (by first | rfl | exact decide_eq_true rfl | exact decide_eq_true (by assumption)) ?_ | refine EvBr.f (by first | rfl | exact decide_eq_false (by assumption)) ?_ | refine EvIte.t (by first | rfl | exact decide_eq_true rfl | exact decide_eq_true (by assumption)) ?_ | refine EvIte.f (by first | rfl | exact decide_eq_false (by assumption)) ?_)))
    exact EvRet.mk [] .nil rfl ⟨by simp [oneOr], rfl⟩
  · refine EvCall.mk [] _ _ (insert_spec emptyB 0 r (by decide +kernel) hr) .nil ?_
    rintro _ _ ⟨rfl, rfl⟩
    rw [if_pos emptyB_ok.1, if_pos (by omega), if_neg (by omega)]
    repeat ((conv => whnf); (first | refine EvNow.mk (by first | rfl | exact fun _ => rfl | exact (fun h => nomatch h) | exact ⟨rfl, by decide⟩ | omega | decide) ?_ | (first | refine EvNum.nat (fit_i64 (by omega) (by omega)) ?_ | refine EvNum.nat (fit_u8 (by omega) (by omega)) ?_ | refine EvNum.fit _ rfl (fit_i64 (by omega) (by omega)) ?_) | refine EvVal.ofN ?_ | refine EvNew.mk fun _ => ?_ | refine EvLoad.mk _ rfl _ rfl ?_ | refine EvDiv.mk (by omega) ?_))
    refine EvIf.br (EvBr.dec _ _ rfl (fun _ => ?_) (fun h => absurd h (by omega)))
    conv => whnf
    refine EvCut.direct ?_
    refine EvCall.mk [] _ _ awake_spec .nil ?_
    rintro _ _ ⟨rfl, rfl⟩
    repeat ((conv => whnf); (first | (first | refine EvNow.mk (by first | rfl | exact fun _ => rfl | exact (fun h => nomatch h) | exact ⟨rfl, by decide⟩ | omega | decide) ?_ | (first | refine EvNum.nat (fit_i64 (by omega) (by omega)) ?_ | refine EvNum.nat (fit_u8 (by omega) (by omega)) ?_ | refine EvNum.fit _ rfl (fit_i64 (by omega) (by omega)) ?_) | refine EvVal.ofN ?_ | refine EvNew.mk fun _ => ?_ | refine EvLoad.mk _ rfl _ rfl ?_ | refine EvDiv.mk (by omega) ?_) | (first | refine EvBr.t (by first | rfl | exact decide_eq_true rfl | exact decide_eq_true (by assumption)) ?_ | refine EvBr.f (by first | rfl | exact decide_eq_false (by assumption)) ?_ | refine EvIte.t (by first | rfl | exact decide_eq_true rfl | exact decide_eq_true (by assumption)) ?_ | refine EvIte.f (by first | rfl | exact decide_eq_false (by assumption)) ?_)))
    exact EvRet.mk [] .nil rfl ⟨by simp [oneOr], rfl⟩

end Go.Proofs.Ytloknkdomgeolaa.She
