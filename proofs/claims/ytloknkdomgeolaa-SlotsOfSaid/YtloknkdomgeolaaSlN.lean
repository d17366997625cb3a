/- The laws SlotsOf and SlotsChecks, walked. -/
import Derived.Test.YtloknkdomgeolaaSlJ
namespace Go.Proofs.Ytloknkdomgeolaa.She
set_option linter.all false
open Go
set_option pp.maxSteps 600
set_option maxRecDepth 10000
set_option maxHeartbeats 4000000

def cut300 (rs : List (List UInt8)) : List (List UInt8) := rs.map fun s => s.take 300
theorem cut300_append (a b : List (List UInt8)) : cut300 (a ++ b) = cut300 a ++ cut300 b := by simp [cut300]
@[simp] theorem cut300_length (a : List (List UInt8)) : (cut300 a).length = a.length := by simp [cut300]

theorem slotsOf_spec (rs : List (List UInt8)) (ao : Option Addr) (n c : Nat) (hn : rs.length = n) (hn2 : n ≤ c) (hc : c ≤ 9223372036854775807) (hl : ∀ x ∈ rs, x.length ≤ 9223372036854775807) :
    Spec Try.prog 7 [.slice ao n c] [.view ao 9 (strV rs)] (fun v O => v = .bool true ∧ O = []) := by
  refine Spec.of_ev S_ok S_mixed Try.func7 rfl rfl ?_
  repeat ((conv => whnf); (first | refine EvNow.mk (by first | rfl | exact fun _ => rfl | exact (fun h => nomatch h) | exact ⟨rfl, by decide⟩ | omega | decide) ?_ | (first | refine EvNum.nat (fit_i64 (by omega) (by omega)) ?_ | refine EvNum.nat (fit_u8 (by omega) (by omega)) ?_ | refine EvNum.fit _ rfl (fit_i64 (by omega) (by omega)) ?_) | refine EvVal.ofN ?_ | refine EvNew.mk fun _ => ?_ | refine EvLoad.mk _ rfl _ rfl ?_ | refine EvDiv.mk (by omega) ?_))
  refine EvIf.cut (α := Unit) (fun _ => True) (fun _ => [(0, .slice ao (min n 80) c)]) (fun _ => [.view ao 9 (strV rs)]) (EvBr.dec _ _ rfl (fun h => ?_) (fun h => ?_)) ?_
  · repeat ((conv => whnf); (first | refine EvNow.mk (by first | rfl | exact fun _ => rfl | exact (fun h => nomatch h) | exact ⟨rfl, by decide⟩ | omega | decide) ?_ | (first | refine EvNum.nat (fit_i64 (by omega) (by omega)) ?_ | refine EvNum.nat (fit_u8 (by omega) (by omega)) ?_ | refine EvNum.fit _ rfl (fit_i64 (by omega) (by omega)) ?_) | refine EvVal.ofN ?_ | refine EvNew.mk fun _ => ?_ | refine EvLoad.mk _ rfl _ rfl ?_ | refine EvDiv.mk (by omega) ?_))
    exact ⟨(), trivial, ⟨by rw [Nat.min_eq_right (by omega)]; rfl, trivial⟩, rfl, .cons .here .nil⟩
  · exact ⟨(), trivial, ⟨by rw [Nat.min_eq_left (by omega)]; rfl, trivial⟩, rfl, .cons .here .nil⟩
  intro _ _
  have hm : ∃ m, m = min n 80 := ⟨_, rfl⟩
  obtain ⟨m, hm⟩ := hm
  rw [← hm]
  conv => whnf
  refine EvLoop.mk (α := Nat × Option Addr × Nat) (fun x => x.1 ≤ m ∧ x.1 ≤ x.2.2) (fun x => m - x.1) (fun x => [(4, .int .i64 x.1), (3, .slice x.2.1 x.1 x.2.2)]) (fun x => [.row x.2.1 x.2.2 9 1 (strV (cut300 (rs.take x.1))), .view ao 9 (strV rs)]) ?_ ?_
  · exact ⟨(0, none, 0), ⟨by dsimp only; omega, by dsimp only; omega⟩, ⟨rfl, rfl, trivial⟩, rfl, .none (.cons .here .nil)⟩
  rintro ⟨i, ap, cp⟩ ⟨hi, hcp⟩
  dsimp only at hi hcp ⊢
  repeat ((conv => whnf); (first | refine EvNow.mk (by first | rfl | exact fun _ => rfl | exact (fun h => nomatch h) | exact ⟨rfl, by decide⟩ | omega | decide) ?_ | (first | refine EvNum.nat (fit_i64 (by omega) (by omega)) ?_ | refine EvNum.nat (fit_u8 (by omega) (by omega)) ?_ | refine EvNum.fit _ rfl (fit_i64 (by omega) (by omega)) ?_) | refine EvVal.ofN ?_ | refine EvNew.mk fun _ => ?_ | refine EvLoad.mk _ rfl _ rfl ?_ | refine EvDiv.mk (by omega) ?_))
  refine EvIf.br (EvBr.dec _ _ rfl (fun h => ?_) (fun h => ?_))
  · have hlt : i < rs.length := by omega
    have hsl : (rs.getD i []).length ≤ 9223372036854775807 := hl _ (by rw [List.getD_eq_getElem?_getD, List.getElem?_eq_getElem hlt]; exact List.getElem_mem _)
    refine EvIdx.sl i rfl (by omega) (by simp; omega) ?_
    refine EvLoad.mk (i * 1) rfl (.string ⟨⟨rs.getD i []⟩⟩) (by rw [Nat.mul_one]; exact strV_get hlt) ?_
    repeat ((conv => whnf); (first | refine EvNow.mk (by first | rfl | exact fun _ => rfl | exact (fun h => nomatch h) | exact ⟨rfl, by decide⟩ | omega | decide) ?_ | (first | refine EvNum.nat (fit_i64 (by omega) (by omega)) ?_ | refine EvNum.nat (fit_u8 (by omega) (by omega)) ?_ | refine EvNum.fit _ rfl (fit_i64 (by omega) (by omega)) ?_) | refine EvVal.ofN ?_ | refine EvNew.mk fun _ => ?_ | refine EvLoad.mk _ rfl _ rfl ?_ | refine EvDiv.mk (by omega) ?_))
    refine EvIf.cut (α := Unit) (fun _ => True) (fun _ => [(5, .string ⟨⟨(rs.getD i []).take 300⟩⟩)]) (fun _ => [.row ap cp 9 1 (strV (cut300 (rs.take i))), .view ao 9 (strV rs)]) (EvBr.dec _ _ rfl (fun h => ?_) (fun h => ?_)) ?_
    · repeat ((conv => whnf); (first | refine EvNow.mk (by first | rfl | exact fun _ => rfl | exact (fun h => nomatch h) | exact ⟨rfl, by decide⟩ | omega | decide) ?_ | (first | refine EvNum.nat (fit_i64 (by omega) (by omega)) ?_ | refine EvNum.nat (fit_u8 (by omega) (by omega)) ?_ | refine EvNum.fit _ rfl (fit_i64 (by omega) (by omega)) ?_) | refine EvVal.ofN ?_ | refine EvNew.mk fun _ => ?_ | refine EvLoad.mk _ rfl _ rfl ?_ | refine EvDiv.mk (by omega) ?_))
      refine EvVal.eq ((rs.getD i []).take 300) (by simp) ?_
      exact ⟨(), trivial, ⟨rfl, trivial⟩, rfl, .cons .here (.cons .here .nil)⟩
    · exact ⟨(), trivial, ⟨by rw [List.take_of_length_le (by omega)]; rfl, trivial⟩, rfl, .cons .here (.cons .here .nil)⟩
    intro _ _
    repeat ((conv => whnf); (first | refine EvNow.mk (by first | rfl | exact fun _ => rfl | exact (fun h => nomatch h) | exact ⟨rfl, by decide⟩ | omega | decide) ?_ | (first | refine EvNum.nat (fit_i64 (by omega) (by omega)) ?_ | refine EvNum.nat (fit_u8 (by omega) (by omega)) ?_ | refine EvNum.fit _ rfl (fit_i64 (by omega) (by omega)) ?_) | refine EvVal.ofN ?_ | refine EvNew.mk fun _ => ?_ | refine EvLoad.mk _ rfl _ rfl ?_ | refine EvDiv.mk (by omega) ?_))
    refine EvSrc.mk 1 (strV (cut300 [rs.getD i []])) (src_sl S_ok rfl rfl (by decide) 1 1 _ rfl (by simp) rfl) ?_
    refine EvApp.own ⟨rfl, rfl, rfl, by decide⟩ (by simp; omega) (allOne_strV _) (by omega) (i + 1) rfl ?_
    intro ao' cap' hcap'
    rw [← strV_append, ← cut300_append, ← take_succ_getD hlt []]
    repeat ((conv => whnf); (first | refine EvNow.mk (by first | rfl | exact fun _ => rfl | exact (fun h => nomatch h) | exact ⟨rfl, by decide⟩ | omega | decide) ?_ | (first | refine EvNum.nat (fit_i64 (by omega) (by omega)) ?_ | refine EvNum.nat (fit_u8 (by omega) (by omega)) ?_ | refine EvNum.fit _ rfl (fit_i64 (by omega) (by omega)) ?_) | refine EvVal.ofN ?_ | refine EvNew.mk fun _ => ?_ | refine EvLoad.mk _ rfl _ rfl ?_ | refine EvDiv.mk (by omega) ?_))
    refine ⟨(i + 1, ao', cap'), ⟨⟨by dsimp only; omega, hcap'⟩, by dsimp only; omega⟩, ⟨rfl, rfl, trivial⟩, rfl, .cons (.there .here) (.cons (.there .here) .nil)⟩
  have e : i = m := by omega
  subst e
  have hlen : (cut300 (rs.take i)).length = i := by simp; omega
  have hlens : ∀ r ∈ cut300 (rs.take i), r.length ≤ 10000 := fun r hr => by
    obtain ⟨s, _, rfl⟩ := List.mem_map.1 hr
    simp; omega
  refine EvCall.mk _ _ _ (of_spec (cut300 (rs.take i)) ap i cp hlen hlens (by omega)) (.view .nil sees_all) ?_
  rintro _ _ ⟨hv, rfl⟩
  rcases hv with ⟨h0, rfl⟩ | ⟨h0, b, hb, hbr, rfl⟩
  · repeat ((conv => whnf); (first | refine EvNow.mk (by first | rfl | exact fun _ => rfl | exact (fun h => nomatch h) | exact ⟨rfl, by decide⟩ | omega | decide) ?_ | (first | refine EvNum.nat (fit_i64 (by omega) (by omega)) ?_ | refine EvNum.nat (fit_u8 (by omega) (by omega)) ?_ | refine EvNum.fit _ rfl (fit_i64 (by omega) (by omega)) ?_) | refine EvVal.ofN ?_ | refine EvNew.mk fun _ => ?_ | refine EvLoad.mk _ rfl _ rfl ?_ | refine EvDiv.mk (by omega) ?_))
    refine EvCall.mk _ _ _ (rroom_spec (cut300 (rs.take i)) ap i cp hlen hlens (by omega)) (.view .nil sees_all) ?_
    rintro _ _ ⟨rfl, rfl⟩
    repeat ((conv => whnf); (first | refine EvNow.mk (by first | rfl | exact fun _ => rfl | exact (fun h => nomatch h) | exact ⟨rfl, by decide⟩ | omega | decide) ?_ | (first | refine EvNum.nat (fit_i64 (by omega) (by omega)) ?_ | refine EvNum.nat (fit_u8 (by omega) (by omega)) ?_ | refine EvNum.fit _ rfl (fit_i64 (by omega) (by omega)) ?_) | refine EvVal.ofN ?_ | refine EvNew.mk fun _ => ?_ | refine EvLoad.mk _ rfl _ rfl ?_ | refine EvDiv.mk (by omega) ?_))
    refine EvIf.br (EvBr.dec _ _ rfl (fun h => ?_) (fun h => absurd h0 h))
    conv => whnf
    refine EvCut.direct ?_
    refine EvCall.mk [] _ _ awake_spec .nil ?_
    rintro _ _ ⟨rfl, rfl⟩
    repeat ((conv => whnf); (first | (first | refine EvNow.mk (by first | rfl | exact fun _ => rfl | exact (fun h => nomatch h) | exact ⟨rfl, by decide⟩ | omega | decide) ?_ | (first | refine EvNum.nat (fit_i64 (by omega) (by omega)) ?_ | refine EvNum.nat (fit_u8 (by omega) (by omega)) ?_ | refine EvNum.fit _ rfl (fit_i64 (by omega) (by omega)) ?_) | refine EvVal.ofN ?_ | refine EvNew.mk fun _ => ?_ | refine EvLoad.mk _ rfl _ rfl ?_ | refine EvDiv.mk (by omega) ?_) | (first | refine EvBr.t (by first | rfl | exact decide_eq_true rfl | exact decide_eq_true (by assumption)) ?_ | refine EvBr.f (by first | rfl | exact decide_eq_false (by assumption) | exact decide_eq_false (fun h => h rfl)) ?_ | refine EvIte.t (by first | rfl | exact decide_eq_true rfl | exact decide_eq_true (by assumption)) ?_ | refine EvIte.f (by first | rfl | exact decide_eq_false (by assumption) | exact decide_eq_false (fun h => h rfl)) ?_)))
    exact EvRet.mk [] .nil rfl ⟨by simp [oneOr], rfl⟩
  · repeat ((conv => whnf); (first | refine EvNow.mk (by first | rfl | exact fun _ => rfl | exact (fun h => nomatch h) | exact ⟨rfl, by decide⟩ | omega | decide) ?_ | (first | refine EvNum.nat (fit_i64 (by omega) (by omega)) ?_ | refine EvNum.nat (fit_u8 (by omega) (by omega)) ?_ | refine EvNum.fit _ rfl (fit_i64 (by omega) (by omega)) ?_) | refine EvVal.ofN ?_ | refine EvNew.mk fun _ => ?_ | refine EvLoad.mk _ rfl _ rfl ?_ | refine EvDiv.mk (by omega) ?_))
    refine EvCall.mk _ _ _ (rroom_spec (cut300 (rs.take i)) ap i cp hlen hlens (by omega)) (.view .nil sees_all) ?_
    rintro _ _ ⟨rfl, rfl⟩
    repeat ((conv => whnf); (first | refine EvNow.mk (by first | rfl | exact fun _ => rfl | exact (fun h => nomatch h) | exact ⟨rfl, by decide⟩ | omega | decide) ?_ | (first | refine EvNum.nat (fit_i64 (by omega) (by omega)) ?_ | refine EvNum.nat (fit_u8 (by omega) (by omega)) ?_ | refine EvNum.fit _ rfl (fit_i64 (by omega) (by omega)) ?_) | refine EvVal.ofN ?_ | refine EvNew.mk fun _ => ?_ | refine EvLoad.mk _ rfl _ rfl ?_ | refine EvDiv.mk (by omega) ?_))
    refine EvIf.br (EvBr.dec _ _ rfl (fun h => absurd h (by omega)) (fun h => ?_))
    conv => whnf
    refine EvCut.direct ?_
    refine EvCall.mk [] _ _ awake_spec .nil ?_
    rintro _ _ ⟨rfl, rfl⟩
    repeat ((conv => whnf); (first | (first | refine EvNow.mk (by first | rfl | exact fun _ => rfl | exact (fun h => nomatch h) | exact ⟨rfl, by decide⟩ | omega | decide) ?_ | (first | refine EvNum.nat (fit_i64 (by omega) (by omega)) ?_ | refine EvNum.nat (fit_u8 (by omega) (by omega)) ?_ | refine EvNum.fit _ rfl (fit_i64 (by omega) (by omega)) ?_) | refine EvVal.ofN ?_ | refine EvNew.mk fun _ => ?_ | refine EvLoad.mk _ rfl _ rfl ?_ | refine EvDiv.mk (by omega) ?_) | (first | refine EvBr.t (by first | rfl | exact decide_eq_true rfl | exact decide_eq_true (by assumption)) ?_ | refine EvBr.f (by first | rfl | exact decide_eq_false (by assumption) | exact decide_eq_false (fun h => h rfl)) ?_ | refine EvIte.t (by first | rfl | exact decide_eq_true rfl | exact decide_eq_true (by assumption)) ?_ | refine EvIte.f (by first | rfl | exact decide_eq_false (by assumption) | exact decide_eq_false (fun h => h rfl)) ?_)))
    refine EvCall.mk _ _ _ (by have := lsame_spec b (cut300 (rs.take i)) ap cp hb hbr; rw [hlen] at this; exact this) (.view .nil sees_all) ?_
    rintro _ _ ⟨rfl, rfl⟩
    repeat ((conv => whnf); (first | (first | refine EvNow.mk (by first | rfl | exact fun _ => rfl | exact (fun h => nomatch h) | exact ⟨rfl, by decide⟩ | omega | decide) ?_ | (first | refine EvNum.nat (fit_i64 (by omega) (by omega)) ?_ | refine EvNum.nat (fit_u8 (by omega) (by omega)) ?_ | refine EvNum.fit _ rfl (fit_i64 (by omega) (by omega)) ?_) | refine EvVal.ofN ?_ | refine EvNew.mk fun _ => ?_ | refine EvLoad.mk _ rfl _ rfl ?_ | refine EvDiv.mk (by omega) ?_) | (first | refine EvBr.t (by first | rfl | exact decide_eq_true rfl | exact decide_eq_true (by assumption)) ?_ | refine EvBr.f (by first | rfl | exact decide_eq_false (by assumption) | exact decide_eq_false (fun h => h rfl)) ?_ | refine EvIte.t (by first | rfl | exact decide_eq_true rfl | exact decide_eq_true (by assumption)) ?_ | refine EvIte.f (by first | rfl | exact decide_eq_false (by assumption) | exact decide_eq_false (fun h => h rfl)) ?_)))
    exact EvRet.mk [] .nil rfl ⟨by simp [oneOr], rfl⟩

theorem get_ok {l : List UInt8} (i : Int) (h : chk l = 0) : Spec Try.prog 21 [.string ⟨⟨l⟩⟩, .int .i64 i] []
    (fun v O => ∃ s g, (0 ≤ i ∧ i < (recs l).length → s = (recs l).getD i.toNat [] ∧ g = 0) ∧ v = .tuple #[.string ⟨⟨s⟩⟩, .int .i64 g] ∧ O = []) := by
  refine (get_spec l i (by have := (chk_zero h).1; omega)).mono ?_
  rintro v O ⟨rfl, rfl⟩
  rw [if_pos h]
  split
  · exact ⟨_, 0, fun _ => ⟨rfl, rfl⟩, rfl, rfl⟩
  · exact ⟨[], 3, fun h => absurd h (by assumption), rfl, rfl⟩
theorem del_ok {l : List UInt8} (i : Int) (h : chk l = 0) : Spec Try.prog 22 [.string ⟨⟨l⟩⟩, .int .i64 i] []
    (fun v O => ∃ s g, (0 ≤ i ∧ i < (recs l).length → chk s = 0 ∧ recs s = del (recs l) i.toNat) ∧ v = .tuple #[.string ⟨⟨s⟩⟩, .int .i64 g] ∧ O = []) := by
  refine (delete_spec l i (by have := (chk_zero h).1; omega)).mono ?_
  rintro v O ⟨rfl, rfl⟩
  rw [if_pos h]
  split
  · exact ⟨_, 0, fun h2 => delB_ok h (by omega), rfl, rfl⟩
  · exact ⟨[], 3, fun h => absurd h (by assumption), rfl, rfl⟩
theorem ins_ok {l r : List UInt8} (i : Int) (h : chk l = 0) (hr : r.length ≤ 9223372036854775807) : Spec Try.prog 13 [.string ⟨⟨l⟩⟩, .int .i64 i, .string ⟨⟨r⟩⟩] []
    (fun v O => ∃ s g, (g = 0 → 0 ≤ i ∧ i ≤ (recs l).length ∧ chk s = 0 ∧ recs s = ins (recs l) i.toNat r) ∧ v = .tuple #[.string ⟨⟨s⟩⟩, .int .i64 g] ∧ O = []) := by
  refine (insert_spec l i r (by have := (chk_zero h).1; omega) hr).mono ?_
  rintro v O ⟨rfl, rfl⟩
  rw [if_pos h]
  split
  · split
    · exact ⟨_, 0, fun _ => ⟨by omega, by omega, insB_ok h (by omega) (by assumption)⟩, rfl, rfl⟩
    · exact ⟨[], 11, fun h => absurd h (by decide), rfl, rfl⟩
  · exact ⟨[], 3, fun h => absurd h (by decide), rfl, rfl⟩

theorem slotsChecks_spec (b r : List UInt8) (i : Int) (hbl : b.length < 9223372036854775807) (hrl : r.length ≤ 9223372036854775807) :
    Spec Try.prog 5 [.string ⟨⟨b⟩⟩, .int .i64 i, .string ⟨⟨r⟩⟩] [] (fun v O => v = .bool true ∧ O = []) := by
  refine Spec.of_ev S_ok S_mixed Try.func5 rfl rfl ?_
  repeat ((conv => whnf); (first | refine EvNow.mk (by first | rfl | exact fun _ => rfl | exact (fun h => nomatch h) | exact ⟨rfl, by decide⟩ | omega | decide) ?_ | (first | refine EvNum.nat (fit_i64 (by omega) (by omega)) ?_ | refine EvNum.nat (fit_u8 (by omega) (by omega)) ?_ | refine EvNum.fit _ rfl (fit_i64 (by omega) (by omega)) ?_) | refine EvVal.ofN ?_ | refine EvNew.mk fun _ => ?_ | refine EvLoad.mk _ rfl _ rfl ?_ | refine EvDiv.mk (by omega) ?_))
  refine EvCut.cut (α := Unit) (fun _ => True) (fun _ => [(26, .bool (decide (b.length > 600 ∨ r.length > 400)))]) (fun _ => []) ?_ ?_
  · repeat' ((conv => whnf); (first | (first | refine EvNow.mk (by first | rfl | exact fun _ => rfl | exact (fun h => nomatch h) | exact ⟨rfl, by decide⟩ | omega | decide) ?_ | (first | refine EvNum.nat (fit_i64 (by omega) (by omega)) ?_ | refine EvNum.nat (fit_u8 (by omega) (by omega)) ?_ | refine EvNum.fit _ rfl (fit_i64 (by omega) (by omega)) ?_) | refine EvVal.ofN ?_ | refine EvNew.mk fun _ => ?_ | refine EvLoad.mk _ rfl _ rfl ?_ | refine EvDiv.mk (by omega) ?_) | (first | refine EvBr.t (by first | rfl | exact decide_eq_true rfl | exact decide_eq_true (by assumption)) ?_ | refine EvBr.f (by first | rfl | exact decide_eq_false (by assumption) | exact decide_eq_false (fun h => h rfl)) ?_ | refine EvIte.t (by first | rfl | exact decide_eq_true rfl | exact decide_eq_true (by assumption)) ?_ | refine EvIte.f (by first | rfl | exact decide_eq_false (by assumption) | exact decide_eq_false (fun h => h rfl)) ?_ | refine EvBr.dec _ _ rfl (fun _ => ?_) (fun _ => ?_))))
    · refine ⟨(), trivial, ⟨?_, trivial⟩, rfl, .nil⟩
      rw [show decide (b.length > 600 ∨ r.length > 400) = true from decide_eq_true (by omega)]
      rfl
    · refine ⟨(), trivial, ⟨?_, trivial⟩, rfl, .nil⟩
      simp only [getF, Option.some.injEq, Value.bool.injEq, decide_eq_decide]
      omega
  intro _ _
  conv => whnf
  refine EvIf.br (EvBr.dec _ _ rfl (fun h => ?_) (fun h => ?_))
  · refine EvCall.mk [] _ _ awake_spec .nil ?_
    rintro _ _ ⟨rfl, rfl⟩
    exact EvRet.mk [] .nil rfl ⟨by simp [oneOr], rfl⟩
  refine EvCall.mk [] _ _ (rchk_spec b hbl) .nil ?_
  rintro _ _ ⟨rfl, rfl⟩
  refine EvCall.mk [] _ _ (all_spec b hbl) .nil ?_
  rintro _ _ ⟨a1, c1, hc1, rfl, rfl⟩
  by_cases hb : chk b = 0
  · have hroom := recs_room hb
    refine EvCall.mk [] _ _ (get_ok i hb) .nil ?_
    rintro _ _ ⟨s, g, hs, rfl, rfl⟩
    refine EvCall.mk [] _ _ (ins_ok i hb hrl) .nil ?_
    rintro _ _ ⟨c, h2, hc, rfl, rfl⟩
    refine EvCall.mk [] _ _ (del_ok i hb) .nil ?_
    rintro _ _ ⟨d, k, hd, rfl, rfl⟩
    refine EvCall.mk [] _ _ (compact_spec b hbl) .nil ?_
    rintro _ _ ⟨rfl, rfl⟩
    rw [if_pos hb, hb]
    obtain ⟨q1, q2, q3, q4⟩ := compact_ok hroom
    repeat ((conv => whnf); (first | refine EvNow.mk (by first | rfl | exact fun _ => rfl | exact (fun h => nomatch h) | exact ⟨rfl, by decide⟩ | omega | decide) ?_ | (first | refine EvNum.nat (fit_i64 (by omega) (by omega)) ?_ | refine EvNum.nat (fit_u8 (by omega) (by omega)) ?_ | refine EvNum.fit _ rfl (fit_i64 (by omega) (by omega)) ?_) | refine EvVal.ofN ?_ | refine EvNew.mk fun _ => ?_ | refine EvLoad.mk _ rfl _ rfl ?_ | refine EvDiv.mk (by omega) ?_))
    refine EvCut.direct ?_
    refine EvCall.mk [] _ _ (chk_spec b hbl) .nil ?_
    rintro _ _ ⟨rfl, rfl⟩
    rw [hb]
    repeat ((conv => whnf); (first | (first | refine EvNow.mk (by first | rfl | exact fun _ => rfl | exact (fun h => nomatch h) | exact ⟨rfl, by decide⟩ | omega | decide) ?_ | (first | refine EvNum.nat (fit_i64 (by omega) (by omega)) ?_ | refine EvNum.nat (fit_u8 (by omega) (by omega)) ?_ | refine EvNum.fit _ rfl (fit_i64 (by omega) (by omega)) ?_) | refine EvVal.ofN ?_ | refine EvNew.mk fun _ => ?_ | refine EvLoad.mk _ rfl _ rfl ?_ | refine EvDiv.mk (by omega) ?_) | (first | refine EvBr.t (by first | rfl | exact decide_eq_true rfl | exact decide_eq_true (by assumption)) ?_ | refine EvBr.f (by first | rfl | exact decide_eq_false (by assumption) | exact decide_eq_false (fun h => h rfl)) ?_ | refine EvIte.t (by first | rfl | exact decide_eq_true rfl | exact decide_eq_true (by assumption)) ?_ | refine EvIte.f (by first | rfl | exact decide_eq_false (by assumption) | exact decide_eq_false (fun h => h rfl)) ?_)))
    refine EvCall.mk [] _ _ awake_spec .nil ?_
    rintro _ _ ⟨rfl, rfl⟩
    repeat ((conv => whnf); (first | (first | refine EvNow.mk (by first | rfl | exact fun _ => rfl | exact (fun h => nomatch h) | exact ⟨rfl, by decide⟩ | omega | decide) ?_ | (first | refine EvNum.nat (fit_i64 (by omega) (by omega)) ?_ | refine EvNum.nat (fit_u8 (by omega) (by omega)) ?_ | refine EvNum.fit _ rfl (fit_i64 (by omega) (by omega)) ?_) | refine EvVal.ofN ?_ | refine EvNew.mk fun _ => ?_ | refine EvLoad.mk _ rfl _ rfl ?_ | refine EvDiv.mk (by omega) ?_) | (first | refine EvBr.t (by first | rfl | exact decide_eq_true rfl | exact decide_eq_true (by assumption)) ?_ | refine EvBr.f (by first | rfl | exact decide_eq_false (by assumption) | exact decide_eq_false (fun h => h rfl)) ?_ | refine EvIte.t (by first | rfl | exact decide_eq_true rfl | exact decide_eq_true (by assumption)) ?_ | refine EvIte.f (by first | rfl | exact decide_eq_false (by assumption) | exact decide_eq_false (fun h => h rfl)) ?_)))
    refine EvIf.br (EvBr.f rfl ?_)
    repeat ((conv => whnf); (first | refine EvNow.mk (by first | rfl | exact fun _ => rfl | exact (fun h => nomatch h) | exact ⟨rfl, by decide⟩ | omega | decide) ?_ | (first | refine EvNum.nat (fit_i64 (by omega) (by omega)) ?_ | refine EvNum.nat (fit_u8 (by omega) (by omega)) ?_ | refine EvNum.fit _ rfl (fit_i64 (by omega) (by omega)) ?_) | refine EvVal.ofN ?_ | refine EvNew.mk fun _ => ?_ | refine EvLoad.mk _ rfl _ rfl ?_ | refine EvDiv.mk (by omega) ?_))
    refine EvIf.br (EvBr.f rfl ?_)
    refine EvCall.mk [] _ _ (rall_spec b hb) .nil ?_
    rintro _ _ ⟨a2, c2, hc2, rfl, rfl⟩
    conv => whnf
    refine EvCut.cut (α := Unit) (fun _ => True) (fun _ => [(144, .bool false)]) (fun _ => [.row a2 c2 9 1 (strV (recs b)), .row a1 c1 9 1 (strV (recs b))]) ?_ ?_
    · by_cases hi : 0 ≤ i ∧ i < (recs b).length
      · obtain ⟨j, rfl⟩ := Int.eq_ofNat_of_zero_le hi.1
        have hj : j < (recs b).length := by omega
        obtain ⟨hs1, hs2⟩ := hs hi
        obtain ⟨hd1, hd2⟩ := hd hi
        have g1 : (j : Int) ≥ 0 := by omega
        have g2 : (j : Int) < ((recs b).length : Int) := hi.2
        subst hs1; subst hs2
        repeat ((conv => whnf); (first | (first | refine EvNow.mk (by first | rfl | exact fun _ => rfl | exact (fun h => nomatch h) | exact ⟨rfl, by decide⟩ | omega | decide) ?_ | (first | refine EvNum.nat (fit_i64 (by omega) (by omega)) ?_ | refine EvNum.nat (fit_u8 (by omega) (by omega)) ?_ | refine EvNum.fit _ rfl (fit_i64 (by omega) (by omega)) ?_) | refine EvVal.ofN ?_ | refine EvNew.mk fun _ => ?_ | refine EvLoad.mk _ rfl _ rfl ?_ | refine EvDiv.mk (by omega) ?_) | (first | refine EvBr.t (by first | rfl | exact decide_eq_true rfl | exact decide_eq_true (by assumption)) ?_ | refine EvBr.f (by first | rfl | exact decide_eq_false (by assumption) | exact decide_eq_false (fun h => h rfl)) ?_ | refine EvIte.t (by first | rfl | exact decide_eq_true rfl | exact decide_eq_true (by assumption)) ?_ | refine EvIte.f (by first | rfl | exact decide_eq_false (by assumption) | exact decide_eq_false (fun h => h rfl)) ?_)))
        refine EvIdx.row j rfl hj (by simp; omega) ?_
        repeat ((conv => whnf); (first | (first | refine EvNow.mk (by first | rfl | exact fun _ => rfl | exact (fun h => nomatch h) | exact ⟨rfl, by decide⟩ | omega | decide) ?_ | (first | refine EvNum.nat (fit_i64 (by omega) (by omega)) ?_ | refine EvNum.nat (fit_u8 (by omega) (by omega)) ?_ | refine EvNum.fit _ rfl (fit_i64 (by omega) (by omega)) ?_) | refine EvVal.ofN ?_ | refine EvNew.mk fun _ => ?_ | refine EvLoad.mk _ rfl _ rfl ?_ | refine EvDiv.mk (by omega) ?_) | (first | refine EvBr.t (by first | rfl | exact decide_eq_true rfl | exact decide_eq_true (by assumption)) ?_ | refine EvBr.f (by first | rfl | exact decide_eq_false (by assumption) | exact decide_eq_false (fun h => h rfl)) ?_ | refine EvIte.t (by first | rfl | exact decide_eq_true rfl | exact decide_eq_true (by assumption)) ?_ | refine EvIte.f (by first | rfl | exact decide_eq_false (by assumption) | exact decide_eq_false (fun h => h rfl)) ?_)))
        refine EvLoad.mk (j * 1) rfl (.string ⟨⟨(recs b).getD j []⟩⟩) (by rw [Nat.mul_one]; exact strV_get hj) ?_
        repeat ((conv => whnf); (first | (first | refine EvNow.mk (by first | rfl | exact fun _ => rfl | exact (fun h => nomatch h) | exact ⟨rfl, by decide⟩ | omega | decide) ?_ | (first | refine EvNum.nat (fit_i64 (by omega) (by omega)) ?_ | refine EvNum.nat (fit_u8 (by omega) (by omega)) ?_ | refine EvNum.fit _ rfl (fit_i64 (by omega) (by omega)) ?_) | refine EvVal.ofN ?_ | refine EvNew.mk fun _ => ?_ | refine EvLoad.mk _ rfl _ rfl ?_ | refine EvDiv.mk (by omega) ?_) | (first | refine EvBr.t (by first | rfl | exact decide_eq_true rfl | exact decide_eq_true (by assumption)) ?_ | refine EvBr.f (by first | rfl | exact decide_eq_false (by assumption) | exact decide_eq_false (fun h => h rfl)) ?_ | refine EvIte.t (by first | rfl | exact decide_eq_true rfl | exact decide_eq_true (by assumption)) ?_ | refine EvIte.f (by first | rfl | exact decide_eq_false (by assumption) | exact decide_eq_false (fun h => h rfl)) ?_)))
        refine EvCall.mk _ _ _ (rtake_spec (recs b) a2 _ c2 j rfl hj hc2 (by omega)) (.view .nil sees_all) ?_
        rintro _ _ ⟨a3, c3, hc3, rfl, rfl⟩
        repeat ((conv => whnf); (first | (first | refine EvNow.mk (by first | rfl | exact fun _ => rfl | exact (fun h => nomatch h) | exact ⟨rfl, by decide⟩ | omega | decide) ?_ | (first | refine EvNum.nat (fit_i64 (by omega) (by omega)) ?_ | refine EvNum.nat (fit_u8 (by omega) (by omega)) ?_ | refine EvNum.fit _ rfl (fit_i64 (by omega) (by omega)) ?_) | refine EvVal.ofN ?_ | refine EvNew.mk fun _ => ?_ | refine EvLoad.mk _ rfl _ rfl ?_ | refine EvDiv.mk (by omega) ?_) | (first | refine EvBr.t (by first | rfl | exact decide_eq_true rfl | exact decide_eq_true (by assumption)) ?_ | refine EvBr.f (by first | rfl | exact decide_eq_false (by assumption) | exact decide_eq_false (fun h => h rfl)) ?_ | refine EvIte.t (by first | rfl | exact decide_eq_true rfl | exact decide_eq_true (by assumption)) ?_ | refine EvIte.f (by first | rfl | exact decide_eq_false (by assumption) | exact decide_eq_false (fun h => h rfl)) ?_)))
        have hdl : (del (recs b) j).length = (recs b).length - 1 := by simp [del]; omega
        refine EvCall.mk _ _ _ (by have := lsame_spec d (del (recs b) j) a3 c3 hd1 hd2; rw [hdl] at this; exact this) (.view .nil sees_all) ?_
        rintro _ _ ⟨rfl, rfl⟩
        repeat ((conv => whnf); (first | (first | refine EvNow.mk (by first | rfl | exact fun _ => rfl | exact (fun h => nomatch h) | exact ⟨rfl, by decide⟩ | omega | decide) ?_ | (first | refine EvNum.nat (fit_i64 (by omega) (by omega)) ?_ | refine EvNum.nat (fit_u8 (by omega) (by omega)) ?_ | refine EvNum.fit _ rfl (fit_i64 (by omega) (by omega)) ?_) | refine EvVal.ofN ?_ | refine EvNew.mk fun _ => ?_ | refine EvLoad.mk _ rfl _ rfl ?_ | refine EvDiv.mk (by omega) ?_) | (first | refine EvBr.t (by first | rfl | exact decide_eq_true rfl | exact decide_eq_true (by assumption)) ?_ | refine EvBr.f (by first | rfl | exact decide_eq_false (by assumption) | exact decide_eq_false (fun h => h rfl)) ?_ | refine EvIte.t (by first | rfl | exact decide_eq_true rfl | exact decide_eq_true (by assumption)) ?_ | refine EvIte.f (by first | rfl | exact decide_eq_false (by assumption) | exact decide_eq_false (fun h => h rfl)) ?_)))
        exact ⟨(), trivial, ⟨rfl, trivial⟩, rfl, .cons (.there .here) (.cons (.there .here) .nil)⟩
      · by_cases g1 : i ≥ 0
        · have g2 : ¬ i < ((recs b).length : Int) := fun h => hi ⟨g1, h⟩
          repeat ((conv => whnf); (first | (first | refine EvNow.mk (by first | rfl | exact fun _ => rfl | exact (fun h => nomatch h) | exact ⟨rfl, by decide⟩ | omega | decide) ?_ | (first | refine EvNum.nat (fit_i64 (by omega) (by omega)) ?_ | refine EvNum.nat (fit_u8 (by omega) (by omega)) ?_ | refine EvNum.fit _ rfl (fit_i64 (by omega) (by omega)) ?_) | refine EvVal.ofN ?_ | refine EvNew.mk fun _ => ?_ | refine EvLoad.mk _ rfl _ rfl ?_ | refine EvDiv.mk (by omega) ?_) | (first | refine EvBr.t (by first | rfl | exact decide_eq_true rfl | exact decide_eq_true (by assumption)) ?_ | refine EvBr.f (by first | rfl | exact decide_eq_false (by assumption) | exact decide_eq_false (fun h => h rfl)) ?_ | refine EvIte.t (by first | rfl | exact decide_eq_true rfl | exact decide_eq_true (by assumption)) ?_ | refine EvIte.f (by first | rfl | exact decide_eq_false (by assumption) | exact decide_eq_false (fun h => h rfl)) ?_)))
          exact ⟨(), trivial, ⟨rfl, trivial⟩, rfl, .cons .here (.cons .here .nil)⟩
        · repeat ((conv => whnf); (first | (first | refine EvNow.mk (by first | rfl | exact fun _ => rfl | exact (fun h => nomatch h) | exact ⟨rfl, by decide⟩ | omega | decide) ?_ | (first | refine EvNum.nat (fit_i64 (by omega) (by omega)) ?_ | refine EvNum.nat (fit_u8 (by omega) (by omega)) ?_ | refine EvNum.fit _ rfl (fit_i64 (by omega) (by omega)) ?_) | refine EvVal.ofN ?_ | refine EvNew.mk fun _ => ?_ | refine EvLoad.mk _ rfl _ rfl ?_ | refine EvDiv.mk (by omega) ?_) | (first | refine EvBr.t (by first | rfl | exact decide_eq_true rfl | exact decide_eq_true (by assumption)) ?_ | refine EvBr.f (by first | rfl | exact decide_eq_false (by assumption) | exact decide_eq_false (fun h => h rfl)) ?_ | refine EvIte.t (by first | rfl | exact decide_eq_true rfl | exact decide_eq_true (by assumption)) ?_ | refine EvIte.f (by first | rfl | exact decide_eq_false (by assumption) | exact decide_eq_false (fun h => h rfl)) ?_)))
          exact ⟨(), trivial, ⟨rfl, trivial⟩, rfl, .cons .here (.cons .here .nil)⟩
    intro _ _
    conv => whnf
    refine EvIf.br (EvBr.f rfl ?_)
    conv => whnf
    refine EvCut.cut (α := Unit) (fun _ => True) (fun _ => [(155, .bool false)]) (fun _ => [.row a2 c2 9 1 (strV (recs b)), .row a1 c1 9 1 (strV (recs b))]) ?_ ?_
    · by_cases hh : h2 = 0
      · obtain ⟨i1, i2, hc3, hc4⟩ := hc hh
        obtain ⟨j, rfl⟩ := Int.eq_ofNat_of_zero_le i1
        repeat ((conv => whnf); (first | (first | refine EvNow.mk (by first | rfl | exact fun _ => rfl | exact (fun h => nomatch h) | exact ⟨rfl, by decide⟩ | omega | decide) ?_ | (first | refine EvNum.nat (fit_i64 (by omega) (by omega)) ?_ | refine EvNum.nat (fit_u8 (by omega) (by omega)) ?_ | refine EvNum.fit _ rfl (fit_i64 (by omega) (by omega)) ?_) | refine EvVal.ofN ?_ | refine EvNew.mk fun _ => ?_ | refine EvLoad.mk _ rfl _ rfl ?_ | refine EvDiv.mk (by omega) ?_) | (first | refine EvBr.t (by first | rfl | exact decide_eq_true rfl | exact decide_eq_true (by assumption)) ?_ | refine EvBr.f (by first | rfl | exact decide_eq_false (by assumption) | exact decide_eq_false (fun h => h rfl)) ?_ | refine EvIte.t (by first | rfl | exact decide_eq_true rfl | exact decide_eq_true (by assumption)) ?_ | refine EvIte.f (by first | rfl | exact decide_eq_false (by assumption) | exact decide_eq_false (fun h => h rfl)) ?_)))
        refine EvCall.mk _ _ _ (rput_spec (recs b) r a2 _ c2 j rfl (by omega) hc2 (by omega)) (.view .nil sees_all) ?_
        rintro _ _ ⟨a3, c3, hcc, rfl, rfl⟩
        repeat ((conv => whnf); (first | (first | refine EvNow.mk (by first | rfl | exact fun _ => rfl | exact (fun h => nomatch h) | exact ⟨rfl, by decide⟩ | omega | decide) ?_ | (first | refine EvNum.nat (fit_i64 (by omega) (by omega)) ?_ | refine EvNum.nat (fit_u8 (by omega) (by omega)) ?_ | refine EvNum.fit _ rfl (fit_i64 (by omega) (by omega)) ?_) | refine EvVal.ofN ?_ | refine EvNew.mk fun _ => ?_ | refine EvLoad.mk _ rfl _ rfl ?_ | refine EvDiv.mk (by omega) ?_) | (first | refine EvBr.t (by first | rfl | exact decide_eq_true rfl | exact decide_eq_true (by assumption)) ?_ | refine EvBr.f (by first | rfl | exact decide_eq_false (by assumption) | exact decide_eq_false (fun h => h rfl)) ?_ | refine EvIte.t (by first | rfl | exact decide_eq_true rfl | exact decide_eq_true (by assumption)) ?_ | refine EvIte.f (by first | rfl | exact decide_eq_false (by assumption) | exact decide_eq_false (fun h => h rfl)) ?_)))
        have hil : (ins (recs b) j r).length = (recs b).length + 1 := by simp [ins]; omega
        refine EvCall.mk _ _ _ (by have := lsame_spec c (ins (recs b) j r) a3 c3 hc3 hc4; rw [hil] at this; exact this) (.view .nil sees_all) ?_
        rintro _ _ ⟨rfl, rfl⟩
        repeat ((conv => whnf); (first | (first | refine EvNow.mk (by first | rfl | exact fun _ => rfl | exact (fun h => nomatch h) | exact ⟨rfl, by decide⟩ | omega | decide) ?_ | (first | refine EvNum.nat (fit_i64 (by omega) (by omega)) ?_ | refine EvNum.nat (fit_u8 (by omega) (by omega)) ?_ | refine EvNum.fit _ rfl (fit_i64 (by omega) (by omega)) ?_) | refine EvVal.ofN ?_ | refine EvNew.mk fun _ => ?_ | refine EvLoad.mk _ rfl _ rfl ?_ | refine EvDiv.mk (by omega) ?_) | (first | refine EvBr.t (by first | rfl | exact decide_eq_true rfl | exact decide_eq_true (by assumption)) ?_ | refine EvBr.f (by first | rfl | exact decide_eq_false (by assumption) | exact decide_eq_false (fun h => h rfl)) ?_ | refine EvIte.t (by first | rfl | exact decide_eq_true rfl | exact decide_eq_true (by assumption)) ?_ | refine EvIte.f (by first | rfl | exact decide_eq_false (by assumption) | exact decide_eq_false (fun h => h rfl)) ?_)))
        exact ⟨(), trivial, ⟨rfl, trivial⟩, rfl, .cons (.there .here) (.cons (.there .here) .nil)⟩
      · repeat ((conv => whnf); (first | (first | refine EvNow.mk (by first | rfl | exact fun _ => rfl | exact (fun h => nomatch h) | exact ⟨rfl, by decide⟩ | omega | decide) ?_ | (first | refine EvNum.nat (fit_i64 (by omega) (by omega)) ?_ | refine EvNum.nat (fit_u8 (by omega) (by omega)) ?_ | refine EvNum.fit _ rfl (fit_i64 (by omega) (by omega)) ?_) | refine EvVal.ofN ?_ | refine EvNew.mk fun _ => ?_ | refine EvLoad.mk _ rfl _ rfl ?_ | refine EvDiv.mk (by omega) ?_) | (first | refine EvBr.t (by first | rfl | exact decide_eq_true rfl | exact decide_eq_true (by assumption)) ?_ | refine EvBr.f (by first | rfl | exact decide_eq_false (by assumption) | exact decide_eq_false (fun h => h rfl)) ?_ | refine EvIte.t (by first | rfl | exact decide_eq_true rfl | exact decide_eq_true (by assumption)) ?_ | refine EvIte.f (by first | rfl | exact decide_eq_false (by assumption) | exact decide_eq_false (fun h => h rfl)) ?_)))
        exact ⟨(), trivial, ⟨rfl, trivial⟩, rfl, .cons .here (.cons .here .nil)⟩
    intro _ _
    conv => whnf
    refine EvIf.br (EvBr.f rfl ?_)
    conv => whnf
    refine EvCut.direct ?_
    refine EvCall.mk _ _ _ (same_spec (recs b) (recs b) a1 a2 _ _ _ _ rfl rfl (by omega) (by omega)) (.view (.view .nil sees_all) sees_all) ?_
    rintro _ _ ⟨rfl, rfl⟩
    repeat ((conv => whnf); (first | (first | refine EvNow.mk (by first | rfl | exact fun _ => rfl | exact (fun h => nomatch h) | exact ⟨rfl, by decide⟩ | omega | decide) ?_ | (first | refine EvNum.nat (fit_i64 (by omega) (by omega)) ?_ | refine EvNum.nat (fit_u8 (by omega) (by omega)) ?_ | refine EvNum.fit _ rfl (fit_i64 (by omega) (by omega)) ?_) | refine EvVal.ofN ?_ | refine EvNew.mk fun _ => ?_ | refine EvLoad.mk _ rfl _ rfl ?_ | refine EvDiv.mk (by omega) ?_) | (first | refine EvBr.t (by first | rfl | exact decide_eq_true rfl | exact decide_eq_true (by assumption)) ?_ | refine EvBr.f (by first | rfl | exact decide_eq_false (by assumption) | exact decide_eq_false (fun h => h rfl)) ?_ | refine EvIte.t (by first | rfl | exact decide_eq_true rfl | exact decide_eq_true (by assumption)) ?_ | refine EvIte.f (by first | rfl | exact decide_eq_false (by assumption) | exact decide_eq_false (fun h => h rfl)) ?_)))
    refine EvCall.mk _ _ _ (lsame_spec (compact (recs b)) (recs b) a2 c2 q1 q2) (.view .nil sees_all) ?_
    rintro _ _ ⟨rfl, rfl⟩
    repeat ((conv => whnf); (first | (first | refine EvNow.mk (by first | rfl | exact fun _ => rfl | exact (fun h => nomatch h) | exact ⟨rfl, by decide⟩ | omega | decide) ?_ | (first | refine EvNum.nat (fit_i64 (by omega) (by omega)) ?_ | refine EvNum.nat (fit_u8 (by omega) (by omega)) ?_ | refine EvNum.fit _ rfl (fit_i64 (by omega) (by omega)) ?_) | refine EvVal.ofN ?_ | refine EvNew.mk fun _ => ?_ | refine EvLoad.mk _ rfl _ rfl ?_ | refine EvDiv.mk (by omega) ?_) | (first | refine EvBr.t (by first | rfl | exact decide_eq_true rfl | exact decide_eq_true (by assumption)) ?_ | refine EvBr.f (by first | rfl | exact decide_eq_false (by assumption) | exact decide_eq_false (fun h => h rfl)) ?_ | refine EvIte.t (by first | rfl | exact decide_eq_true rfl | exact decide_eq_true (by assumption)) ?_ | refine EvIte.f (by first | rfl | exact decide_eq_false (by assumption) | exact decide_eq_false (fun h => h rfl)) ?_)))
    exact EvRet.mk [] .nil rfl ⟨by simp [oneOr], rfl⟩
  · refine EvCall.mk [] _ _ (get_spec b i hbl) .nil ?_
    rintro _ _ ⟨rfl, rfl⟩
    rw [if_neg hb]
    refine EvCall.mk [] _ _ (insert_spec b i r hbl hrl) .nil ?_
    rintro _ _ ⟨rfl, rfl⟩
    rw [if_neg hb]
    refine EvCall.mk [] _ _ (delete_spec b i hbl) .nil ?_
    rintro _ _ ⟨rfl, rfl⟩
    rw [if_neg hb]
    refine EvCall.mk [] _ _ (compact_spec b hbl) .nil ?_
    rintro _ _ ⟨rfl, rfl⟩
    rw [if_neg hb]
    have hr : recs b = [] := by simp [recs, hb]
    have hrm : room b = 0 := by simp [room, hb]
    rw [hr]
    repeat ((conv => whnf); (first | refine EvNow.mk (by first | rfl | exact fun _ => rfl | exact (fun h => nomatch h) | exact ⟨rfl, by decide⟩ | omega | decide) ?_ | (first | refine EvNum.nat (fit_i64 (by omega) (by omega)) ?_ | refine EvNum.nat (fit_u8 (by omega) (by omega)) ?_ | refine EvNum.fit _ rfl (fit_i64 (by omega) (by omega)) ?_) | refine EvVal.ofN ?_ | refine EvNew.mk fun _ => ?_ | refine EvLoad.mk _ rfl _ rfl ?_ | refine EvDiv.mk (by omega) ?_))
    refine EvCut.direct ?_
    refine EvCall.mk [] _ _ (chk_spec b hbl) .nil ?_
    rintro _ _ ⟨rfl, rfl⟩
    repeat ((conv => whnf); (first | (first | refine EvNow.mk (by first | rfl | exact fun _ => rfl | exact (fun h => nomatch h) | exact ⟨rfl, by decide⟩ | omega | decide) ?_ | (first | refine EvNum.nat (fit_i64 (by omega) (by omega)) ?_ | refine EvNum.nat (fit_u8 (by omega) (by omega)) ?_ | refine EvNum.fit _ rfl (fit_i64 (by omega) (by omega)) ?_) | refine EvVal.ofN ?_ | refine EvNew.mk fun _ => ?_ | refine EvLoad.mk _ rfl _ rfl ?_ | refine EvDiv.mk (by omega) ?_) | (first | refine EvBr.t (by first | rfl | exact decide_eq_true rfl | exact decide_eq_true (by assumption)) ?_ | refine EvBr.f (by first | rfl | exact decide_eq_false (by assumption) | exact decide_eq_false (fun h => h rfl)) ?_ | refine EvIte.t (by first | rfl | exact decide_eq_true rfl | exact decide_eq_true (by assumption)) ?_ | refine EvIte.f (by first | rfl | exact decide_eq_false (by assumption) | exact decide_eq_false (fun h => h rfl)) ?_)))
    refine EvCall.mk [] _ _ awake_spec .nil ?_
    rintro _ _ ⟨rfl, rfl⟩
    repeat ((conv => whnf); (first | (first | refine EvNow.mk (by first | rfl | exact fun _ => rfl | exact (fun h => nomatch h) | exact ⟨rfl, by decide⟩ | omega | decide) ?_ | (first | refine EvNum.nat (fit_i64 (by omega) (by omega)) ?_ | refine EvNum.nat (fit_u8 (by omega) (by omega)) ?_ | refine EvNum.fit _ rfl (fit_i64 (by omega) (by omega)) ?_) | refine EvVal.ofN ?_ | refine EvNew.mk fun _ => ?_ | refine EvLoad.mk _ rfl _ rfl ?_ | refine EvDiv.mk (by omega) ?_) | (first | refine EvBr.t (by first | rfl | exact decide_eq_true rfl | exact decide_eq_true (by assumption)) ?_ | refine EvBr.f (by first | rfl | exact decide_eq_false (by assumption) | exact decide_eq_false (fun h => h rfl)) ?_ | refine EvIte.t (by first | rfl | exact decide_eq_true rfl | exact decide_eq_true (by assumption)) ?_ | refine EvIte.f (by first | rfl | exact decide_eq_false (by assumption) | exact decide_eq_false (fun h => h rfl)) ?_)))
    refine EvIf.br (EvBr.f rfl ?_)
    repeat ((conv => whnf); (first | refine EvNow.mk (by first | rfl | exact fun _ => rfl | exact (fun h => nomatch h) | exact ⟨rfl, by decide⟩ | omega | decide) ?_ | (first | refine EvNum.nat (fit_i64 (by omega) (by omega)) ?_ | refine EvNum.nat (fit_u8 (by omega) (by omega)) ?_ | refine EvNum.fit _ rfl (fit_i64 (by omega) (by omega)) ?_) | refine EvVal.ofN ?_ | refine EvNew.mk fun _ => ?_ | refine EvLoad.mk _ rfl _ rfl ?_ | refine EvDiv.mk (by omega) ?_))
    refine EvIf.br (EvBr.dec _ _ rfl (fun _ => ?_) (fun h => absurd hb h))
    conv => whnf
    refine EvCut.direct ?_
    repeat ((conv => whnf); (first | (first | refine EvNow.mk (by first | rfl | exact fun _ => rfl | exact (fun h => nomatch h) | exact ⟨rfl, by decide⟩ | omega | decide) ?_ | (first | refine EvNum.nat (fit_i64 (by omega) (by omega)) ?_ | refine EvNum.nat (fit_u8 (by omega) (by omega)) ?_ | refine EvNum.fit _ rfl (fit_i64 (by omega) (by omega)) ?_) | refine EvVal.ofN ?_ | refine EvNew.mk fun _ => ?_ | refine EvLoad.mk _ rfl _ rfl ?_ | refine EvDiv.mk (by omega) ?_) | (first | refine EvBr.t (by first | rfl | exact decide_eq_true rfl | exact decide_eq_true (by assumption)) ?_ | refine EvBr.f (by first | rfl | exact decide_eq_false (by assumption) | exact decide_eq_false (fun h => h rfl)) ?_ | refine EvIte.t (by first | rfl | exact decide_eq_true rfl | exact decide_eq_true (by assumption)) ?_ | refine EvIte.f (by first | rfl | exact decide_eq_false (by assumption) | exact decide_eq_false (fun h => h rfl)) ?_)))
    refine EvCall.mk [] _ _ (len_spec b hbl) .nil ?_
    rintro _ _ ⟨rfl, rfl⟩
    rw [hr, List.length_nil]
    repeat ((conv => whnf); (first | (first | refine EvNow.mk (by first | rfl | exact fun _ => rfl | exact (fun h => nomatch h) | exact ⟨rfl, by decide⟩ | omega | decide) ?_ | (first | refine EvNum.nat (fit_i64 (by omega) (by omega)) ?_ | refine EvNum.nat (fit_u8 (by omega) (by omega)) ?_ | refine EvNum.fit _ rfl (fit_i64 (by omega) (by omega)) ?_) | refine EvVal.ofN ?_ | refine EvNew.mk fun _ => ?_ | refine EvLoad.mk _ rfl _ rfl ?_ | refine EvDiv.mk (by omega) ?_) | (first | refine EvBr.t (by first | rfl | exact decide_eq_true rfl | exact decide_eq_true (by assumption)) ?_ | refine EvBr.f (by first | rfl | exact decide_eq_false (by assumption) | exact decide_eq_false (fun h => h rfl)) ?_ | refine EvIte.t (by first | rfl | exact decide_eq_true rfl | exact decide_eq_true (by assumption)) ?_ | refine EvIte.f (by first | rfl | exact decide_eq_false (by assumption) | exact decide_eq_false (fun h => h rfl)) ?_)))
    refine EvCall.mk [] _ _ (room_spec b hbl) .nil ?_
    rintro _ _ ⟨rfl, rfl⟩
    rw [hrm]
    repeat ((conv => whnf); (first | (first | refine EvNow.mk (by first | rfl | exact fun _ => rfl | exact (fun h => nomatch h) | exact ⟨rfl, by decide⟩ | omega | decide) ?_ | (first | refine EvNum.nat (fit_i64 (by omega) (by omega)) ?_ | refine EvNum.nat (fit_u8 (by omega) (by omega)) ?_ | refine EvNum.fit _ rfl (fit_i64 (by omega) (by omega)) ?_) | refine EvVal.ofN ?_ | refine EvNew.mk fun _ => ?_ | refine EvLoad.mk _ rfl _ rfl ?_ | refine EvDiv.mk (by omega) ?_) | (first | refine EvBr.t (by first | rfl | exact decide_eq_true rfl | exact decide_eq_true (by assumption)) ?_ | refine EvBr.f (by first | rfl | exact decide_eq_false (by assumption) | exact decide_eq_false (fun h => h rfl)) ?_ | refine EvIte.t (by first | rfl | exact decide_eq_true rfl | exact decide_eq_true (by assumption)) ?_ | refine EvIte.f (by first | rfl | exact decide_eq_false (by assumption) | exact decide_eq_false (fun h => h rfl)) ?_)))
    exact EvRet.mk [] .nil rfl ⟨by simp [oneOr], rfl⟩

end Go.Proofs.Ytloknkdomgeolaa.She
