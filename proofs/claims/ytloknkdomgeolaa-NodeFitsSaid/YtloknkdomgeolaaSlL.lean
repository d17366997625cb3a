/- The laws SlotsList and SlotsCompact, walked. -/
import Derived.Test.YtloknkdomgeolaaSlJ
namespace Go.Proofs.Ytloknkdomgeolaa.She
set_option linter.all false
open Go
set_option pp.maxSteps 600
set_option maxRecDepth 10000
set_option maxHeartbeats 4000000

def actV : List (Int × Int × List UInt8) → List Value
  | [] => []
  | (k, i, r) :: l => .int .i64 k :: .int .i64 i :: .string ⟨⟨r⟩⟩ :: actV l
theorem actV_length : ∀ l, (actV l).length = l.length * 3
  | [] => rfl
  | (_, _, _) :: l => by simp only [actV, List.length_cons, actV_length l]; omega
theorem actV_drop : ∀ (l : List (Int × Int × List UInt8)) (n : Nat), (actV l).drop (n * 3) = actV (l.drop n)
  | l, 0 => by simp
  | [], n + 1 => by simp [actV]
  | (_, _, _) :: l, n + 1 => by rw [Nat.succ_mul]; simp [actV, actV_drop l n]
theorem actV_get {l : List (Int × Int × List UInt8)} {i : Nat} {x : Int × Int × List UInt8} (h : l[i]? = some x) : ((actV l).drop (i * 3)).take 3 = [.int .i64 x.1, .int .i64 x.2.1, .string ⟨⟨x.2.2⟩⟩] := by
  rw [actV_drop, List.drop_eq_getElem?_toList_append, h]
  rfl
theorem actV_get2 {l : List (Int × Int × List UInt8)} {i : Nat} {x : Int × Int × List UInt8} (h : l[i]? = some x) : (actV l)[i * 3 + 2]? = some (.string ⟨⟨x.2.2⟩⟩) := by
  have := actV_get h
  have h2 : (((actV l).drop (i * 3)).take 3)[2]? = some (.string ⟨⟨x.2.2⟩⟩) := by rw [this]; rfl
  rw [List.getElem?_take_of_lt (by omega), List.getElem?_drop] at h2
  exact h2

theorem slotsList_spec (l : List (Int × Int × List UInt8)) (ao : Option Addr) (n c : Nat) (hn : l.length = n) (hn2 : n ≤ 9223372036854775807) (hl : ∀ x ∈ l, x.2.2.length ≤ 9223372036854775807) :
    Spec Try.prog 4 [.slice ao n c] [.view ao 33 (actV l)] (fun v O => v = .bool true ∧ O = []) := by
  refine Spec.of_ev S_ok S_mixed Try.func4 rfl rfl ?_
  refine EvCall.mk [] _ _ empty_spec .nil ?_
  rintro _ _ ⟨rfl, rfl⟩
  repeat ((conv => whnf); (first | refine nowA ?_ | refine numN ?_ | refine numI ?_ | refine EvVal.ofN ?_ | refine EvNew.mk fun _ => ?_ | refine EvLoad.mk _ rfl _ rfl ?_ | refine divA ?_))
  rename_i b0
  refine EvCut.direct ?_
  refine EvCall.mk [] _ _ awake_spec .nil ?_
  rintro _ _ ⟨rfl, rfl⟩
  repeat ((conv => whnf); (first | (first | refine nowA ?_ | refine numN ?_ | refine numI ?_ | refine EvVal.ofN ?_ | refine EvNew.mk fun _ => ?_ | refine EvLoad.mk _ rfl _ rfl ?_ | refine divA ?_) | (first | refine brT ?_ | refine brF ?_ | refine iteT ?_ | refine iteF ?_)))
  refine EvCall.mk _ _ _ (lsame_spec emptyB [] none 0 emptyB_ok.1 emptyB_ok.2) (.view .nil sees_nil) ?_
  rintro _ _ ⟨rfl, rfl⟩
  repeat ((conv => whnf); (first | (first | refine nowA ?_ | refine numN ?_ | refine numI ?_ | refine EvVal.ofN ?_ | refine EvNew.mk fun _ => ?_ | refine EvLoad.mk _ rfl _ rfl ?_ | refine divA ?_) | (first | refine brT ?_ | refine brF ?_ | refine iteT ?_ | refine iteF ?_)))
  refine EvIf.br (EvBr.f rfl ?_)
  conv => whnf
  refine EvLoop.mk (α := Nat × List UInt8 × List (List UInt8) × Option Addr × Nat × Nat) (fun x => x.1 ≤ n ∧ chk x.2.1 = 0 ∧ recs x.2.1 = x.2.2.1 ∧ x.2.2.1.length ≤ x.2.2.2.2.1) (fun x => n - x.1)
    (fun x => [(5, .int .i64 x.1), (3, .string ⟨⟨x.2.1⟩⟩), (4, .slice x.2.2.2.1 x.2.2.1.length x.2.2.2.2.1)]) (fun x => [.row x.2.2.2.1 x.2.2.2.2.2 9 1 (strV x.2.2.1), .view ao 33 (actV l)]) ?_ ?_
  · exact ⟨(0, emptyB, [], some ⟨b0, 0, none⟩, 0, 0), ⟨by dsimp only; omega, emptyB_ok.1, emptyB_ok.2, by simp⟩, ⟨rfl, rfl, rfl, trivial⟩, rfl, .cons .here (.cons .here .nil)⟩
  rintro ⟨i, b, rs, ar, cr, kr⟩ ⟨hi, hb, hr, hc⟩
  dsimp only at hi hb hr hc ⊢
  conv => whnf
  refine EvCut.cut (α := Unit) (fun _ => True) (fun _ => [(23, .bool (decide (i < n ∧ i < 60)))]) (fun _ => [.row ar kr 9 1 (strV rs), .view ao 33 (actV l)]) ?_ ?_
  · repeat' ((conv => whnf); (first | (first | refine nowA ?_ | refine numN ?_ | refine numI ?_ | refine EvVal.ofN ?_ | refine EvNew.mk fun _ => ?_ | refine EvLoad.mk _ rfl _ rfl ?_ | refine divA ?_) | (first | refine brT ?_ | refine brF ?_ | refine iteT ?_ | refine iteF ?_ | refine brD (fun _ => ?_) (fun _ => ?_))))
    · refine ⟨(), trivial, ⟨?_, trivial⟩, rfl, .cons .here (.cons .here .nil)⟩
      simp only [getF, Option.some.injEq, Value.bool.injEq, decide_eq_decide]
      omega
    · refine ⟨(), trivial, ⟨?_, trivial⟩, rfl, .cons .here (.cons .here .nil)⟩
      rw [show decide (i < n ∧ i < 60) = false from decide_eq_false (by omega)]
      rfl
  intro _ _
  conv => whnf
  refine EvIf.br (EvBr.dec _ _ rfl (fun h => ?_) (fun h => ?_))
  · have hxi : l[i]? = some l[i] := by simp [hn, h.1]
    have hrl := hl l[i] (List.getElem_mem _)
    refine EvIdx.sl i rfl h.1 (by rw [actV_length]; omega) ?_
    refine EvLoad.mk (i * 3 + 2) (by simp only [addO]; omega) (.string ⟨⟨l[i].2.2⟩⟩) (actV_get2 hxi) ?_
    repeat ((conv => whnf); (first | refine nowA ?_ | refine numN ?_ | refine numI ?_ | refine EvVal.ofN ?_ | refine EvNew.mk fun _ => ?_ | refine EvLoad.mk _ rfl _ rfl ?_ | refine divA ?_))
    refine EvIf.br (EvBr.dec _ _ rfl (fun h4 => ?_) (fun h4 => ?_))
    · repeat ((conv => whnf); (first | refine nowA ?_ | refine numN ?_ | refine numI ?_ | refine EvVal.ofN ?_ | refine EvNew.mk fun _ => ?_ | refine EvLoad.mk _ rfl _ rfl ?_ | refine divA ?_))
      exact ⟨(i + 1, b, rs, ar, cr, kr), ⟨⟨by dsimp only; omega, hb, hr, hc⟩, by dsimp only; omega⟩, ⟨rfl, rfl, rfl, trivial⟩, rfl, .cons .here (.cons .here .nil)⟩
    repeat ((conv => whnf); (first | refine nowA ?_ | refine numN ?_ | refine numI ?_ | refine EvVal.ofN ?_ | refine EvNew.mk fun _ => ?_ | refine EvLoad.mk _ rfl _ rfl ?_ | refine divA ?_))
    refine EvIdx.sl i rfl h.1 (by rw [actV_length]; omega) ?_
    refine EvLoadN.mk (i * 3) rfl _ rfl (actV_get hxi) ?_
    refine EvCall.mk _ _ _ (do_spec b l[i].2.2 rs l[i].1 l[i].2.1 ar cr kr hb hr hc hrl) (.own .here rfl .nil) ?_
    rintro _ _ ⟨b2, rs2, a2, c2, k2, o1, o2, o3, rfl, rfl⟩
    repeat ((conv => whnf); (first | refine nowA ?_ | refine numN ?_ | refine numI ?_ | refine EvVal.ofN ?_ | refine EvNew.mk fun _ => ?_ | refine EvLoad.mk _ rfl _ rfl ?_ | refine divA ?_))
    refine EvCut.direct ?_
    repeat ((conv => whnf); (first | (first | refine nowA ?_ | refine numN ?_ | refine numI ?_ | refine EvVal.ofN ?_ | refine EvNew.mk fun _ => ?_ | refine EvLoad.mk _ rfl _ rfl ?_ | refine divA ?_) | (first | refine brT ?_ | refine brF ?_ | refine iteT ?_ | refine iteF ?_)))
    refine EvCall.mk _ _ _ (lsame_spec b2 rs2 a2 c2 o1 o2) (.view .nil sees_all) ?_
    rintro _ _ ⟨rfl, rfl⟩
    repeat ((conv => whnf); (first | (first | refine nowA ?_ | refine numN ?_ | refine numI ?_ | refine EvVal.ofN ?_ | refine EvNew.mk fun _ => ?_ | refine EvLoad.mk _ rfl _ rfl ?_ | refine divA ?_) | (first | refine brT ?_ | refine brF ?_ | refine iteT ?_ | refine iteF ?_)))
    refine EvIf.br (EvBr.f rfl ?_)
    repeat ((conv => whnf); (first | refine nowA ?_ | refine numN ?_ | refine numI ?_ | refine EvVal.ofN ?_ | refine EvNew.mk fun _ => ?_ | refine EvLoad.mk _ rfl _ rfl ?_ | refine divA ?_))
    exact ⟨(i + 1, b2, rs2, a2, c2, k2), ⟨⟨by dsimp only; omega, o1, o2, o3⟩, by dsimp only; omega⟩, ⟨rfl, rfl, rfl, trivial⟩, rfl, .cons .here (.cons .here .nil)⟩
  refine EvRet.mk [] .nil rfl ⟨rfl, rfl⟩

theorem slotsCompact_spec (l : List (Int × Int × List UInt8)) (ao : Option Addr) (n c : Nat) (hn : l.length = n) (hn2 : n ≤ 9223372036854775807) (hl : ∀ x ∈ l, x.2.2.length ≤ 9223372036854775807) :
    Spec Try.prog 6 [.slice ao n c] [.view ao 33 (actV l)] (fun v O => v = .bool true ∧ O = []) := by
  refine Spec.of_ev S_ok S_mixed Try.func6 rfl rfl ?_
  refine EvCall.mk [] _ _ empty_spec .nil ?_
  rintro _ _ ⟨rfl, rfl⟩
  repeat ((conv => whnf); (first | refine nowA ?_ | refine numN ?_ | refine numI ?_ | refine EvVal.ofN ?_ | refine EvNew.mk fun _ => ?_ | refine EvLoad.mk _ rfl _ rfl ?_ | refine divA ?_))
  rename_i b0
  refine EvLoop.mk (α := Nat × List UInt8 × List (List UInt8) × Option Addr × Nat × Nat) (fun x => x.1 ≤ n ∧ chk x.2.1 = 0 ∧ recs x.2.1 = x.2.2.1 ∧ x.2.2.1.length ≤ x.2.2.2.2.1) (fun x => n - x.1)
    (fun x => [(5, .int .i64 x.1), (3, .string ⟨⟨x.2.1⟩⟩), (4, .slice x.2.2.2.1 x.2.2.1.length x.2.2.2.2.1)]) (fun x => [.row x.2.2.2.1 x.2.2.2.2.2 9 1 (strV x.2.2.1), .view ao 33 (actV l)]) ?_ ?_
  · exact ⟨(0, emptyB, [], some ⟨b0, 0, none⟩, 0, 0), ⟨by dsimp only; omega, emptyB_ok.1, emptyB_ok.2, by simp⟩, ⟨rfl, rfl, rfl, trivial⟩, rfl, .cons .here (.cons .here .nil)⟩
  rintro ⟨i, b, rs, ar, cr, kr⟩ ⟨hi, hb, hr, hc⟩
  dsimp only at hi hb hr hc ⊢
  conv => whnf
  refine EvCut.cut (α := Unit) (fun _ => True) (fun _ => [(21, .bool (decide (i < n ∧ i < 60)))]) (fun _ => [.row ar kr 9 1 (strV rs), .view ao 33 (actV l)]) ?_ ?_
  · repeat' ((conv => whnf); (first | (first | refine nowA ?_ | refine numN ?_ | refine numI ?_ | refine EvVal.ofN ?_ | refine EvNew.mk fun _ => ?_ | refine EvLoad.mk _ rfl _ rfl ?_ | refine divA ?_) | (first | refine brT ?_ | refine brF ?_ | refine iteT ?_ | refine iteF ?_ | refine brD (fun _ => ?_) (fun _ => ?_))))
    · refine ⟨(), trivial, ⟨?_, trivial⟩, rfl, .cons .here (.cons .here .nil)⟩
      simp only [getF, Option.some.injEq, Value.bool.injEq, decide_eq_decide]
      omega
    · refine ⟨(), trivial, ⟨?_, trivial⟩, rfl, .cons .here (.cons .here .nil)⟩
      rw [show decide (i < n ∧ i < 60) = false from decide_eq_false (by omega)]
      rfl
  intro _ _
  conv => whnf
  refine EvIf.br (EvBr.dec _ _ rfl (fun h => ?_) (fun h => ?_))
  · have hxi : l[i]? = some l[i] := by simp [hn, h.1]
    have hrl := hl l[i] (List.getElem_mem _)
    refine EvIdx.sl i rfl h.1 (by rw [actV_length]; omega) ?_
    refine EvLoad.mk (i * 3 + 2) (by simp only [addO]; omega) (.string ⟨⟨l[i].2.2⟩⟩) (actV_get2 hxi) ?_
    repeat ((conv => whnf); (first | refine nowA ?_ | refine numN ?_ | refine numI ?_ | refine EvVal.ofN ?_ | refine EvNew.mk fun _ => ?_ | refine EvLoad.mk _ rfl _ rfl ?_ | refine divA ?_))
    refine EvIf.br (EvBr.dec _ _ rfl (fun h4 => ?_) (fun h4 => ?_))
    · refine EvIdx.sl i rfl h.1 (by rw [actV_length]; omega) ?_
      refine EvLoadN.mk (i * 3) rfl _ rfl (actV_get hxi) ?_
      refine EvCall.mk _ _ _ (do_spec b l[i].2.2 rs l[i].1 l[i].2.1 ar cr kr hb hr hc hrl) (.own .here rfl .nil) ?_
      rintro _ _ ⟨b2, rs2, a2, c2, k2, o1, o2, o3, rfl, rfl⟩
      repeat ((conv => whnf); (first | refine nowA ?_ | refine numN ?_ | refine numI ?_ | refine EvVal.ofN ?_ | refine EvNew.mk fun _ => ?_ | refine EvLoad.mk _ rfl _ rfl ?_ | refine divA ?_))
      exact ⟨(i + 1, b2, rs2, a2, c2, k2), ⟨⟨by dsimp only; omega, o1, o2, o3⟩, by dsimp only; omega⟩, ⟨rfl, rfl, rfl, trivial⟩, rfl, .cons .here (.cons .here .nil)⟩
    · repeat ((conv => whnf); (first | refine nowA ?_ | refine numN ?_ | refine numI ?_ | refine EvVal.ofN ?_ | refine EvNew.mk fun _ => ?_ | refine EvLoad.mk _ rfl _ rfl ?_ | refine divA ?_))
      exact ⟨(i + 1, b, rs, ar, cr, kr), ⟨⟨by dsimp only; omega, hb, hr, hc⟩, by dsimp only; omega⟩, ⟨rfl, rfl, rfl, trivial⟩, rfl, .cons .here (.cons .here .nil)⟩
  have hbl := (chk_zero hb).1
  have hroom := recs_room hb
  rw [hr] at hroom
  obtain ⟨q1, q2, q3, q4⟩ := compact_ok hroom
  have hcl := (chk_zero q1).1
  refine EvCall.mk [] _ _ (compact_spec b (by omega)) .nil ?_
  rintro _ _ ⟨rfl, rfl⟩
  rw [if_pos hb, hr]
  refine EvCall.mk [] _ _ (compact_spec (compact rs) (by omega)) .nil ?_
  rintro _ _ ⟨rfl, rfl⟩
  rw [if_pos q1, q2]
  repeat ((conv => whnf); (first | refine nowA ?_ | refine numN ?_ | refine numI ?_ | refine EvVal.ofN ?_ | refine EvNew.mk fun _ => ?_ | refine EvLoad.mk _ rfl _ rfl ?_ | refine divA ?_))
  refine EvCut.direct ?_
  repeat ((conv => whnf); (first | (first | refine nowA ?_ | refine numN ?_ | refine numI ?_ | refine EvVal.ofN ?_ | refine EvNew.mk fun _ => ?_ | refine EvLoad.mk _ rfl _ rfl ?_ | refine divA ?_) | (first | refine brT ?_ | refine brF ?_ | refine iteT ?_ | refine iteF ?_)))
  rw [hcl]
  repeat ((conv => whnf); (first | (first | refine nowA ?_ | refine numN ?_ | refine numI ?_ | refine EvVal.ofN ?_ | refine EvNew.mk fun _ => ?_ | refine EvLoad.mk _ rfl _ rfl ?_ | refine divA ?_) | (first | refine brT ?_ | refine brF ?_ | refine iteT ?_ | refine iteF ?_)))
  refine EvCall.mk [] _ _ awake_spec .nil ?_
  rintro _ _ ⟨rfl, rfl⟩
  repeat ((conv => whnf); (first | (first | refine nowA ?_ | refine numN ?_ | refine numI ?_ | refine EvVal.ofN ?_ | refine EvNew.mk fun _ => ?_ | refine EvLoad.mk _ rfl _ rfl ?_ | refine divA ?_) | (first | refine brT ?_ | refine brF ?_ | refine iteT ?_ | refine iteF ?_)))
  refine EvIf.br (EvBr.f rfl ?_)
  conv => whnf
  refine EvDraw.mk (.take 0 (.take 1 (.take 2 (.take 3 (.take 4 (.take 5 (.take 6 (.take 7 (.take 8 .nil))))))))) (by kernel_rfl) ?_
  have h1 := nb_lt (compact rs) 2
  have h2 := nb_lt (compact rs) 3
  repeat ((conv => whnf); (first | refine nowA ?_ | refine numN ?_ | refine numI ?_ | refine EvVal.ofN ?_ | refine EvNew.mk fun _ => ?_ | refine EvLoad.mk _ rfl _ rfl ?_ | refine divA ?_))
  rw [show nb (compact rs) 2 * 256 + nb (compact rs) 3 = 232 - sumL (rs.map List.length) from q3]
  conv => whnf
  refine EvLoop.mk (α := Nat) (fun j => j ≤ rs.length) (fun j => rs.length - j) (fun j => [(11, .int .i64 j), (10, .int .i64 ((232 - sumL (rs.map List.length) + sumL ((rs.take j).map List.length) : Nat) : Int))]) (fun _ => [.row ar kr 9 1 (strV rs), .view ao 33 (actV l)]) ?_ ?_
  · exact ⟨0, by omega, ⟨rfl, rfl, trivial⟩, rfl, .cons .here (.cons .here .nil)⟩
  intro j hj
  repeat ((conv => whnf); (first | refine nowA ?_ | refine numN ?_ | refine numI ?_ | refine EvVal.ofN ?_ | refine EvNew.mk fun _ => ?_ | refine EvLoad.mk _ rfl _ rfl ?_ | refine divA ?_))
  refine EvIf.br (EvBr.dec _ _ rfl (fun h => ?_) (fun h => ?_))
  · have hlt : j < rs.length := by omega
    have hst := sumL_take_succ hlt
    have hstl := sumL_take_le rs (j + 1)
    refine EvIdx.row j rfl hlt (by simp; omega) ?_
    refine EvLoad.mk (j * 1) rfl (.string ⟨⟨rs.getD j []⟩⟩) (by rw [Nat.mul_one]; exact strV_get hlt) ?_
    repeat ((conv => whnf); (first | refine nowA ?_ | refine numN ?_ | refine numI ?_ | refine EvVal.ofN ?_ | refine EvNew.mk fun _ => ?_ | refine EvLoad.mk _ rfl _ rfl ?_ | refine divA ?_))
    refine ⟨j + 1, ⟨by omega, by omega⟩, ⟨rfl, ?_, trivial⟩, rfl, .cons .here (.cons .here .nil)⟩
    rw [hst]
    simp only [getF, Option.some.injEq, Value.int.injEq, true_and]
    omega
  have e : j = rs.length := by omega
  subst e
  rw [List.take_length, show 232 - sumL (rs.map List.length) + sumL (rs.map List.length) = 232 by omega]
  conv => whnf
  refine EvCut.direct ?_
  repeat ((conv => whnf); (first | (first | refine nowA ?_ | refine numN ?_ | refine numI ?_ | refine EvVal.ofN ?_ | refine EvNew.mk fun _ => ?_ | refine EvLoad.mk _ rfl _ rfl ?_ | refine divA ?_) | (first | refine brT ?_ | refine brF ?_ | refine iteT ?_ | refine iteF ?_)))
  refine EvCall.mk _ _ _ (lsame_spec (compact rs) rs ar cr q1 q2) (.view .nil sees_all) ?_
  rintro _ _ ⟨rfl, rfl⟩
  repeat ((conv => whnf); (first | (first | refine nowA ?_ | refine numN ?_ | refine numI ?_ | refine EvVal.ofN ?_ | refine EvNew.mk fun _ => ?_ | refine EvLoad.mk _ rfl _ rfl ?_ | refine divA ?_) | (first | refine brT ?_ | refine brF ?_ | refine iteT ?_ | refine iteF ?_)))
  exact EvRet.mk [] .nil rfl ⟨by simp [oneOr], rfl⟩

end Go.Proofs.Ytloknkdomgeolaa.She
