/- The walks of the document's lists, and of what the laws of slots share. -/
import Derived.Test.YtloknkdomgeolaaSlH
namespace Go.Proofs.Ytloknkdomgeolaa.She
set_option linter.all false
open Go
set_option pp.maxSteps 600
set_option maxRecDepth 10000

theorem same_spec (xs ys : List (List UInt8)) (ao bo : Option Addr) (n c m d : Nat) (hn : xs.length = n) (hm : ys.length = m) (hn2 : n < 9223372036854775807) (hm2 : m < 9223372036854775807) :
    Spec Try.prog 30 [.slice ao n c, .slice bo m d] [.view ao 9 (strV xs), .view bo 9 (strV ys)] (fun v O => v = .bool (decide (xs = ys)) ∧ O = []) := by
  refine Spec.of_ev S_ok S_mixed Try.func30 rfl rfl ?_
  repeat ((conv => whnf); (first | refine nowA ?_ | refine numN ?_ | refine numI ?_ | refine EvVal.ofN ?_ | refine EvNew.mk fun _ => ?_ | refine EvLoad.mk _ rfl _ rfl ?_ | refine divA ?_))
  refine EvIf.br (EvBr.dec _ _ rfl (fun h => ?_) (fun h => ?_))
  · refine EvRet.mk [] .nil rfl ⟨?_, rfl⟩
    rw [decide_eq_false (fun e => by subst e; omega)]; rfl
  have hnm : n = m := by omega
  conv => whnf
  refine EvLoop.mk (α := Nat) (fun i => i ≤ n ∧ xs.take i = ys.take i) (fun i => n - i) (fun i => [(5, .int .i64 i)]) (fun _ => [.view ao 9 (strV xs), .view bo 9 (strV ys)]) ?_ ?_
  · exact ⟨0, ⟨by omega, rfl⟩, ⟨rfl, trivial⟩, rfl, .cons .here (.cons .here .nil)⟩
  rintro i ⟨hi, he⟩
  repeat ((conv => whnf); (first | refine nowA ?_ | refine numN ?_ | refine numI ?_ | refine EvVal.ofN ?_ | refine EvNew.mk fun _ => ?_ | refine EvLoad.mk _ rfl _ rfl ?_ | refine divA ?_))
  refine EvIf.br (EvBr.dec _ _ rfl (fun h => ?_) (fun h => ?_))
  · have hlt : i < n := by omega
    conv => whnf
    refine EvDraw.mk (.take 0 (.take 1 (.take 2 (.take 4 (.take 5 (.take 6 (.group [3,7,8] .nil))))))) (by kernel_rfl) ?_
    refine EvIdx.sl i rfl (by omega) (by simp; omega) ?_
    refine EvIdx.sl i rfl (by omega) (by simp; omega) ?_
    refine EvLoad.mk (i * 1) rfl (.string ⟨⟨xs.getD i []⟩⟩) (by rw [Nat.mul_one]; exact strV_get (by omega)) ?_
    refine EvLoad.mk (i * 1) rfl (.string ⟨⟨ys.getD i []⟩⟩) (by rw [Nat.mul_one]; exact strV_get (by omega)) ?_
    refine EvIf.br (EvBr.dec _ _ rfl (fun h => ?_) (fun h => ?_))
    · refine EvRet.mk [] .nil rfl ⟨?_, rfl⟩
      rw [decide_eq_false (fun e => by subst e; exact h rfl)]; rfl
    have h := Decidable.not_not.1 h
    repeat ((conv => whnf); (first | refine nowA ?_ | refine numN ?_ | refine numI ?_ | refine EvVal.ofN ?_ | refine EvNew.mk fun _ => ?_ | refine EvLoad.mk _ rfl _ rfl ?_ | refine divA ?_))
    refine ⟨i + 1, ⟨⟨by omega, ?_⟩, by omega⟩, ⟨rfl, trivial⟩, rfl, .cons .here (.cons .here .nil)⟩
    rw [take_succ_getD (by omega) [], take_succ_getD (by omega) [], he, h]
  refine EvRet.mk [] .nil rfl ⟨?_, rfl⟩
  have e : i = n := by omega
  subst e
  rw [← hn, List.take_length, hn, hnm, ← hm, List.take_length] at he
  rw [decide_eq_true he]; rfl

theorem rput_spec (rs : List (List UInt8)) (r : List UInt8) (ao : Option Addr) (n c i : Nat) (hn : rs.length = n) (hi : i ≤ n) (hc : n ≤ c) (hc2 : n ≤ 10000) :
    Spec Try.prog 29 [.slice ao n c, .int .i64 i, .string ⟨⟨r⟩⟩] [.view ao 9 (strV rs)] (fun v O => ∃ ao' cap', n + 1 ≤ cap' ∧ v = .slice ao' (n + 1) cap' ∧ O = [.row ao' cap' 9 1 (strV (ins rs i r))]) := by
  refine Spec.of_ev S_ok S_mixed Try.func29 rfl rfl ?_
  conv => whnf
  refine EvDraw.mk (.take 1 (.take 2 (.take 3 (.take 5 (.take 8 (.take 9 (.take 10 (.two 0 (.two 4 (.eff 6 (.eff 7 (.eff 11 (.take 12 .nil)))) 6 (.eff 4 (.eff 7 (.eff 11 (.take 12 .nil))))) 6 (.eff 0 (.eff 4 (.eff 7 (.eff 11 (.take 12 .nil))))))))))))) (by kernel_rfl) ?_
  have e1 : strV [] ++ strV (rs.take i) ++ strV [r] ++ strV (rs.drop i) = strV (ins rs i r) := by simp [strV, ins]
  repeat ((conv => whnf); (first | refine nowA ?_ | refine numN ?_ | refine numI ?_ | refine EvVal.ofN ?_ | refine EvNew.mk fun _ => ?_ | refine EvLoad.mk _ rfl _ rfl ?_ | refine divA ?_))
  refine EvVal.rfl ?_
  refine EvVal.rfl ?_
  conv => whnf
  refine ⟨?_, ?_⟩
  · repeat ((conv => whnf); (first | refine nowA ?_ | refine numN ?_ | refine numI ?_ | refine EvVal.ofN ?_ | refine EvNew.mk fun _ => ?_ | refine EvLoad.mk _ rfl _ rfl ?_ | refine divA ?_))
    refine ⟨?_, ?_⟩
    · refine EvSrc.mk i (strV (rs.take i)) (src_sl S_ok rfl rfl (by decide) i c _ (by rw [Nat.mul_one, strV_take]) (by simp; omega) (allOne_strV _)) ?_
      refine EvApp.own (xs := strV []) ⟨rfl, rfl, rfl, by decide⟩ rfl (allOne_strV _) (by omega) i (by omega) ?_
      intro a1 c1 hc1
      repeat ((conv => whnf); (first | refine nowA ?_ | refine numN ?_ | refine numI ?_ | refine EvVal.ofN ?_ | refine EvNew.mk fun _ => ?_ | refine EvLoad.mk _ rfl _ rfl ?_ | refine divA ?_))
      refine EvSrc.mk 1 (strV [r]) (src_sl S_ok rfl rfl (by decide) 1 1 _ rfl (by simp) rfl) ?_
      refine EvApp.own ⟨rfl, rfl, rfl, by decide⟩ (by simp; omega) (allOne_strV _) (by omega) (i + 1) rfl ?_
      intro a2 c2 hc2
      refine EvSrc.mk (n - i) (strV (rs.drop i)) (src_sub S_ok rfl rfl (by decide) (i * 1) _ _ _ (fun h => by have := of_decide_eq_true h; omega) _ (by simp only [Nat.mul_one, strV_drop, strV_take]; rw [List.take_of_length_le (by simp; omega)]) (by simp; omega) (allOne_strV _)) ?_
      refine EvApp.own ⟨rfl, rfl, rfl, by decide⟩ (by simp; omega) (allOne_strV _) (by omega) (n + 1) (by omega) ?_
      intro a3 c3 hc3
      rw [e1]
      first | exact EvRet.mk [_] (.cons .here .nil) rfl ⟨a3, c3, hc3, rfl, rfl⟩ | exact EvRet.mk [_] (.cons (.there .here) .nil) rfl ⟨a3, c3, hc3, rfl, rfl⟩ | exact EvRet.mk [_] (.cons (.there (.there .here)) .nil) rfl ⟨a3, c3, hc3, rfl, rfl⟩
    · repeat ((conv => whnf); (first | refine nowA ?_ | refine numN ?_ | refine numI ?_ | refine EvVal.ofN ?_ | refine EvNew.mk fun _ => ?_ | refine EvLoad.mk _ rfl _ rfl ?_ | refine divA ?_))
      refine EvSrc.mk i (strV (rs.take i)) (src_sl S_ok rfl rfl (by decide) i c _ (by rw [Nat.mul_one, strV_take]) (by simp; omega) (allOne_strV _)) ?_
      refine EvApp.own (xs := strV []) ⟨rfl, rfl, rfl, by decide⟩ rfl (allOne_strV _) (by omega) i (by omega) ?_
      intro a1 c1 hc1
      refine EvSrc.mk 1 (strV [r]) (src_sl S_ok rfl rfl (by decide) 1 1 _ rfl (by simp) rfl) ?_
      refine EvApp.own ⟨rfl, rfl, rfl, by decide⟩ (by simp; omega) (allOne_strV _) (by omega) (i + 1) rfl ?_
      intro a2 c2 hc2
      refine EvSrc.mk (n - i) (strV (rs.drop i)) (src_sub S_ok rfl rfl (by decide) (i * 1) _ _ _ (fun h => by have := of_decide_eq_true h; omega) _ (by simp only [Nat.mul_one, strV_drop, strV_take]; rw [List.take_of_length_le (by simp; omega)]) (by simp; omega) (allOne_strV _)) ?_
      refine EvApp.own ⟨rfl, rfl, rfl, by decide⟩ (by simp; omega) (allOne_strV _) (by omega) (n + 1) (by omega) ?_
      intro a3 c3 hc3
      rw [e1]
      first | exact EvRet.mk [_] (.cons .here .nil) rfl ⟨a3, c3, hc3, rfl, rfl⟩ | exact EvRet.mk [_] (.cons (.there .here) .nil) rfl ⟨a3, c3, hc3, rfl, rfl⟩ | exact EvRet.mk [_] (.cons (.there (.there .here)) .nil) rfl ⟨a3, c3, hc3, rfl, rfl⟩
  · repeat ((conv => whnf); (first | refine nowA ?_ | refine numN ?_ | refine numI ?_ | refine EvVal.ofN ?_ | refine EvNew.mk fun _ => ?_ | refine EvLoad.mk _ rfl _ rfl ?_ | refine divA ?_))
    refine EvSrc.mk i (strV (rs.take i)) (src_sl S_ok rfl rfl (by decide) i c _ (by rw [Nat.mul_one, strV_take]) (by simp; omega) (allOne_strV _)) ?_
    refine EvApp.own (xs := strV []) ⟨rfl, rfl, rfl, by decide⟩ rfl (allOne_strV _) (by omega) i (by omega) ?_
    intro a1 c1 hc1
    refine EvSrc.mk 1 (strV [r]) (src_sl S_ok rfl rfl (by decide) 1 1 _ rfl (by simp) rfl) ?_
    refine EvApp.own ⟨rfl, rfl, rfl, by decide⟩ (by simp; omega) (allOne_strV _) (by omega) (i + 1) rfl ?_
    intro a2 c2 hc2
    refine EvSrc.mk (n - i) (strV (rs.drop i)) (src_sub S_ok rfl rfl (by decide) (i * 1) _ _ _ (fun h => by have := of_decide_eq_true h; omega) _ (by simp only [Nat.mul_one, strV_drop, strV_take]; rw [List.take_of_length_le (by simp; omega)]) (by simp; omega) (allOne_strV _)) ?_
    refine EvApp.own ⟨rfl, rfl, rfl, by decide⟩ (by simp; omega) (allOne_strV _) (by omega) (n + 1) (by omega) ?_
    intro a3 c3 hc3
    rw [e1]
    first | exact EvRet.mk [_] (.cons .here .nil) rfl ⟨a3, c3, hc3, rfl, rfl⟩ | exact EvRet.mk [_] (.cons (.there .here) .nil) rfl ⟨a3, c3, hc3, rfl, rfl⟩ | exact EvRet.mk [_] (.cons (.there (.there .here)) .nil) rfl ⟨a3, c3, hc3, rfl, rfl⟩

theorem rtake_spec (rs : List (List UInt8)) (ao : Option Addr) (n c i : Nat) (hn : rs.length = n) (hi : i < n) (hc : n ≤ c) (hc2 : n ≤ 10000) :
    Spec Try.prog 28 [.slice ao n c, .int .i64 i] [.view ao 9 (strV rs)] (fun v O => ∃ ao' cap', n - 1 ≤ cap' ∧ v = .slice ao' (n - 1) cap' ∧ O = [.row ao' cap' 9 1 (strV (del rs i))]) := by
  refine Spec.of_ev S_ok S_mixed Try.func28 rfl rfl ?_
  conv => whnf
  refine EvDraw.mk (.take 1 (.take 2 (.take 3 (.take 5 (.take 6 (.take 7 (.take 8 (.eff 0 (.eff 4 (.eff 9 (.take 10 .nil))))))))))) (by kernel_rfl) ?_
  have e1 : strV [] ++ strV (rs.take i) ++ strV (rs.drop (i + 1)) = strV (del rs i) := by simp [strV, del]
  repeat ((conv => whnf); (first | refine nowA ?_ | refine numN ?_ | refine numI ?_ | refine EvVal.ofN ?_ | refine EvNew.mk fun _ => ?_ | refine EvLoad.mk _ rfl _ rfl ?_ | refine divA ?_))
  refine EvVal.rfl ?_
  refine EvVal.rfl ?_
  repeat ((conv => whnf); (first | refine nowA ?_ | refine numN ?_ | refine numI ?_ | refine EvVal.ofN ?_ | refine EvNew.mk fun _ => ?_ | refine EvLoad.mk _ rfl _ rfl ?_ | refine divA ?_))
  refine EvSrc.mk i (strV (rs.take i)) (src_sl S_ok rfl rfl (by decide) i c _ (by rw [Nat.mul_one, strV_take]) (by simp; omega) (allOne_strV _)) ?_
  refine EvApp.own (xs := strV []) ⟨rfl, rfl, rfl, by decide⟩ rfl (allOne_strV _) (by omega) i (by omega) ?_
  intro a1 c1 hc1
  refine EvSrc.mk (n - (i + 1)) (strV (rs.drop (i + 1))) (src_sub S_ok rfl rfl (by decide) ((i + 1) * 1) _ _ _ (fun h => by have := of_decide_eq_true h; omega) _ (by simp only [Nat.mul_one, strV_drop, strV_take]; rw [List.take_of_length_le (by simp; omega)]) (by simp; omega) (allOne_strV _)) ?_
  refine EvApp.own ⟨rfl, rfl, rfl, by decide⟩ (by simp; omega) (allOne_strV _) (by omega) (n - 1) (by omega) ?_
  intro a3 c3 hc3
  rw [e1]
  exact EvRet.mk [_] (.cons .here .nil) rfl ⟨a3, c3, hc3, rfl, rfl⟩


theorem rtwo_spec (n : Nat) (hn : n < 65536) : Spec Try.prog 16 [.int .i64 n] [] (fun v O => v = .string ⟨⟨twoB n⟩⟩ ∧ O = []) := by
  refine Spec.of_ev S_ok S_mixed Try.func16 rfl rfl ?_
  repeat ((conv => whnf); (first | refine nowA ?_ | refine numN ?_ | refine numI ?_ | refine EvVal.ofN ?_ | refine EvNew.mk fun _ => ?_ | refine EvLoad.mk _ rfl _ rfl ?_ | refine divA ?_))
  refine EvVal.nat ?_
  repeat ((conv => whnf); (first | refine nowA ?_ | refine numN ?_ | refine numI ?_ | refine EvVal.ofN ?_ | refine EvNew.mk fun _ => ?_ | refine EvLoad.mk _ rfl _ rfl ?_ | refine divA ?_))
  refine EvStr.mk (twoB n) rfl ?_ ?_
  · simp [twoB]; omega
  refine EvRet.mk [] .nil rfl ⟨rfl, rfl⟩

/-- A sound payload with these records: the law's own look says so. -/
theorem lsame_spec (b : List UInt8) (rs : List (List UInt8)) (ao : Option Addr) (c : Nat) (hb : chk b = 0) (hr : recs b = rs) :
    Spec Try.prog 17 [.string ⟨⟨b⟩⟩, .slice ao rs.length c] [.view ao 9 (strV rs)] (fun v O => v = .bool true ∧ O = []) := by
  have hroom := recs_room hb
  have hg := chk_good hb
  have hbl : b.length < 9223372036854775807 := by omega
  refine Spec.of_ev S_ok S_mixed Try.func17 rfl rfl ?_
  refine EvCall.mk [] _ _ (all_spec b hbl) .nil ?_
  rintro _ _ ⟨a1, c1, hc1, rfl, rfl⟩
  rw [hb]
  repeat ((conv => whnf); (first | refine nowA ?_ | refine numN ?_ | refine numI ?_ | refine EvVal.ofN ?_ | refine EvNew.mk fun _ => ?_ | refine EvLoad.mk _ rfl _ rfl ?_ | refine divA ?_))
  refine EvCut.direct ?_
  refine EvCall.mk [] _ _ (rchk_spec b hbl) .nil ?_
  rintro _ _ ⟨rfl, rfl⟩
  rw [hb]
  repeat ((conv => whnf); (first | (first | refine nowA ?_ | refine numN ?_ | refine numI ?_ | refine EvVal.ofN ?_ | refine EvNew.mk fun _ => ?_ | refine EvLoad.mk _ rfl _ rfl ?_ | refine divA ?_) | (first | refine brT ?_ | refine brF ?_ | refine iteT ?_ | refine iteF ?_)))
  refine EvCall.mk _ _ _ (same_spec (recs b) rs a1 ao _ _ _ _ rfl rfl (by omega) (by rw [← hr]; omega)) (.view (.view .nil sees_all) sees_all) ?_
  rintro _ _ ⟨rfl, rfl⟩
  rw [decide_eq_true hr]
  repeat ((conv => whnf); (first | (first | refine nowA ?_ | refine numN ?_ | refine numI ?_ | refine EvVal.ofN ?_ | refine EvNew.mk fun _ => ?_ | refine EvLoad.mk _ rfl _ rfl ?_ | refine divA ?_) | (first | refine brT ?_ | refine brF ?_ | refine iteT ?_ | refine iteF ?_)))
  refine EvCall.mk [] _ _ (rall_spec b hb) .nil ?_
  rintro _ _ ⟨a2, c2, hc2, rfl, rfl⟩
  repeat ((conv => whnf); (first | (first | refine nowA ?_ | refine numN ?_ | refine numI ?_ | refine EvVal.ofN ?_ | refine EvNew.mk fun _ => ?_ | refine EvLoad.mk _ rfl _ rfl ?_ | refine divA ?_) | (first | refine brT ?_ | refine brF ?_ | refine iteT ?_ | refine iteF ?_)))
  refine EvCall.mk _ _ _ (same_spec (recs b) rs a2 ao _ _ _ _ rfl rfl (by omega) (by rw [← hr]; omega)) (.view (.view .nil sees_all) sees_all) ?_
  rintro _ _ ⟨rfl, rfl⟩
  rw [decide_eq_true hr]
  repeat ((conv => whnf); (first | (first | refine nowA ?_ | refine numN ?_ | refine numI ?_ | refine EvVal.ofN ?_ | refine EvNew.mk fun _ => ?_ | refine EvLoad.mk _ rfl _ rfl ?_ | refine divA ?_) | (first | refine brT ?_ | refine brF ?_ | refine iteT ?_ | refine iteF ?_)))
  refine EvCall.mk [] _ _ (room_spec b hbl) .nil ?_
  rintro _ _ ⟨rfl, rfl⟩
  rw [room_eq hb, hr]
  repeat ((conv => whnf); (first | (first | refine nowA ?_ | refine numN ?_ | refine numI ?_ | refine EvVal.ofN ?_ | refine EvNew.mk fun _ => ?_ | refine EvLoad.mk _ rfl _ rfl ?_ | refine divA ?_) | (first | refine brT ?_ | refine brF ?_ | refine iteT ?_ | refine iteF ?_)))
  refine EvCall.mk _ _ _ (rroom_spec rs ao _ _ rfl (fun r h => by rw [← hr] at h; have := mem_sumL h; omega) (by rw [← hr]; omega)) (.view .nil sees_all) ?_
  rintro _ _ ⟨rfl, rfl⟩
  repeat ((conv => whnf); (first | (first | refine nowA ?_ | refine numN ?_ | refine numI ?_ | refine EvVal.ofN ?_ | refine EvNew.mk fun _ => ?_ | refine EvLoad.mk _ rfl _ rfl ?_ | refine divA ?_) | (first | refine brT ?_ | refine brF ?_ | refine iteT ?_ | refine iteF ?_)))
  refine EvCall.mk [] _ _ (len_spec b hbl) .nil ?_
  rintro _ _ ⟨rfl, rfl⟩
  rw [hr]
  repeat ((conv => whnf); (first | (first | refine nowA ?_ | refine numN ?_ | refine numI ?_ | refine EvVal.ofN ?_ | refine EvNew.mk fun _ => ?_ | refine EvLoad.mk _ rfl _ rfl ?_ | refine divA ?_) | (first | refine brT ?_ | refine brF ?_ | refine iteT ?_ | refine iteF ?_)))
  refine EvRet.mk [] .nil rfl ⟨?_, rfl⟩
  simp [oneOr]

end Go.Proofs.Ytloknkdomgeolaa.She
