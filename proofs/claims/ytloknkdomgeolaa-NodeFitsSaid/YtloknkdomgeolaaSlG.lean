/- The walks of the functions of slots: Delete and Of. -/
import Derived.Test.YtloknkdomgeolaaSlF
namespace Go.Proofs.Ytloknkdomgeolaa.She
set_option linter.all false
open Go
set_option pp.maxSteps 600
set_option maxRecDepth 10000

def emptyB : List UInt8 := setTw (List.replicate 232 0) 2 232
theorem emptyB_ok : chk emptyB = 0 ∧ recs emptyB = [] := by
  have h : emptyB = compact [] := by decide +kernel
  rw [h]
  have := compact_ok (rs := []) (by decide)
  exact ⟨this.1, this.2.1⟩

theorem sumL_map_take_le (rs : List (List UInt8)) (i : Nat) : sumL ((rs.take i).map List.length) ≤ sumL (rs.map List.length) := sumL_take_le rs i
theorem sumL_bd {rs : List (List UInt8)} {m : Nat} (h : ∀ r ∈ rs, r.length ≤ m) : sumL (rs.map List.length) ≤ rs.length * m := by
  induction rs with
  | nil => simp [sumL]
  | cons x r ih =>
    have := h x (.head _)
    have := ih fun y hy => h y (.tail _ hy)
    simp only [List.map_cons, sumL, List.length_cons, Nat.succ_mul]; omega

/-- What Of answers. -/
theorem of_spec (rs : List (List UInt8)) (ao : Option Addr) (n c : Nat) (hn : rs.length = n) (hr : ∀ r ∈ rs, r.length ≤ 10000) (hn2 : n ≤ 10000) : Spec Try.prog 31 [.slice ao n c] [.view ao 9 (strV rs)]
    (fun v O => ((roomL rs < 0 ∧ v = .tuple #[.string ⟨⟨[]⟩⟩, .int .i64 11]) ∨ (0 ≤ roomL rs ∧ ∃ b, chk b = 0 ∧ recs b = rs ∧ v = .tuple #[.string ⟨⟨b⟩⟩, .int .i64 0])) ∧ O = []) := by
  refine Spec.of_ev S_ok S_mixed Try.func31 rfl rfl ?_
  refine EvCall.mk [] _ _ empty_spec .nil ?_
  rintro _ _ ⟨rfl, rfl⟩
  conv => whnf
  refine EvLoop.mk (α := Nat × List UInt8) (fun x => x.1 ≤ n ∧ chk x.2 = 0 ∧ recs x.2 = rs.take x.1) (fun x => n - x.1) (fun x => [(12, .int .i64 x.1), (4, .string ⟨⟨x.2⟩⟩)]) (fun x => [.view ao 9 (strV rs)]) ?_ ?_
  · exact ⟨(0, emptyB), ⟨by omega, emptyB_ok.1, by simpa using emptyB_ok.2⟩, ⟨rfl, rfl, trivial⟩, rfl, .cons .here .nil⟩
  rintro ⟨i, b⟩ ⟨hi, hb, hbr⟩
  dsimp only at hi hb hbr ⊢
  have hb232 := (chk_good hb).1
  have hbl : (recs b).length = i := by rw [hbr]; simp; omega
  refine EvNow.mk rfl ?_
  refine EvIf.br (EvBr.dec _ _ rfl (fun h => ?_) (fun h => ?_))
  · have hlt : i < rs.length := by omega
    have hri : (rs.getD i []).length ≤ 10000 := hr _ (by rw [List.getD_eq_getElem?_getD, List.getElem?_eq_getElem hlt]; exact List.getElem_mem _)
    refine EvIdx.sl i rfl (by omega) (by simp; omega) ?_
    refine EvLoad.mk (i * 1) rfl (.string ⟨⟨rs.getD i []⟩⟩) (by rw [Nat.mul_one]; exact strV_get hlt) ?_
    refine EvCall.mk [] _ _ (insert_spec b i (rs.getD i []) (by omega) (by omega)) .nil ?_
    rintro _ _ ⟨rfl, rfl⟩
    rw [if_pos hb, if_pos (by omega)]
    have hst := sumL_take_succ hlt
    have hstl := sumL_take_le rs (i + 1)
    have hlen : (rs.take i).length = i := by simp; omega
    by_cases hroom : ((rs.getD i []).length : Int) ≤ roomL (recs b) - 4
    · rw [if_pos hroom]
      obtain ⟨o1, o2⟩ := insB_ok hb (i := i) (by omega) hroom
      repeat ((conv => whnf); (first | refine nowA ?_ | refine numN ?_ | refine numI ?_ | refine EvVal.ofN ?_ | refine EvNew.mk fun _ => ?_ | refine EvLoad.mk _ rfl _ rfl ?_ | refine divA ?_))
      refine EvIf.br (EvBr.dec _ _ rfl (fun h => absurd rfl h) (fun _ => ?_))
      repeat ((conv => whnf); (first | refine nowA ?_ | refine numN ?_ | refine numI ?_ | refine EvVal.ofN ?_ | refine EvNew.mk fun _ => ?_ | refine EvLoad.mk _ rfl _ rfl ?_ | refine divA ?_))
      refine ⟨(i + 1, insB b i (rs.getD i [])), ⟨⟨by dsimp only; omega, o1, ?_⟩, by dsimp only; omega⟩, ⟨rfl, rfl, trivial⟩, rfl, .cons .here .nil⟩
      dsimp only
      rw [o2, hbr, ins, take_succ_getD hlt [], List.take_take, Nat.min_self, List.drop_of_length_le (by omega), List.append_nil]
    · rw [if_neg hroom]
      repeat ((conv => whnf); (first | refine nowA ?_ | refine numN ?_ | refine numI ?_ | refine EvVal.ofN ?_ | refine EvNew.mk fun _ => ?_ | refine EvLoad.mk _ rfl _ rfl ?_ | refine divA ?_))
      refine EvIf.br (EvBr.dec _ _ rfl (fun _ => ?_) (fun h => absurd (by decide) h))
      refine EvRet.mk [] .nil rfl ⟨.inl ⟨?_, rfl⟩, rfl⟩
      unfold roomL at hroom ⊢
      rw [hbr] at hroom
      omega
  · have e : i = n := by omega
    subst e
    refine EvRet.mk [] .nil rfl ⟨.inr ⟨?_, b, hb, by rw [hbr, ← hn, List.take_length], rfl⟩, rfl⟩
    have := recs_room hb
    rw [hbr, ← hn, List.take_length] at this
    unfold roomL; omega

end Go.Proofs.Ytloknkdomgeolaa.She
