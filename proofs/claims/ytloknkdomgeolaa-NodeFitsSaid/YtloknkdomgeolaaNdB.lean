/- The walks of the functions of node: which entries and nodes may be; a node's payload. -/
import Derived.Test.YtloknkdomgeolaaNdA
import Derived.Test.YtloknkdomgeolaaSlG
namespace Go.Proofs.Ytloknkdomgeolaa.She
set_option linter.all false
open Go
set_option pp.maxSteps 600
set_option maxRecDepth 10000
set_option maxHeartbeats 4000000

/-- No text is great. -/
def Lit (l : List En) : Prop := ∀ x ∈ l, x.key.length ≤ 10000 ∧ x.val.length ≤ 10000
theorem Lit.get {l : List En} (h : Lit l) {i : Nat} (hi : i < l.length) : (l.getD i d0).key.length ≤ 10000 ∧ (l.getD i d0).val.length ≤ 10000 := h _ (getD_mem hi)

theorem right_spec (x : En) (leaf : Bool) (hx : x.key.length ≤ 10000 ∧ x.val.length ≤ 10000) :
    Spec Try.prog 62 [.agg #[.string ⟨⟨x.key⟩⟩, .string ⟨⟨x.val⟩⟩, .int .i64 x.far], .bool leaf] [] (fun v O => v = .bool (decide (OkE leaf x)) ∧ O = []) := by
  obtain ⟨key, val, far⟩ := x
  refine Spec.of_ev S_ok S_mixed Try.func62 rfl rfl ?_
  cases leaf
  · repeat ((conv => whnf); (first | (first | refine nowA ?_ | refine numN ?_ | refine numI ?_ | refine EvVal.ofN ?_ | refine EvNew.mk fun _ => ?_ | refine EvLoad.mk _ rfl _ rfl ?_ | refine divA ?_) | refine loadNA ?_ | refine EvStore.lit ⟨rfl, by decide⟩ (by rfl) ?_))
    refine EvIf.br (brT ?_)
    repeat ((conv => whnf); (first | (first | refine nowA ?_ | refine numN ?_ | refine numI ?_ | refine EvVal.ofN ?_ | refine EvNew.mk fun _ => ?_ | refine EvLoad.mk _ rfl _ rfl ?_ | refine divA ?_) | refine loadNA ?_ | refine EvStore.lit ⟨rfl, by decide⟩ (by rfl) ?_))
    refine EvCut.direct ?_
    repeat' ((conv => whnf); (first | (first | (first | refine nowA ?_ | refine numN ?_ | refine numI ?_ | refine EvVal.ofN ?_ | refine EvNew.mk fun _ => ?_ | refine EvLoad.mk _ rfl _ rfl ?_ | refine divA ?_) | refine loadNA ?_ | refine EvStore.lit ⟨rfl, by decide⟩ (by rfl) ?_) | (first | refine brT ?_ | refine brF ?_ | refine iteT ?_ | refine iteF ?_ | refine brD (fun _ => ?_) (fun _ => ?_))))
    all_goals (refine EvRet.mk [] .nil rfl ⟨?_, rfl⟩; simp only [oneOr, Value.bool.injEq, OkE, ← List.length_eq_zero_iff] at *; first | (refine (decide_eq_true ?_).symm; grind) | (refine (decide_eq_false ?_).symm; grind) | (refine decide_eq_decide.2 ?_; grind))
  · repeat ((conv => whnf); (first | (first | refine nowA ?_ | refine numN ?_ | refine numI ?_ | refine EvVal.ofN ?_ | refine EvNew.mk fun _ => ?_ | refine EvLoad.mk _ rfl _ rfl ?_ | refine divA ?_) | refine loadNA ?_ | refine EvStore.lit ⟨rfl, by decide⟩ (by rfl) ?_))
    refine EvIf.br (brF ?_)
    repeat ((conv => whnf); (first | (first | refine nowA ?_ | refine numN ?_ | refine numI ?_ | refine EvVal.ofN ?_ | refine EvNew.mk fun _ => ?_ | refine EvLoad.mk _ rfl _ rfl ?_ | refine divA ?_) | refine loadNA ?_ | refine EvStore.lit ⟨rfl, by decide⟩ (by rfl) ?_))
    refine EvCut.direct ?_
    repeat' ((conv => whnf); (first | (first | (first | refine nowA ?_ | refine numN ?_ | refine numI ?_ | refine EvVal.ofN ?_ | refine EvNew.mk fun _ => ?_ | refine EvLoad.mk _ rfl _ rfl ?_ | refine divA ?_) | refine loadNA ?_ | refine EvStore.lit ⟨rfl, by decide⟩ (by rfl) ?_) | (first | refine brT ?_ | refine brF ?_ | refine iteT ?_ | refine iteF ?_ | refine brD (fun _ => ?_) (fun _ => ?_))))
    all_goals (refine EvRet.mk [] .nil rfl ⟨?_, rfl⟩; simp only [oneOr, Value.bool.injEq, OkE, ← List.length_eq_zero_iff] at *; first | (refine (decide_eq_true ?_).symm; grind) | (refine (decide_eq_false ?_).symm; grind) | (refine decide_eq_decide.2 ?_; grind))

theorem may_spec (leaf : Bool) (l : List En) (ao : Option Addr) (n c : Nat) (hn : l.length = n) (hl : Lit l) (hn2 : n ≤ 10000) :
    Spec Try.prog 54 [.agg #[.bool leaf, .slice ao n c]] [.view ao 87 (entV l)] (fun v O => v = .bool (okN leaf l) ∧ O = []) := by
  refine Spec.of_ev S_ok S_mixed Try.func54 rfl rfl ?_
  refine EvNew.mk fun q => ?_
  repeat ((conv => whnf); (first | (first | refine nowA ?_ | refine numN ?_ | refine numI ?_ | refine EvVal.ofN ?_ | refine EvNew.mk fun _ => ?_ | refine EvLoad.mk _ rfl _ rfl ?_ | refine divA ?_) | refine loadNA ?_ | refine EvStore.lit ⟨rfl, by decide⟩ (by rfl) ?_))
  refine EvLoop.mk (α := Nat) (fun i => i ≤ n ∧ ∀ j, j < i → okJ leaf l j = true) (fun i => n - i) (fun i => [(8, .int .i64 i)]) (fun _ => [.blk q 58 [.bool leaf, .slice ao n c], .view ao 87 (entV l)]) ?_ ?_
  · exact ⟨0, ⟨by omega, fun j h => by omega⟩, ⟨rfl, trivial⟩, rfl, .cons .here (.cons .here .nil)⟩
  rintro i ⟨hi, hj⟩
  repeat ((conv => whnf); (first | refine nowA ?_ | refine numN ?_ | refine numI ?_ | refine EvVal.ofN ?_ | refine EvNew.mk fun _ => ?_ | refine EvLoad.mk _ rfl _ rfl ?_ | refine divA ?_))
  refine EvIf.br (brD (fun hlt => ?_) (fun hge => ?_))
  · have hlt : i < l.length := by omega
    have hx := hl.get hlt
    refine EvIdx.sl i rfl (by omega) (by rw [entV_length]; omega) ?_
    refine EvLoadN.mk (i * 3) rfl _ rfl (entV_get hlt) ?_
    refine EvNew.mk fun p => ?_
    repeat ((conv => whnf); (first | (first | refine nowA ?_ | refine numN ?_ | refine numI ?_ | refine EvVal.ofN ?_ | refine EvNew.mk fun _ => ?_ | refine EvLoad.mk _ rfl _ rfl ?_ | refine divA ?_) | refine loadNA ?_ | refine EvStore.lit ⟨rfl, by decide⟩ (by rfl) ?_))
    refine EvCut.cut (α := Unit) (fun _ => True) (fun _ => [(33, .bool (!okJ leaf l i))]) (fun _ => [.blk p 87 (enC (l.getD i d0)), .blk q 58 [.bool leaf, .slice ao n c], .view ao 87 (entV l)]) ?_ ?_
    · refine EvDraw.mk (.group [0,1,2,3,4,5,6,7,8,9,10,11,12,13,14,15,16,17,18,19,20] .nil) (by kernel_rfl) ?_
      by_cases hE : OkE leaf (l.getD i d0)
      · repeat ((conv => whnf); (first | (first | refine nowA ?_ | refine numN ?_ | refine numI ?_ | refine EvVal.ofN ?_ | refine EvNew.mk fun _ => ?_ | refine EvLoad.mk _ rfl _ rfl ?_ | refine divA ?_) | refine loadNA ?_ | refine EvStore.lit ⟨rfl, by decide⟩ (by rfl) ?_))
        refine EvQCall.mk [] (.bool true) ((right_spec (l.getD i d0) leaf hx).mono fun v O h => h.1.trans (by rw [decide_eq_true hE])) .nil ?_
        by_cases hi0 : (i : Int) > 0
        · repeat ((conv => whnf); (first | (first | (first | refine nowA ?_ | refine numN ?_ | refine numI ?_ | refine EvVal.ofN ?_ | refine EvNew.mk fun _ => ?_ | refine EvLoad.mk _ rfl _ rfl ?_ | refine divA ?_) | refine loadNA ?_ | refine EvStore.lit ⟨rfl, by decide⟩ (by rfl) ?_) | (first | refine brT ?_ | refine brF ?_ | refine iteT ?_ | refine iteF ?_)))
          refine EvIdx.sl (i - 1) (by omega) (by omega) (by rw [entV_length]; omega) ?_
          repeat ((conv => whnf); (first | (first | (first | refine nowA ?_ | refine numN ?_ | refine numI ?_ | refine EvVal.ofN ?_ | refine EvNew.mk fun _ => ?_ | refine EvLoad.mk _ rfl _ rfl ?_ | refine divA ?_) | refine loadNA ?_ | refine EvStore.lit ⟨rfl, by decide⟩ (by rfl) ?_) | (first | refine brT ?_ | refine brF ?_ | refine iteT ?_ | refine iteF ?_)))
          refine EvLoad.mk ((i - 1) * 3) rfl (.string ⟨⟨(l.getD (i - 1) d0).key⟩⟩) (entV_get0 (by omega)) ?_
          repeat ((conv => whnf); (first | (first | (first | refine nowA ?_ | refine numN ?_ | refine numI ?_ | refine EvVal.ofN ?_ | refine EvNew.mk fun _ => ?_ | refine EvLoad.mk _ rfl _ rfl ?_ | refine divA ?_) | refine loadNA ?_ | refine EvStore.lit ⟨rfl, by decide⟩ (by rfl) ?_) | (first | refine brT ?_ | refine brF ?_ | refine iteT ?_ | refine iteF ?_)))
          refine ⟨(), trivial, ⟨?_, trivial⟩, rfl, .cons .here (.cons .here (.cons .here .nil))⟩
          rw [leq_iff]
          simp only [okJ, decide_eq_true hE, decide_eq_false (show ¬ i = 0 by omega), Bool.true_and, Bool.false_or]
          rfl
        · repeat ((conv => whnf); (first | (first | (first | refine nowA ?_ | refine numN ?_ | refine numI ?_ | refine EvVal.ofN ?_ | refine EvNew.mk fun _ => ?_ | refine EvLoad.mk _ rfl _ rfl ?_ | refine divA ?_) | refine loadNA ?_ | refine EvStore.lit ⟨rfl, by decide⟩ (by rfl) ?_) | (first | refine brT ?_ | refine brF ?_ | refine iteT ?_ | refine iteF ?_)))
          refine ⟨(), trivial, ⟨?_, trivial⟩, rfl, .cons .here (.cons .here (.cons .here .nil))⟩
          simp only [okJ, decide_eq_true hE, decide_eq_true (show i = 0 by omega), Bool.true_and, Bool.true_or]
          rfl
      · repeat ((conv => whnf); (first | (first | refine nowA ?_ | refine numN ?_ | refine numI ?_ | refine EvVal.ofN ?_ | refine EvNew.mk fun _ => ?_ | refine EvLoad.mk _ rfl _ rfl ?_ | refine divA ?_) | refine loadNA ?_ | refine EvStore.lit ⟨rfl, by decide⟩ (by rfl) ?_))
        refine EvQCall.mk [] (.bool false) ((right_spec (l.getD i d0) leaf hx).mono fun v O h => h.1.trans (by rw [decide_eq_false hE])) .nil ?_
        repeat ((conv => whnf); (first | (first | (first | refine nowA ?_ | refine numN ?_ | refine numI ?_ | refine EvVal.ofN ?_ | refine EvNew.mk fun _ => ?_ | refine EvLoad.mk _ rfl _ rfl ?_ | refine divA ?_) | refine loadNA ?_ | refine EvStore.lit ⟨rfl, by decide⟩ (by rfl) ?_) | (first | refine brT ?_ | refine brF ?_ | refine iteT ?_ | refine iteF ?_)))
        refine ⟨(), trivial, ⟨?_, trivial⟩, rfl, .cons .here (.cons .here (.cons .here .nil))⟩
        simp only [okJ, decide_eq_false hE, Bool.false_and]
        rfl
    intro _ _
    conv => whnf
    refine EvIf.br (EvBr.both (fun h => ?_) (fun h => ?_))
    · repeat ((conv => whnf); (first | refine nowA ?_ | refine numN ?_ | refine numI ?_ | refine EvVal.ofN ?_ | refine EvNew.mk fun _ => ?_ | refine EvLoad.mk _ rfl _ rfl ?_ | refine divA ?_))
      refine EvRet.mk [] .nil rfl ⟨?_, rfl⟩
      rw [okN_false hlt (by simpa using h)]
      rfl
    · repeat ((conv => whnf); (first | refine nowA ?_ | refine numN ?_ | refine numI ?_ | refine EvVal.ofN ?_ | refine EvNew.mk fun _ => ?_ | refine EvLoad.mk _ rfl _ rfl ?_ | refine divA ?_))
      refine ⟨i + 1, ⟨⟨by omega, fun j hj' => ?_⟩, by omega⟩, ⟨rfl, trivial⟩, rfl, .cons (.there .here) (.cons (.there .here) .nil)⟩
      by_cases hji : j = i
      · subst hji; simpa using h
      · exact hj j (by omega)
  · repeat ((conv => whnf); (first | refine nowA ?_ | refine numN ?_ | refine numI ?_ | refine EvVal.ofN ?_ | refine EvNew.mk fun _ => ?_ | refine EvLoad.mk _ rfl _ rfl ?_ | refine divA ?_))
    refine EvRet.mk [] .nil rfl ⟨?_, rfl⟩
    rw [okN_true (fun j hj' => hj j (by omega))]
    rfl

theorem putx_spec (x : En) (b : Nat) (rs : List (List UInt8)) (ao : Option Addr) (n c : Nat) (hn : rs.length = n) (hn2 : n ≤ 20000) (hx : x.key.length ≤ 10000 ∧ x.val.length ≤ 10000) (hf : -1 ≤ x.far ∧ x.far < 512) :
    Spec Try.prog 55 [.agg #[.string ⟨⟨x.key⟩⟩, .string ⟨⟨x.val⟩⟩, .int .i64 x.far], .pointer (some ⟨b, 0, none⟩)] [.blk b 30 [.slice ao n c], .row ao c 9 1 (strV rs)]
      (fun v O => ∃ ao' c', n + 1 ≤ c' ∧ v = .tuple #[] ∧ O = [.blk b 30 [.slice ao' (n + 1) c'], .row ao' c' 9 1 (strV (rs ++ [recE x]))]) := by
  obtain ⟨m, hm⟩ : ∃ m : Nat, x.far + 1 = (m : Int) := ⟨(x.far + 1).toNat, by omega⟩
  have hm' : (x.far + 1).toNat = m := by omega
  have hr : recE x = [UInt8.ofNat x.key.length] ++ x.key ++ twoB m ++ x.val := by unfold recE; rw [hm']
  refine Spec.of_ev S_ok S_mixed Try.func55 rfl rfl ?_
  refine EvNew.mk fun q => ?_
  conv => whnf
  refine EvLoad.mk _ rfl _ rfl ?_
  conv => whnf
  refine EvNow.mk rfl ?_
  refine EvNum.fit (m : Int) hm.symm (fit_i64 (by omega) (by omega)) ?_
  conv => whnf
  refine EvLoad.mk _ rfl _ rfl ?_
  conv => whnf
  refine EvLoad.mk _ rfl _ rfl ?_
  conv => whnf
  refine EvNum.to _ (wrap_u8 _) ?_
  repeat ((conv => whnf); (first | (first | refine nowA ?_ | refine numN ?_ | refine numI ?_ | refine EvVal.ofN ?_ | refine EvNew.mk fun _ => ?_ | refine EvLoad.mk _ rfl _ rfl ?_ | refine divA ?_) | refine loadNA ?_ | refine EvStore.lit ⟨rfl, by decide⟩ (by rfl) ?_))
  refine EvStr.mk [UInt8.ofNat x.key.length] rfl rfl ?_
  repeat ((conv => whnf); (first | (first | refine nowA ?_ | refine numN ?_ | refine numI ?_ | refine EvVal.ofN ?_ | refine EvNew.mk fun _ => ?_ | refine EvLoad.mk _ rfl _ rfl ?_ | refine divA ?_) | refine loadNA ?_ | refine EvStore.lit ⟨rfl, by decide⟩ (by rfl) ?_))
  refine EvNow.mk (by simp; omega) ?_
  repeat ((conv => whnf); (first | (first | refine nowA ?_ | refine numN ?_ | refine numI ?_ | refine EvVal.ofN ?_ | refine EvNew.mk fun _ => ?_ | refine EvLoad.mk _ rfl _ rfl ?_ | refine divA ?_) | refine loadNA ?_ | refine EvStore.lit ⟨rfl, by decide⟩ (by rfl) ?_))
  refine EvPow.mk 256 (by decide) ?_
  refine EvVal.nat ?_
  conv => whnf
  refine EvNum.to _ (wrap_u8 _) ?_
  conv => whnf
  refine EvNum.to _ (wrap_u8 _) ?_
  repeat ((conv => whnf); (first | (first | refine nowA ?_ | refine numN ?_ | refine numI ?_ | refine EvVal.ofN ?_ | refine EvNew.mk fun _ => ?_ | refine EvLoad.mk _ rfl _ rfl ?_ | refine divA ?_) | refine loadNA ?_ | refine EvStore.lit ⟨rfl, by decide⟩ (by rfl) ?_))
  refine EvStr.mk (twoB m) rfl rfl ?_
  repeat ((conv => whnf); (first | (first | refine nowA ?_ | refine numN ?_ | refine numI ?_ | refine EvVal.ofN ?_ | refine EvNew.mk fun _ => ?_ | refine EvLoad.mk _ rfl _ rfl ?_ | refine divA ?_) | refine loadNA ?_ | refine EvStore.lit ⟨rfl, by decide⟩ (by rfl) ?_))
  refine EvNow.mk (by simp [twoB]; omega) ?_
  repeat ((conv => whnf); (first | (first | refine nowA ?_ | refine numN ?_ | refine numI ?_ | refine EvVal.ofN ?_ | refine EvNew.mk fun _ => ?_ | refine EvLoad.mk _ rfl _ rfl ?_ | refine divA ?_) | refine loadNA ?_ | refine EvStore.lit ⟨rfl, by decide⟩ (by rfl) ?_))
  refine EvNow.mk (by simp [twoB]; omega) ?_
  repeat ((conv => whnf); (first | (first | refine nowA ?_ | refine numN ?_ | refine numI ?_ | refine EvVal.ofN ?_ | refine EvNew.mk fun _ => ?_ | refine EvLoad.mk _ rfl _ rfl ?_ | refine divA ?_) | refine loadNA ?_ | refine EvStore.lit ⟨rfl, by decide⟩ (by rfl) ?_))
  refine EvSrc.mk 1 (strV [recE x]) (src_sl S_ok rfl rfl (by decide) 1 1 _ (by rw [hr]; rfl) (by simp) rfl) ?_
  refine EvApp.own ⟨rfl, rfl, rfl, by decide⟩ (by simp; omega) (allOne_strV _) (by omega) (n + 1) rfl ?_
  intro ao' c' hc'
  rw [← strV_append]
  repeat ((conv => whnf); (first | (first | refine nowA ?_ | refine numN ?_ | refine numI ?_ | refine EvVal.ofN ?_ | refine EvNew.mk fun _ => ?_ | refine EvLoad.mk _ rfl _ rfl ?_ | refine divA ?_) | refine loadNA ?_ | refine EvStore.lit ⟨rfl, by decide⟩ (by rfl) ?_))
  exact retA ⟨ao', c', hc', rfl, rfl⟩

/-- What Put answers. -/
theorem nput_spec (leaf : Bool) (l : List En) (ao : Option Addr) (n c : Nat) (hn : l.length = n) (hl : Lit l) (hn2 : n ≤ 9000) :
    Spec Try.prog 35 [.agg #[.bool leaf, .slice ao n c]] [.view ao 87 (entV l)]
      (fun v O => ((okN leaf l = false ∧ v = .tuple #[.string ⟨⟨[]⟩⟩, .int .i64 2]) ∨ (okN leaf l = true ∧ roomL (recsN leaf l) < 0 ∧ v = .tuple #[.string ⟨⟨[]⟩⟩, .int .i64 11]) ∨
        (okN leaf l = true ∧ 0 ≤ roomL (recsN leaf l) ∧ ∃ b, chk b = 0 ∧ recs b = recsN leaf l ∧ v = .tuple #[.string ⟨⟨b⟩⟩, .int .i64 0])) ∧ O = []) := by
  refine Spec.of_ev S_ok S_mixed Try.func35 rfl rfl ?_
  refine EvNew.mk fun q => ?_
  repeat ((conv => whnf); (first | (first | refine nowA ?_ | refine numN ?_ | refine numI ?_ | refine EvVal.ofN ?_ | refine EvNew.mk fun _ => ?_ | refine EvLoad.mk _ rfl _ rfl ?_ | refine divA ?_) | refine loadNA ?_ | refine EvStore.lit ⟨rfl, by decide⟩ (by rfl) ?_))
  refine EvCall.mk _ _ _ (may_spec leaf l ao n c hn hl (by omega)) (.view .nil sees_all) ?_
  rintro _ _ ⟨rfl, rfl⟩
  cases hok : okN leaf l
  · repeat ((conv => whnf); (first | (first | refine nowA ?_ | refine numN ?_ | refine numI ?_ | refine EvVal.ofN ?_ | refine EvNew.mk fun _ => ?_ | refine EvLoad.mk _ rfl _ rfl ?_ | refine divA ?_) | refine loadNA ?_ | refine EvStore.lit ⟨rfl, by decide⟩ (by rfl) ?_))
    refine EvIf.br (brT ?_)
    repeat ((conv => whnf); (first | (first | refine nowA ?_ | refine numN ?_ | refine numI ?_ | refine EvVal.ofN ?_ | refine EvNew.mk fun _ => ?_ | refine EvLoad.mk _ rfl _ rfl ?_ | refine divA ?_) | refine loadNA ?_ | refine EvStore.lit ⟨rfl, by decide⟩ (by rfl) ?_))
    exact EvRet.mk [] .nil rfl ⟨.inl ⟨rfl, rfl⟩, rfl⟩
  have hE := (okN_iff.1 hok).1
  repeat ((conv => whnf); (first | (first | refine nowA ?_ | refine numN ?_ | refine numI ?_ | refine EvVal.ofN ?_ | refine EvNew.mk fun _ => ?_ | refine EvLoad.mk _ rfl _ rfl ?_ | refine divA ?_) | refine loadNA ?_ | refine EvStore.lit ⟨rfl, by decide⟩ (by rfl) ?_))
  refine EvIf.br (brF ?_)
  repeat ((conv => whnf); (first | (first | refine nowA ?_ | refine numN ?_ | refine numI ?_ | refine EvVal.ofN ?_ | refine EvNew.mk fun _ => ?_ | refine EvLoad.mk _ rfl _ rfl ?_ | refine divA ?_) | refine loadNA ?_ | refine EvStore.lit ⟨rfl, by decide⟩ (by rfl) ?_))
  refine EvIf.cut (α := Unit) (fun _ => True) (fun _ => [(4, .string ⟨⟨kindB leaf⟩⟩)]) (fun _ => [.blk q 58 [.bool leaf, .slice ao n c], .view ao 87 (entV l)]) ?_ ?_
  · cases leaf
    · refine brF ?_
      repeat ((conv => whnf); (first | (first | refine nowA ?_ | refine numN ?_ | refine numI ?_ | refine EvVal.ofN ?_ | refine EvNew.mk fun _ => ?_ | refine EvLoad.mk _ rfl _ rfl ?_ | refine divA ?_) | refine loadNA ?_ | refine EvStore.lit ⟨rfl, by decide⟩ (by rfl) ?_))
      exact ⟨(), trivial, ⟨rfl, trivial⟩, rfl, .cons .here (.cons .here .nil)⟩
    · refine brT ?_
      repeat ((conv => whnf); (first | (first | refine nowA ?_ | refine numN ?_ | refine numI ?_ | refine EvVal.ofN ?_ | refine EvNew.mk fun _ => ?_ | refine EvLoad.mk _ rfl _ rfl ?_ | refine divA ?_) | refine loadNA ?_ | refine EvStore.lit ⟨rfl, by decide⟩ (by rfl) ?_))
      exact ⟨(), trivial, ⟨rfl, trivial⟩, rfl, .cons .here (.cons .here .nil)⟩
  intro _ _
  repeat ((conv => whnf); (first | (first | refine nowA ?_ | refine numN ?_ | refine numI ?_ | refine EvVal.ofN ?_ | refine EvNew.mk fun _ => ?_ | refine EvLoad.mk _ rfl _ rfl ?_ | refine divA ?_) | refine loadNA ?_ | refine EvStore.lit ⟨rfl, by decide⟩ (by rfl) ?_))
  rename_i b0 b
  refine EvLoop.mk (α := Nat × Option Addr × Nat) (fun x => x.1 ≤ n ∧ x.1 + 1 ≤ x.2.2) (fun x => n - x.1) (fun x => [(20, .int .i64 x.1)]) (fun x => [.blk b 30 [.slice x.2.1 (x.1 + 1) x.2.2], .row x.2.1 x.2.2 9 1 (strV (recsN leaf (l.take x.1))), .blk q 58 [.bool leaf, .slice ao n c], .view ao 87 (entV l)]) ?_ ?_
  · exact ⟨(0, some ⟨b0, 0, none⟩, 1), ⟨by omega, by dsimp only; omega⟩, ⟨rfl, trivial⟩, rfl, .cons .here (.cons .here (.cons .here (.cons .here .nil)))⟩
  rintro ⟨i, ap, cp⟩ ⟨hi, hcp⟩
  dsimp only at hi hcp ⊢
  repeat ((conv => whnf); (first | refine nowA ?_ | refine numN ?_ | refine numI ?_ | refine EvVal.ofN ?_ | refine EvNew.mk fun _ => ?_ | refine EvLoad.mk _ rfl _ rfl ?_ | refine divA ?_))
  refine EvIf.br (brD (fun hlt => ?_) (fun hge => ?_))
  · have hlt : i < l.length := by omega
    have hx := hl.get hlt
    have hxE := hE _ (getD_mem hlt)
    refine EvIdx.sl i rfl (by omega) (by rw [entV_length]; omega) ?_
    refine EvLoadN.mk (i * 3) rfl _ rfl (entV_get hlt) ?_
    refine EvNew.mk fun p => ?_
    repeat ((conv => whnf); (first | (first | refine nowA ?_ | refine numN ?_ | refine numI ?_ | refine EvVal.ofN ?_ | refine EvNew.mk fun _ => ?_ | refine EvLoad.mk _ rfl _ rfl ?_ | refine divA ?_) | refine loadNA ?_ | refine EvStore.lit ⟨rfl, by decide⟩ (by rfl) ?_))
    refine EvCall.mk _ _ _ (putx_spec (l.getD i d0) b (recsN leaf (l.take i)) ap (i + 1) cp (by simp [recsN]; omega) (by omega) hx ⟨by have := hxE.2.2.1; split at this <;> omega, hxE.2.2.2.1⟩) (.own (.there .here) rfl (.own (.there .here) rfl .nil)) ?_
    rintro _ _ ⟨a', c', hc', rfl, rfl⟩
    repeat ((conv => whnf); (first | (first | refine nowA ?_ | refine numN ?_ | refine numI ?_ | refine EvVal.ofN ?_ | refine EvNew.mk fun _ => ?_ | refine EvLoad.mk _ rfl _ rfl ?_ | refine divA ?_) | refine loadNA ?_ | refine EvStore.lit ⟨rfl, by decide⟩ (by rfl) ?_))
    have e : recsN leaf (l.take (i + 1)) = recsN leaf (l.take i) ++ [recE (l.getD i d0)] := by
      simp only [recsN, take_succ_getD hlt d0, List.map_append, List.map_cons, List.map_nil, List.cons_append]
    rw [← e]
    exact metA (i + 1, a', c') ⟨⟨by dsimp only; omega, hc'⟩, by dsimp only; omega⟩
  · have e : i = n := by omega
    subst e
    have e2 : l.take i = l := by rw [← hn, List.take_length]
    rw [e2]
    have hlen : ∀ r ∈ recsN leaf l, r.length ≤ 10000 := by
      intro r hr
      simp only [recsN, List.mem_cons, List.mem_map] at hr
      rcases hr with rfl | ⟨x, hx, rfl⟩
      · cases leaf <;> decide
      · have := hE x hx
        rw [recE_length]
        have h1 := this.1
        have h2 := this.2.1
        omega
    repeat ((conv => whnf); (first | (first | refine nowA ?_ | refine numN ?_ | refine numI ?_ | refine EvVal.ofN ?_ | refine EvNew.mk fun _ => ?_ | refine EvLoad.mk _ rfl _ rfl ?_ | refine divA ?_) | refine loadNA ?_ | refine EvStore.lit ⟨rfl, by decide⟩ (by rfl) ?_))
    refine EvCall.mk _ _ _ (of_spec (recsN leaf l) ap (i + 1) cp (by simp [recsN]; omega) hlen (by omega)) (.view .nil sees_all) ?_
    rintro _ _ ⟨hv, rfl⟩
    rcases hv with ⟨h0, rfl⟩ | ⟨h0, b2, hb, hbr, rfl⟩
    · repeat ((conv => whnf); (first | (first | refine nowA ?_ | refine numN ?_ | refine numI ?_ | refine EvVal.ofN ?_ | refine EvNew.mk fun _ => ?_ | refine EvLoad.mk _ rfl _ rfl ?_ | refine divA ?_) | refine loadNA ?_ | refine EvStore.lit ⟨rfl, by decide⟩ (by rfl) ?_))
      exact EvRet.mk [] .nil rfl ⟨.inr (.inl ⟨rfl, h0, rfl⟩), rfl⟩
    · repeat ((conv => whnf); (first | (first | refine nowA ?_ | refine numN ?_ | refine numI ?_ | refine EvVal.ofN ?_ | refine EvNew.mk fun _ => ?_ | refine EvLoad.mk _ rfl _ rfl ?_ | refine divA ?_) | refine loadNA ?_ | refine EvStore.lit ⟨rfl, by decide⟩ (by rfl) ?_))
      exact EvRet.mk [] .nil rfl ⟨.inr (.inr ⟨rfl, h0, b2, hb, hbr, rfl⟩), rfl⟩
end Go.Proofs.Ytloknkdomgeolaa.She
