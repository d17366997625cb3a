/- The walks of the functions of node: the same nodes, halves. -/
import Derived.Test.YtloknkdomgeolaaNdD
namespace Go.Proofs.Ytloknkdomgeolaa.She
set_option linter.all false
open Go
set_option pp.maxSteps 600
set_option maxRecDepth 10000
set_option maxHeartbeats 4000000

/-- Where Halves parts: how far apart the halves are, at most as far as anywhere. -/
def apartN (l : List En) (i : Nat) : Nat := (2 * (bytL (l.take i) : Int) - bytL l).natAbs
def Best (l : List En) (at_ : Nat) : Prop := (2 ≤ l.length → 1 ≤ at_ ∧ at_ < l.length ∧ ∀ i, 1 ≤ i → i < l.length → apartN l at_ ≤ apartN l i ∧ (i < at_ → apartN l at_ < apartN l i)) ∧ (l.length < 2 → at_ = l.length)

theorem halves_spec (leaf : Bool) (l : List En) (ao : Option Addr) (n c : Nat) (hn : l.length = n) (hl : Lit l) (hn2 : n ≤ 9000) (hc : n ≤ c) :
    Spec Try.prog 45 [.agg #[.bool leaf, .slice ao n c]] [.view ao 87 (entV l)]
      (fun v O => ∃ at_ a1 c1 a2 c2, Best l at_ ∧ at_ ≤ n ∧ at_ ≤ c1 ∧ n - at_ ≤ c2 ∧ v = .tuple #[.agg #[.bool leaf, .slice a1 at_ c1], .agg #[.bool leaf, .slice a2 (n - at_) c2]] ∧
        O = [.row a1 c1 87 3 (entV (l.take at_)), .row a2 c2 87 3 (entV (l.drop at_))]) := by
  have hb := hl.byt
  rw [hn] at hb
  have hb2 : n * 20007 ≤ 9000 * 20007 := Nat.mul_le_mul_right _ hn2
  refine Spec.of_ev S_ok S_mixed Try.func45 rfl rfl ?_
  refine EvNew.mk fun p => ?_
  refine EvNew.mk fun q1 => ?_
  refine EvNew.mk fun q2 => ?_
  repeat ((conv => whnf); (first | (first | refine nowA ?_ | refine numN ?_ | refine numI ?_ | refine EvVal.ofN ?_ | refine EvNew.mk fun _ => ?_ | refine EvLoad.mk _ rfl _ rfl ?_ | refine divA ?_) | refine loadNA ?_ | refine EvStore.lit ⟨rfl, by decide⟩ (by rfl) ?_))
  refine callA (bytes_spec l ao n c hn (by omega) hl) ?_
  rintro _ _ ⟨rfl, rfl⟩
  repeat ((conv => whnf); (first | (first | refine nowA ?_ | refine numN ?_ | refine numI ?_ | refine EvVal.ofN ?_ | refine EvNew.mk fun _ => ?_ | refine EvLoad.mk _ rfl _ rfl ?_ | refine divA ?_) | refine loadNA ?_ | refine EvStore.lit ⟨rfl, by decide⟩ (by rfl) ?_))
  refine EvDraw.mk (.take 0 (.take 4 (.early [1,2,3,5] .nil))) (by kernel_rfl) ?_
  repeat ((conv => whnf); (first | (first | refine nowA ?_ | refine numN ?_ | refine numI ?_ | refine EvVal.ofN ?_ | refine EvNew.mk fun _ => ?_ | refine EvLoad.mk _ rfl _ rfl ?_ | refine divA ?_) | refine loadNA ?_ | refine EvStore.lit ⟨rfl, by decide⟩ (by rfl) ?_))
  refine EvVal.eq ((min 1 n : Nat) : Int) (by split <;> omega) ?_
  repeat ((conv => whnf); (first | (first | refine nowA ?_ | refine numN ?_ | refine numI ?_ | refine EvVal.ofN ?_ | refine EvNew.mk fun _ => ?_ | refine EvLoad.mk _ rfl _ rfl ?_ | refine divA ?_) | refine loadNA ?_ | refine EvStore.lit ⟨rfl, by decide⟩ (by rfl) ?_))
  refine EvLoop.mk (α := Nat × Nat × Int) (fun x => 1 ≤ x.1 ∧ (x.1 ≤ n ∨ n = 0 ∧ x.1 = 1) ∧ (x.1 = 1 ∧ x.2.1 = min 1 n ∧ x.2.2 = -1 ∨ 1 < x.1 ∧ 1 ≤ x.2.1 ∧ x.2.1 < x.1 ∧ x.2.2 = (apartN l x.2.1 : Nat) ∧ ∀ i, 1 ≤ i → i < x.1 → apartN l x.2.1 ≤ apartN l i ∧ (i < x.2.1 → apartN l x.2.1 < apartN l i)))
    (fun x => n - x.1) (fun x => [(8, .int .i64 x.1), (6, .int .i64 x.2.1), (5, .int .i64 x.2.2), (7, .int .i64 (bytL (l.take (x.1 - 1))))])
    (fun _ => [.blk p 58 [.bool leaf, .slice ao n c], .blk q1 58 [.bool false, .slice none 0 0], .blk q2 58 [.bool false, .slice none 0 0], .view ao 87 (entV l)]) ?_ ?_
  · refine metA (1, min 1 n, -1) ⟨by dsimp only; omega, by dsimp only; omega, .inl ⟨rfl, rfl, rfl⟩⟩ ⟨rfl, rfl, rfl, ?_, trivial⟩
    simp [bytL, sumL, getF]
  rintro ⟨i, at_, best⟩ ⟨h1, h2, hinv⟩
  dsimp only at h1 h2 hinv ⊢
  repeat ((conv => whnf); (first | (first | refine nowA ?_ | refine numN ?_ | refine numI ?_ | refine EvVal.ofN ?_ | refine EvNew.mk fun _ => ?_ | refine EvLoad.mk _ rfl _ rfl ?_ | refine divA ?_) | refine loadNA ?_ | refine EvStore.lit ⟨rfl, by decide⟩ (by rfl) ?_))
  refine EvIf.br (brD (fun hlt => ?_) (fun hge => ?_))
  · have hlt : i < l.length := by omega
    have hi1 : i - 1 < l.length := by omega
    have et : bytL (l.take i) = bytL (l.take (i - 1)) + bytE (l.getD (i - 1) d0) := by
      have := take_succ_getD hi1 d0
      rw [show i - 1 + 1 = i by omega] at this
      rw [this, bytL_append, bytL_one]
    have hle := bytL_take_le l i
    have hap : ((apartN l i : Nat) : Int) = if (bytL l : Int) - (bytL (l.take i) : Int) - (bytL (l.take i) : Int) > (bytL (l.take i) : Int) - ((bytL l : Int) - (bytL (l.take i) : Int)) then (bytL l : Int) - (bytL (l.take i) : Int) - (bytL (l.take i) : Int) else (bytL (l.take i) : Int) - ((bytL l : Int) - (bytL (l.take i) : Int)) := by
      unfold apartN; split <;> omega
    repeat ((conv => whnf); (first | (first | refine nowA ?_ | refine numN ?_ | refine numI ?_ | refine EvVal.ofN ?_ | refine EvNew.mk fun _ => ?_ | refine EvLoad.mk _ rfl _ rfl ?_ | refine divA ?_) | refine loadNA ?_ | refine EvStore.lit ⟨rfl, by decide⟩ (by rfl) ?_))
    refine EvVal.eq (i - 1) (by omega) ?_
    conv => whnf
    refine EvVal.rfl ?_
    conv => whnf
    refine EvVal.eq 1 (by omega) ?_
    refine EvCall.mk _ _ _ (bytes_spec [l.getD (i - 1) d0] _ 1 _ rfl (by omega) (hl.sub (by intro x hx; simp at hx; subst hx; exact getD_mem hi1))) (.view .nil (sees_sub ((i - 1) * 3) _ (entV [l.getD (i - 1) d0]) (fun h => by have := of_decide_eq_true h; omega) (by rw [entV_length]; exact entV_get hi1))) ?_
    rintro _ _ ⟨rfl, rfl⟩
    rw [bytL_one]
    conv => whnf
    refine EvNow.mk rfl ?_
    refine EvNum.fit ((bytL (l.take i) : Nat) : Int) (by omega) (fit_i64 (by omega) (by omega)) ?_
    repeat ((conv => whnf); (first | (first | refine nowA ?_ | refine numN ?_ | refine numI ?_ | refine EvVal.ofN ?_ | refine EvNew.mk fun _ => ?_ | refine EvLoad.mk _ rfl _ rfl ?_ | refine divA ?_) | refine loadNA ?_ | refine EvStore.lit ⟨rfl, by decide⟩ (by rfl) ?_))
    refine EvVal.eq ((apartN l i : Nat) : Int) hap.symm ?_
    repeat ((conv => whnf); (first | (first | refine nowA ?_ | refine numN ?_ | refine numI ?_ | refine EvVal.ofN ?_ | refine EvNew.mk fun _ => ?_ | refine EvLoad.mk _ rfl _ rfl ?_ | refine divA ?_) | refine loadNA ?_ | refine EvStore.lit ⟨rfl, by decide⟩ (by rfl) ?_))
    refine EvCut.direct ?_
    rcases hinv with ⟨rfl, rfl, rfl⟩ | ⟨hi2, ha1, ha2, rfl, hbest⟩
    · have hneg : (-1 : Int) < 0 := by decide
      repeat ((conv => whnf); (first | (first | (first | refine nowA ?_ | refine numN ?_ | refine numI ?_ | refine EvVal.ofN ?_ | refine EvNew.mk fun _ => ?_ | refine EvLoad.mk _ rfl _ rfl ?_ | refine divA ?_) | refine loadNA ?_ | refine EvStore.lit ⟨rfl, by decide⟩ (by rfl) ?_) | (first | refine brT ?_ | refine brF ?_ | refine iteT ?_ | refine iteF ?_)))
      refine EvIf.br (brT ?_)
      repeat ((conv => whnf); (first | (first | (first | refine nowA ?_ | refine numN ?_ | refine numI ?_ | refine EvVal.ofN ?_ | refine EvNew.mk fun _ => ?_ | refine EvLoad.mk _ rfl _ rfl ?_ | refine divA ?_) | refine loadNA ?_ | refine EvStore.lit ⟨rfl, by decide⟩ (by rfl) ?_) | (first | refine brT ?_ | refine brF ?_ | refine iteT ?_ | refine iteF ?_)))
      refine metA (1 + 1, 1, (apartN l 1 : Nat)) ⟨⟨by dsimp only; omega, by dsimp only; omega, .inr ⟨by dsimp only; omega, by dsimp only; omega, by dsimp only; omega, rfl, fun j hj1 hj2 => ?_⟩⟩, by dsimp only; omega⟩
      have : j = 1 := by dsimp only at hj2; omega
      subst this
      exact ⟨Nat.le_refl _, fun h => by dsimp only at h; omega⟩
    · have hneg : ¬ ((apartN l at_ : Nat) : Int) < 0 := by omega
      by_cases hcmp : ((apartN l i : Nat) : Int) < ((apartN l at_ : Nat) : Int)
      · repeat ((conv => whnf); (first | (first | (first | refine nowA ?_ | refine numN ?_ | refine numI ?_ | refine EvVal.ofN ?_ | refine EvNew.mk fun _ => ?_ | refine EvLoad.mk _ rfl _ rfl ?_ | refine divA ?_) | refine loadNA ?_ | refine EvStore.lit ⟨rfl, by decide⟩ (by rfl) ?_) | (first | refine brT ?_ | refine brF ?_ | refine iteT ?_ | refine iteF ?_)))
        refine EvIf.br (brT ?_)
        repeat ((conv => whnf); (first | (first | (first | refine nowA ?_ | refine numN ?_ | refine numI ?_ | refine EvVal.ofN ?_ | refine EvNew.mk fun _ => ?_ | refine EvLoad.mk _ rfl _ rfl ?_ | refine divA ?_) | refine loadNA ?_ | refine EvStore.lit ⟨rfl, by decide⟩ (by rfl) ?_) | (first | refine brT ?_ | refine brF ?_ | refine iteT ?_ | refine iteF ?_)))
        refine metA (i + 1, i, (apartN l i : Nat)) ⟨⟨by dsimp only; omega, by dsimp only; omega, .inr ⟨by dsimp only; omega, h1, by dsimp only; omega, rfl, fun j hj1 hj2 => ?_⟩⟩, by dsimp only; omega⟩
        dsimp only at hj2 ⊢
        by_cases hji : j = i
        · subst hji; exact ⟨Nat.le_refl _, fun h => by omega⟩
        · have := (hbest j hj1 (by omega)).1
          exact ⟨by omega, fun _ => by omega⟩
      · repeat ((conv => whnf); (first | (first | (first | refine nowA ?_ | refine numN ?_ | refine numI ?_ | refine EvVal.ofN ?_ | refine EvNew.mk fun _ => ?_ | refine EvLoad.mk _ rfl _ rfl ?_ | refine divA ?_) | refine loadNA ?_ | refine EvStore.lit ⟨rfl, by decide⟩ (by rfl) ?_) | (first | refine brT ?_ | refine brF ?_ | refine iteT ?_ | refine iteF ?_)))
        refine EvIf.br (brF ?_)
        repeat ((conv => whnf); (first | (first | (first | refine nowA ?_ | refine numN ?_ | refine numI ?_ | refine EvVal.ofN ?_ | refine EvNew.mk fun _ => ?_ | refine EvLoad.mk _ rfl _ rfl ?_ | refine divA ?_) | refine loadNA ?_ | refine EvStore.lit ⟨rfl, by decide⟩ (by rfl) ?_) | (first | refine brT ?_ | refine brF ?_ | refine iteT ?_ | refine iteF ?_)))
        refine metA (i + 1, at_, (apartN l at_ : Nat)) ⟨⟨by dsimp only; omega, by dsimp only; omega, .inr ⟨by dsimp only; omega, ha1, by dsimp only; omega, rfl, fun j hj1 hj2 => ?_⟩⟩, by dsimp only; omega⟩
        dsimp only at hj2 ⊢
        by_cases hji : j = i
        · subst hji; exact ⟨by omega, fun h => by omega⟩
        · exact hbest j hj1 (by omega)
  · have hat : at_ ≤ n ∧ Best l at_ := by
      rcases hinv with ⟨h3, rfl, _⟩ | ⟨hi2, ha1, ha2, _, hbest⟩
      · refine ⟨by omega, fun h => by omega, fun h => by omega⟩
      · refine ⟨by omega, fun h => ⟨ha1, by omega, fun j hj1 hj2 => hbest j hj1 (by omega)⟩, fun h => by omega⟩
    obtain ⟨hat, hbst⟩ := hat
    clear hinv
    conv => whnf
    refine EvDraw.cut (α := Option Addr × Nat × Option Addr × Nat) (fun x => at_ ≤ x.2.1 ∧ n - at_ ≤ x.2.2.2) (fun _ => [])
      (fun x => [.blk q1 58 [.bool leaf, .slice x.1 at_ x.2.1], .blk q2 58 [.bool leaf, .slice x.2.2.1 (n - at_) x.2.2.2], .row x.1 x.2.1 87 3 (entV (l.take at_)), .row x.2.2.1 x.2.2.2 87 3 (entV (l.drop at_))])
      (.take 0 (.take 2 (.take 4 (.take 5 (.take 9 (.take 11 (.take 13 (.early [1,3,6,12,14] (.two 7 (.take 8 (.two 10 (.eff 15 (.take 16 (.eff 17 (.eff 18 .nil)))) 15 (.two 10 (.take 16 (.eff 17 (.eff 18 .nil))) 17 (.early [10] (.take 16 (.eff 18 .nil)))))) 10 (.eff 7 (.take 8 (.eff 15 (.take 16 (.eff 17 (.eff 18 .nil))))))))))))))) (by kernel_rfl) ?_ ?_
    · repeat ((conv => whnf); (first | (first | refine nowA ?_ | refine numN ?_ | refine numI ?_ | refine EvVal.ofN ?_ | refine EvNew.mk fun _ => ?_ | refine EvLoad.mk _ rfl _ rfl ?_ | refine divA ?_) | refine loadNA ?_ | refine EvStore.lit ⟨rfl, by decide⟩ (by rfl) ?_))
      refine EvVal.rfl ?_
      conv => whnf
      refine EvVal.rfl ?_
      repeat' ((try (conv => whnf)); (first | (refine metA (_, _, _, _) ⟨?_, ?_⟩ <;> assumption) | refine And.intro ?_ ?_ | (refine EvSrc.mk at_ (entV (l.take at_)) (src_sl S_ok rfl rfl (by decide) at_ at_ _ (entV_take l at_) (by rw [entV_length]; omega) (allOne_entV _)) ?_; refine EvApp.nil ⟨rfl, rfl, rfl⟩ (by decide) (by omega) ?_; intro _ _ _) | (refine EvSrc.mk (n - at_) (entV (l.drop at_)) (src_sub S_ok rfl rfl (by decide) (at_ * 3) _ _ _ (fun h => by have := of_decide_eq_true h; omega) _ (by rw [entV_sub, List.take_of_length_le (by simp; omega)]) (by rw [entV_length]; omega) (allOne_entV _)) ?_; refine EvApp.nil ⟨rfl, rfl, rfl⟩ (by decide) (by omega) ?_; intro _ _ _) | (first | (first | refine nowA ?_ | refine numN ?_ | refine numI ?_ | refine EvVal.ofN ?_ | refine EvNew.mk fun _ => ?_ | refine EvLoad.mk _ rfl _ rfl ?_ | refine divA ?_) | refine loadNA ?_ | refine EvStore.lit ⟨rfl, by decide⟩ (by rfl) ?_)))
    rintro ⟨a1, c1, a2, c2⟩ ⟨hc1, hc2⟩
    repeat ((conv => whnf); (first | (first | refine nowA ?_ | refine numN ?_ | refine numI ?_ | refine EvVal.ofN ?_ | refine EvNew.mk fun _ => ?_ | refine EvLoad.mk _ rfl _ rfl ?_ | refine divA ?_) | refine loadNA ?_ | refine EvStore.lit ⟨rfl, by decide⟩ (by rfl) ?_))
    exact retA ⟨at_, a1, c1, a2, c2, hbst, hat, hc1, hc2, rfl, rfl⟩
end Go.Proofs.Ytloknkdomgeolaa.She
