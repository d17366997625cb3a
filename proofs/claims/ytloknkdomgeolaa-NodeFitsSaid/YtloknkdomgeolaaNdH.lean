/- The laws of nodes, walked. -/
import Derived.Test.YtloknkdomgeolaaNdG
import Derived.Test.YtloknkdomgeolaaSlI
namespace Go.Proofs.Ytloknkdomgeolaa.She
set_option linter.all false
open Go
set_option pp.maxSteps 600
set_option maxRecDepth 10000
set_option maxHeartbeats 4000000

theorem same_self (lf : Bool) (l : List En) : (lf == lf && decide (l = l)) = true := by cases lf <;> simp

theorem nodeGets_spec (b : List UInt8) (hb : b.length < 9223372036854775807) : Spec Try.prog 9 [.string ⟨⟨b⟩⟩] [] (fun v O => v = .bool true ∧ O = []) := by
  refine Spec.of_ev S_ok S_mixed Try.func9 rfl rfl ?_
  repeat ((conv => whnf); (first | (first | refine nowA ?_ | refine numN ?_ | refine numI ?_ | refine EvVal.ofN ?_ | refine EvNew.mk fun _ => ?_ | refine EvLoad.mk _ rfl _ rfl ?_ | refine divA ?_) | refine loadNA ?_ | refine EvStore.lit ⟨rfl, by decide⟩ (by rfl) ?_))
  refine EvIf.br (brD (fun h => ?_) (fun h => ?_))
  · refine callA awake18_spec ?_
    rintro _ _ ⟨rfl, rfl⟩
    repeat ((conv => whnf); (first | (first | refine nowA ?_ | refine numN ?_ | refine numI ?_ | refine EvVal.ofN ?_ | refine EvNew.mk fun _ => ?_ | refine EvLoad.mk _ rfl _ rfl ?_ | refine divA ?_) | refine loadNA ?_ | refine EvStore.lit ⟨rfl, by decide⟩ (by rfl) ?_))
    exact retA ⟨rfl, rfl⟩
  refine callA (nget_spec b hb) ?_
  rintro _ _ ⟨a1, c1, hc1, rfl, rfl⟩
  by_cases h0 : chk b = 0
  · obtain ⟨hn, hlens⟩ := recs_len h0
    have hrl : ∀ l : List En, l = (recs b).tail.map parE → l.length ≤ 9000 := fun l hl => by rw [hl]; simp; omega
    cases hr : readB (recs b)
    · have hg : gotN b = (false, [], 14) := by unfold gotN; rw [if_pos h0, hr]; rfl
      have hR : readR (recs b) = (false, [], false) := by unfold readR; rw [hr]; rfl
      rw [hg]
      repeat ((conv => whnf); (first | (first | refine nowA ?_ | refine numN ?_ | refine numI ?_ | refine EvVal.ofN ?_ | refine EvNew.mk fun _ => ?_ | refine EvLoad.mk _ rfl _ rfl ?_ | refine divA ?_) | refine loadNA ?_ | refine EvStore.lit ⟨rfl, by decide⟩ (by rfl) ?_))
      refine callA (rchk_spec b hb) ?_
      rintro _ _ ⟨rfl, rfl⟩
      rw [h0]
      repeat ((conv => whnf); (first | (first | refine nowA ?_ | refine numN ?_ | refine numI ?_ | refine EvVal.ofN ?_ | refine EvNew.mk fun _ => ?_ | refine EvLoad.mk _ rfl _ rfl ?_ | refine divA ?_) | refine loadNA ?_ | refine EvStore.lit ⟨rfl, by decide⟩ (by rfl) ?_))
      refine EvIf.br (brF ?_)
      repeat ((conv => whnf); (first | (first | refine nowA ?_ | refine numN ?_ | refine numI ?_ | refine EvVal.ofN ?_ | refine EvNew.mk fun _ => ?_ | refine EvLoad.mk _ rfl _ rfl ?_ | refine divA ?_) | refine loadNA ?_ | refine EvStore.lit ⟨rfl, by decide⟩ (by rfl) ?_))
      refine callA (rall_spec b h0) ?_
      rintro _ _ ⟨a2, c2, hc2, rfl, rfl⟩
      repeat ((conv => whnf); (first | (first | refine nowA ?_ | refine numN ?_ | refine numI ?_ | refine EvVal.ofN ?_ | refine EvNew.mk fun _ => ?_ | refine EvLoad.mk _ rfl _ rfl ?_ | refine divA ?_) | refine loadNA ?_ | refine EvStore.lit ⟨rfl, by decide⟩ (by rfl) ?_))
      refine callA (read18_spec (recs b) a2 _ c2 rfl hn hlens) ?_
      rintro _ _ ⟨a3, c3, hc3, rfl, rfl⟩
      rw [hR]
      repeat ((conv => whnf); (first | (first | refine nowA ?_ | refine numN ?_ | refine numI ?_ | refine EvVal.ofN ?_ | refine EvNew.mk fun _ => ?_ | refine EvLoad.mk _ rfl _ rfl ?_ | refine divA ?_) | refine loadNA ?_ | refine EvStore.lit ⟨rfl, by decide⟩ (by rfl) ?_))
      refine EvIf.br (brT ?_)
      repeat ((conv => whnf); (first | (first | refine nowA ?_ | refine numN ?_ | refine numI ?_ | refine EvVal.ofN ?_ | refine EvNew.mk fun _ => ?_ | refine EvLoad.mk _ rfl _ rfl ?_ | refine divA ?_) | refine loadNA ?_ | refine EvStore.lit ⟨rfl, by decide⟩ (by rfl) ?_))
      refine EvCut.direct ?_
      refine callA awake18_spec ?_
      rintro _ _ ⟨rfl, rfl⟩
      repeat ((conv => whnf); (first | (first | (first | refine nowA ?_ | refine numN ?_ | refine numI ?_ | refine EvVal.ofN ?_ | refine EvNew.mk fun _ => ?_ | refine EvLoad.mk _ rfl _ rfl ?_ | refine divA ?_) | refine loadNA ?_ | refine EvStore.lit ⟨rfl, by decide⟩ (by rfl) ?_) | (first | refine brT ?_ | refine brF ?_ | refine iteT ?_ | refine iteF ?_)))
      refine EvCall.mk _ _ _ (of18_spec false [] a1 0 c1 rfl (by decide)) (.view .nil sees_nil) ?_
      rintro _ _ ⟨a4, c4, hc4, rfl, rfl⟩
      repeat ((conv => whnf); (first | (first | (first | refine nowA ?_ | refine numN ?_ | refine numI ?_ | refine EvVal.ofN ?_ | refine EvNew.mk fun _ => ?_ | refine EvLoad.mk _ rfl _ rfl ?_ | refine divA ?_) | refine loadNA ?_ | refine EvStore.lit ⟨rfl, by decide⟩ (by rfl) ?_) | (first | refine brT ?_ | refine brF ?_ | refine iteT ?_ | refine iteF ?_)))
      refine EvCall.mk _ _ _ (same18_spec false false [] [] a4 none 0 c4 0 0 rfl rfl (by decide) (by decide)) (.view (.view .nil sees_nil) sees_nil) ?_
      rintro _ _ ⟨rfl, rfl⟩
      rw [same_self]
      repeat ((conv => whnf); (first | (first | (first | refine nowA ?_ | refine numN ?_ | refine numI ?_ | refine EvVal.ofN ?_ | refine EvNew.mk fun _ => ?_ | refine EvLoad.mk _ rfl _ rfl ?_ | refine divA ?_) | refine loadNA ?_ | refine EvStore.lit ⟨rfl, by decide⟩ (by rfl) ?_) | (first | refine brT ?_ | refine brF ?_ | refine iteT ?_ | refine iteF ?_)))
      exact retA ⟨rfl, rfl⟩
    · have hg : gotN b = (decide ((recs b).getD 0 [] = [1]), (recs b).tail.map parE, 0) := by unfold gotN; rw [if_pos h0, if_pos hr]
      have hR : readR (recs b) = (decide ((recs b).getD 0 [] = [1]), (recs b).tail.map parE, true) := by unfold readR; rw [if_pos hr]
      rw [hg] at hc1 ⊢
      generalize hlf : decide ((recs b).getD 0 [] = [1]) = lf at *
      generalize hl : (recs b).tail.map parE = l at *
      have hll : l.length ≤ 9000 := by rw [← hl]; simp; omega
      repeat ((conv => whnf); (first | (first | refine nowA ?_ | refine numN ?_ | refine numI ?_ | refine EvVal.ofN ?_ | refine EvNew.mk fun _ => ?_ | refine EvLoad.mk _ rfl _ rfl ?_ | refine divA ?_) | refine loadNA ?_ | refine EvStore.lit ⟨rfl, by decide⟩ (by rfl) ?_))
      refine callA (rchk_spec b hb) ?_
      rintro _ _ ⟨rfl, rfl⟩
      rw [h0]
      repeat ((conv => whnf); (first | (first | refine nowA ?_ | refine numN ?_ | refine numI ?_ | refine EvVal.ofN ?_ | refine EvNew.mk fun _ => ?_ | refine EvLoad.mk _ rfl _ rfl ?_ | refine divA ?_) | refine loadNA ?_ | refine EvStore.lit ⟨rfl, by decide⟩ (by rfl) ?_))
      refine EvIf.br (brF ?_)
      repeat ((conv => whnf); (first | (first | refine nowA ?_ | refine numN ?_ | refine numI ?_ | refine EvVal.ofN ?_ | refine EvNew.mk fun _ => ?_ | refine EvLoad.mk _ rfl _ rfl ?_ | refine divA ?_) | refine loadNA ?_ | refine EvStore.lit ⟨rfl, by decide⟩ (by rfl) ?_))
      refine callA (rall_spec b h0) ?_
      rintro _ _ ⟨a2, c2, hc2, rfl, rfl⟩
      repeat ((conv => whnf); (first | (first | refine nowA ?_ | refine numN ?_ | refine numI ?_ | refine EvVal.ofN ?_ | refine EvNew.mk fun _ => ?_ | refine EvLoad.mk _ rfl _ rfl ?_ | refine divA ?_) | refine loadNA ?_ | refine EvStore.lit ⟨rfl, by decide⟩ (by rfl) ?_))
      refine callA (read18_spec (recs b) a2 _ c2 rfl hn hlens) ?_
      rintro _ _ ⟨a3, c3, hc3, rfl, rfl⟩
      rw [hR]
      repeat ((conv => whnf); (first | (first | refine nowA ?_ | refine numN ?_ | refine numI ?_ | refine EvVal.ofN ?_ | refine EvNew.mk fun _ => ?_ | refine EvLoad.mk _ rfl _ rfl ?_ | refine divA ?_) | refine loadNA ?_ | refine EvStore.lit ⟨rfl, by decide⟩ (by rfl) ?_))
      refine EvIf.br (brF ?_)
      repeat ((conv => whnf); (first | (first | refine nowA ?_ | refine numN ?_ | refine numI ?_ | refine EvVal.ofN ?_ | refine EvNew.mk fun _ => ?_ | refine EvLoad.mk _ rfl _ rfl ?_ | refine divA ?_) | refine loadNA ?_ | refine EvStore.lit ⟨rfl, by decide⟩ (by rfl) ?_))
      refine EvCut.direct ?_
      refine EvDraw.mk (.eff 0 (.take 1 (.take 2 (.take 3 (.take 4 (.take 5 (.two 6 (.two 7 (.eff 8 (.eff 9 (.take 10 (.take 11 .nil)))) 8 (.eff 7 (.eff 9 (.take 10 (.take 11 .nil))))) 8 (.eff 6 (.eff 7 (.eff 9 (.take 10 (.take 11 .nil)))))))))))) (by kernel_rfl) ?_
      refine callA awake18_spec ?_
      rintro _ _ ⟨rfl, rfl⟩
      repeat ((conv => whnf); (first | (first | (first | refine nowA ?_ | refine numN ?_ | refine numI ?_ | refine EvVal.ofN ?_ | refine EvNew.mk fun _ => ?_ | refine EvLoad.mk _ rfl _ rfl ?_ | refine divA ?_) | refine loadNA ?_ | refine EvStore.lit ⟨rfl, by decide⟩ (by rfl) ?_) | (first | refine brT ?_ | refine brF ?_ | refine iteT ?_ | refine iteF ?_)))
      refine And.intro ?_ ?_
      · repeat ((conv => whnf); (first | (first | (first | refine nowA ?_ | refine numN ?_ | refine numI ?_ | refine EvVal.ofN ?_ | refine EvNew.mk fun _ => ?_ | refine EvLoad.mk _ rfl _ rfl ?_ | refine divA ?_) | refine loadNA ?_ | refine EvStore.lit ⟨rfl, by decide⟩ (by rfl) ?_) | (first | refine brT ?_ | refine brF ?_ | refine iteT ?_ | refine iteF ?_)))
        refine And.intro ?_ ?_
        · repeat ((conv => whnf); (first | (first | (first | refine nowA ?_ | refine numN ?_ | refine numI ?_ | refine EvVal.ofN ?_ | refine EvNew.mk fun _ => ?_ | refine EvLoad.mk _ rfl _ rfl ?_ | refine divA ?_) | refine loadNA ?_ | refine EvStore.lit ⟨rfl, by decide⟩ (by rfl) ?_) | (first | refine brT ?_ | refine brF ?_ | refine iteT ?_ | refine iteF ?_)))
          refine callA (of18_spec lf l a1 l.length c1 rfl (by omega)) ?_
          rintro _ _ ⟨a4, c4, hc4, rfl, rfl⟩
          repeat ((conv => whnf); (first | (first | (first | refine nowA ?_ | refine numN ?_ | refine numI ?_ | refine EvVal.ofN ?_ | refine EvNew.mk fun _ => ?_ | refine EvLoad.mk _ rfl _ rfl ?_ | refine divA ?_) | refine loadNA ?_ | refine EvStore.lit ⟨rfl, by decide⟩ (by rfl) ?_) | (first | refine brT ?_ | refine brF ?_ | refine iteT ?_ | refine iteF ?_)))
          refine callA (same18_spec lf lf l l a4 a3 l.length c4 l.length c3 rfl rfl (by omega) (by omega)) ?_
          rintro _ _ ⟨rfl, rfl⟩
          rw [same_self]
          repeat ((conv => whnf); (first | (first | (first | refine nowA ?_ | refine numN ?_ | refine numI ?_ | refine EvVal.ofN ?_ | refine EvNew.mk fun _ => ?_ | refine EvLoad.mk _ rfl _ rfl ?_ | refine divA ?_) | refine loadNA ?_ | refine EvStore.lit ⟨rfl, by decide⟩ (by rfl) ?_) | (first | refine brT ?_ | refine brF ?_ | refine iteT ?_ | refine iteF ?_)))
          exact retA ⟨rfl, rfl⟩
        · repeat ((conv => whnf); (first | (first | (first | refine nowA ?_ | refine numN ?_ | refine numI ?_ | refine EvVal.ofN ?_ | refine EvNew.mk fun _ => ?_ | refine EvLoad.mk _ rfl _ rfl ?_ | refine divA ?_) | refine loadNA ?_ | refine EvStore.lit ⟨rfl, by decide⟩ (by rfl) ?_) | (first | refine brT ?_ | refine brF ?_ | refine iteT ?_ | refine iteF ?_)))
          refine callA (of18_spec lf l a1 l.length c1 rfl (by omega)) ?_
          rintro _ _ ⟨a4, c4, hc4, rfl, rfl⟩
          repeat ((conv => whnf); (first | (first | (first | refine nowA ?_ | refine numN ?_ | refine numI ?_ | refine EvVal.ofN ?_ | refine EvNew.mk fun _ => ?_ | refine EvLoad.mk _ rfl _ rfl ?_ | refine divA ?_) | refine loadNA ?_ | refine EvStore.lit ⟨rfl, by decide⟩ (by rfl) ?_) | (first | refine brT ?_ | refine brF ?_ | refine iteT ?_ | refine iteF ?_)))
          refine callA (same18_spec lf lf l l a4 a3 l.length c4 l.length c3 rfl rfl (by omega) (by omega)) ?_
          rintro _ _ ⟨rfl, rfl⟩
          rw [same_self]
          repeat ((conv => whnf); (first | (first | (first | refine nowA ?_ | refine numN ?_ | refine numI ?_ | refine EvVal.ofN ?_ | refine EvNew.mk fun _ => ?_ | refine EvLoad.mk _ rfl _ rfl ?_ | refine divA ?_) | refine loadNA ?_ | refine EvStore.lit ⟨rfl, by decide⟩ (by rfl) ?_) | (first | refine brT ?_ | refine brF ?_ | refine iteT ?_ | refine iteF ?_)))
          exact retA ⟨rfl, rfl⟩
      · repeat ((conv => whnf); (first | (first | (first | refine nowA ?_ | refine numN ?_ | refine numI ?_ | refine EvVal.ofN ?_ | refine EvNew.mk fun _ => ?_ | refine EvLoad.mk _ rfl _ rfl ?_ | refine divA ?_) | refine loadNA ?_ | refine EvStore.lit ⟨rfl, by decide⟩ (by rfl) ?_) | (first | refine brT ?_ | refine brF ?_ | refine iteT ?_ | refine iteF ?_)))
        refine callA (of18_spec lf l a1 l.length c1 rfl (by omega)) ?_
        rintro _ _ ⟨a4, c4, hc4, rfl, rfl⟩
        repeat ((conv => whnf); (first | (first | (first | refine nowA ?_ | refine numN ?_ | refine numI ?_ | refine EvVal.ofN ?_ | refine EvNew.mk fun _ => ?_ | refine EvLoad.mk _ rfl _ rfl ?_ | refine divA ?_) | refine loadNA ?_ | refine EvStore.lit ⟨rfl, by decide⟩ (by rfl) ?_) | (first | refine brT ?_ | refine brF ?_ | refine iteT ?_ | refine iteF ?_)))
        refine callA (same18_spec lf lf l l a4 a3 l.length c4 l.length c3 rfl rfl (by omega) (by omega)) ?_
        rintro _ _ ⟨rfl, rfl⟩
        rw [same_self]
        repeat ((conv => whnf); (first | (first | (first | refine nowA ?_ | refine numN ?_ | refine numI ?_ | refine EvVal.ofN ?_ | refine EvNew.mk fun _ => ?_ | refine EvLoad.mk _ rfl _ rfl ?_ | refine divA ?_) | refine loadNA ?_ | refine EvStore.lit ⟨rfl, by decide⟩ (by rfl) ?_) | (first | refine brT ?_ | refine brF ?_ | refine iteT ?_ | refine iteF ?_)))
        exact retA ⟨rfl, rfl⟩
  · have hg : gotN b = (false, [], chk b) := by unfold gotN; rw [if_neg h0]
    rw [hg]
    repeat ((conv => whnf); (first | (first | refine nowA ?_ | refine numN ?_ | refine numI ?_ | refine EvVal.ofN ?_ | refine EvNew.mk fun _ => ?_ | refine EvLoad.mk _ rfl _ rfl ?_ | refine divA ?_) | refine loadNA ?_ | refine EvStore.lit ⟨rfl, by decide⟩ (by rfl) ?_))
    refine callA (rchk_spec b hb) ?_
    rintro _ _ ⟨rfl, rfl⟩
    repeat ((conv => whnf); (first | (first | refine nowA ?_ | refine numN ?_ | refine numI ?_ | refine EvVal.ofN ?_ | refine EvNew.mk fun _ => ?_ | refine EvLoad.mk _ rfl _ rfl ?_ | refine divA ?_) | refine loadNA ?_ | refine EvStore.lit ⟨rfl, by decide⟩ (by rfl) ?_))
    refine EvIf.br (EvBr.t (decide_eq_true h0) ?_)
    repeat ((conv => whnf); (first | (first | refine nowA ?_ | refine numN ?_ | refine numI ?_ | refine EvVal.ofN ?_ | refine EvNew.mk fun _ => ?_ | refine EvLoad.mk _ rfl _ rfl ?_ | refine divA ?_) | refine loadNA ?_ | refine EvStore.lit ⟨rfl, by decide⟩ (by rfl) ?_))
    refine EvCut.direct ?_
    refine callA awake18_spec ?_
    rintro _ _ ⟨rfl, rfl⟩
    repeat ((conv => whnf); (first | (first | (first | refine nowA ?_ | refine numN ?_ | refine numI ?_ | refine EvVal.ofN ?_ | refine EvNew.mk fun _ => ?_ | refine EvLoad.mk _ rfl _ rfl ?_ | refine divA ?_) | refine loadNA ?_ | refine EvStore.lit ⟨rfl, by decide⟩ (by rfl) ?_) | (first | refine brT ?_ | refine brF ?_ | refine iteT ?_ | refine iteF ?_)))
    refine EvCall.mk _ _ _ (of18_spec false [] a1 0 c1 rfl (by decide)) (.view .nil sees_nil) ?_
    rintro _ _ ⟨a4, c4, hc4, rfl, rfl⟩
    repeat ((conv => whnf); (first | (first | (first | refine nowA ?_ | refine numN ?_ | refine numI ?_ | refine EvVal.ofN ?_ | refine EvNew.mk fun _ => ?_ | refine EvLoad.mk _ rfl _ rfl ?_ | refine divA ?_) | refine loadNA ?_ | refine EvStore.lit ⟨rfl, by decide⟩ (by rfl) ?_) | (first | refine brT ?_ | refine brF ?_ | refine iteT ?_ | refine iteF ?_)))
    refine EvCall.mk _ _ _ (same18_spec false false [] [] a4 none 0 c4 0 0 rfl rfl (by decide) (by decide)) (.view (.view .nil sees_nil) sees_nil) ?_
    rintro _ _ ⟨rfl, rfl⟩
    rw [same_self]
    repeat ((conv => whnf); (first | (first | (first | refine nowA ?_ | refine numN ?_ | refine numI ?_ | refine EvVal.ofN ?_ | refine EvNew.mk fun _ => ?_ | refine EvLoad.mk _ rfl _ rfl ?_ | refine divA ?_) | refine loadNA ?_ | refine EvStore.lit ⟨rfl, by decide⟩ (by rfl) ?_) | (first | refine brT ?_ | refine brF ?_ | refine iteT ?_ | refine iteF ?_)))
    exact retA ⟨rfl, rfl⟩
end Go.Proofs.Ytloknkdomgeolaa.She
