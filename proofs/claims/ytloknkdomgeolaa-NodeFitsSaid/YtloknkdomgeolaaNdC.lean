/- The walks of the functions of node: what a payload is; the place of a key. -/
import Derived.Test.YtloknkdomgeolaaNdB
import Derived.Laws.Externs
import Derived.Laws.StructEq
namespace Go.Proofs.Ytloknkdomgeolaa.She
set_option linter.all false
open Go
set_option pp.maxSteps 600
set_option maxRecDepth 10000
set_option maxHeartbeats 4000000

theorem entry_spec (s : List UInt8) (hs : s.length ≤ 10000) : Spec Try.prog 56 [.string ⟨⟨s⟩⟩] []
    (fun v O => (OkP s ∧ v = .tuple #[.agg ⟨enC (parE s)⟩, .bool true] ∨ ¬ OkP s ∧ v = .tuple #[.agg ⟨enC d0⟩, .bool false]) ∧ O = []) := by
  refine Spec.of_ev S_ok S_mixed Try.func56 rfl rfl ?_
  have hb := nb_lt s 0
  refine EvNew.mk fun q => ?_
  repeat ((conv => whnf); (first | (first | refine nowA ?_ | refine numN ?_ | refine numI ?_ | refine EvVal.ofN ?_ | refine EvNew.mk fun _ => ?_ | refine EvLoad.mk _ rfl _ rfl ?_ | refine divA ?_) | refine loadNA ?_ | refine EvStore.lit ⟨rfl, by decide⟩ (by rfl) ?_))
  refine EvCut.direct ?_
  by_cases h0 : s = []
  · subst h0
    repeat ((conv => whnf); (first | (first | (first | refine nowA ?_ | refine numN ?_ | refine numI ?_ | refine EvVal.ofN ?_ | refine EvNew.mk fun _ => ?_ | refine EvLoad.mk _ rfl _ rfl ?_ | refine divA ?_) | refine loadNA ?_ | refine EvStore.lit ⟨rfl, by decide⟩ (by rfl) ?_) | (first | refine brT ?_ | refine brF ?_ | refine iteT ?_ | refine iteF ?_)))
    refine EvIf.br (brT ?_)
    repeat ((conv => whnf); (first | (first | (first | refine nowA ?_ | refine numN ?_ | refine numI ?_ | refine EvVal.ofN ?_ | refine EvNew.mk fun _ => ?_ | refine EvLoad.mk _ rfl _ rfl ?_ | refine divA ?_) | refine loadNA ?_ | refine EvStore.lit ⟨rfl, by decide⟩ (by rfl) ?_) | (first | refine brT ?_ | refine brF ?_ | refine iteT ?_ | refine iteF ?_)))
    exact EvRet.mk [] .nil rfl ⟨.inr ⟨fun h => h.1 rfl, rfl⟩, rfl⟩
  have hlen : 0 < s.length := List.length_pos_iff.2 h0
  repeat ((conv => whnf); (first | (first | (first | refine nowA ?_ | refine numN ?_ | refine numI ?_ | refine EvVal.ofN ?_ | refine EvNew.mk fun _ => ?_ | refine EvLoad.mk _ rfl _ rfl ?_ | refine divA ?_) | refine loadNA ?_ | refine EvStore.lit ⟨rfl, by decide⟩ (by rfl) ?_) | (first | refine brT ?_ | refine brF ?_ | refine iteT ?_ | refine iteF ?_)))
  by_cases hP : OkP s
  · have hP2 := hP.2
    refine EvIf.br (EvBr.f (decide_eq_false (by omega)) ?_)
    repeat ((conv => whnf); (first | (first | (first | refine nowA ?_ | refine numN ?_ | refine numI ?_ | refine EvVal.ofN ?_ | refine EvNew.mk fun _ => ?_ | refine EvLoad.mk _ rfl _ rfl ?_ | refine divA ?_) | refine loadNA ?_ | refine EvStore.lit ⟨rfl, by decide⟩ (by rfl) ?_) | (first | refine brT ?_ | refine brF ?_ | refine iteT ?_ | refine iteF ?_)))
    refine EvDraw.mk (.group [0,1,2,3,4,5,6,7,8,9,10,11] .nil) (by kernel_rfl) ?_
    have h1 := nb_lt s (1 + nb s 0)
    have h2 := nb_lt s (1 + nb s 0 + 1)
    repeat ((conv => whnf); (first | refine nowA ?_ | refine numN ?_ | refine numI ?_ | refine EvVal.ofN ?_ | refine EvNew.mk fun _ => ?_ | refine EvLoad.mk _ rfl _ rfl ?_ | refine divA ?_))
    refine EvPow.mk 256 (by decide) ?_
    repeat ((conv => whnf); (first | refine nowA ?_ | refine numN ?_ | refine numI ?_ | refine EvVal.ofN ?_ | refine EvNew.mk fun _ => ?_ | refine EvLoad.mk _ rfl _ rfl ?_ | refine divA ?_))
    refine EvVal.eq (tw s (1 + nb s 0)) (or_i64 (nb s (1 + nb s 0)) (nb s (1 + nb s 0 + 1)) _ (by omega) h2 rfl) ?_
    have h3 := tw_lt s (1 + nb s 0)
    repeat ((conv => whnf); (first | refine nowA ?_ | refine numN ?_ | refine numI ?_ | refine EvVal.ofN ?_ | refine EvNew.mk fun _ => ?_ | refine EvLoad.mk _ rfl _ rfl ?_ | refine divA ?_))
    refine EvDraw.mk (.take 0 (.take 1 (.take 2 (.take 3 (.take 4 (.take 5 (.take 6 (.take 7 (.take 8 (.take 9 (.eff 10 (.take 11 .nil)))))))))))) (by kernel_rfl) ?_
    repeat ((conv => whnf); (first | refine nowA ?_ | refine numN ?_ | refine numI ?_ | refine EvVal.ofN ?_ | refine EvNew.mk fun _ => ?_ | refine EvLoad.mk _ rfl _ rfl ?_ | refine divA ?_))
    refine EvVal.rfl ?_
    repeat ((conv => whnf); (first | refine nowA ?_ | refine numN ?_ | refine numI ?_ | refine EvVal.ofN ?_ | refine EvNew.mk fun _ => ?_ | refine EvLoad.mk _ rfl _ rfl ?_ | refine divA ?_))
    refine EvVal.eq (s.drop (1 + nb s 0 + 2)) (by simp) ?_
    repeat ((conv => whnf); (first | (first | (first | refine nowA ?_ | refine numN ?_ | refine numI ?_ | refine EvVal.ofN ?_ | refine EvNew.mk fun _ => ?_ | refine EvLoad.mk _ rfl _ rfl ?_ | refine divA ?_) | refine loadNA ?_ | refine EvStore.lit ⟨rfl, by decide⟩ (by rfl) ?_) | (first | refine brT ?_ | refine brF ?_ | refine iteT ?_ | refine iteF ?_)))
    exact EvRet.mk [] .nil rfl ⟨.inl ⟨hP, rfl⟩, rfl⟩
  · refine EvIf.br (EvBr.t (decide_eq_true (by have : ¬ (3 + nb s 0 ≤ s.length) := fun h => hP ⟨h0, h⟩; omega)) ?_)
    repeat ((conv => whnf); (first | (first | (first | refine nowA ?_ | refine numN ?_ | refine numI ?_ | refine EvVal.ofN ?_ | refine EvNew.mk fun _ => ?_ | refine EvLoad.mk _ rfl _ rfl ?_ | refine divA ?_) | refine loadNA ?_ | refine EvStore.lit ⟨rfl, by decide⟩ (by rfl) ?_) | (first | refine brT ?_ | refine brF ?_ | refine iteT ?_ | refine iteF ?_)))
    exact EvRet.mk [] .nil rfl ⟨.inr ⟨hP, rfl⟩, rfl⟩

/-- What Get tells: is it a leaf, its entries, an error. -/
def gotN (b : List UInt8) : Bool × List En × Int :=
  if chk b = 0 then (if readB (recs b) then (decide ((recs b).getD 0 [] = [1]), (recs b).tail.map parE, 0) else (false, [], 14)) else (false, [], chk b)

theorem recs_len {b : List UInt8} (h : chk b = 0) : (recs b).length ≤ 57 ∧ ∀ s ∈ recs b, s.length ≤ 228 := by
  have := recs_room h
  refine ⟨by omega, fun s hs => ?_⟩
  have := mem_sumL hs
  omega

theorem tail_getD (rs : List (List UInt8)) (i : Nat) : rs.tail.getD i [] = rs.getD (i + 1) [] := by cases rs <;> simp

theorem nget_spec (b : List UInt8) (hb : b.length < 9223372036854775807) : Spec Try.prog 39 [.string ⟨⟨b⟩⟩] []
    (fun v O => ∃ ao c, (gotN b).2.1.length ≤ c ∧ v = .tuple #[.agg #[.bool (gotN b).1, .slice ao (gotN b).2.1.length c], .int .i64 (gotN b).2.2] ∧ O = [.row ao c 87 3 (entV (gotN b).2.1)]) := by
  refine Spec.of_ev S_ok S_mixed Try.func39 rfl rfl ?_
  refine EvNew.mk fun q => ?_
  repeat ((conv => whnf); (first | (first | refine nowA ?_ | refine numN ?_ | refine numI ?_ | refine EvVal.ofN ?_ | refine EvNew.mk fun _ => ?_ | refine EvLoad.mk _ rfl _ rfl ?_ | refine divA ?_) | refine loadNA ?_ | refine EvStore.lit ⟨rfl, by decide⟩ (by rfl) ?_))
  refine EvCall.mk [] _ _ (all_spec b hb) .nil ?_
  rintro _ _ ⟨a1, c1, hc1, rfl, rfl⟩
  repeat ((conv => whnf); (first | (first | refine nowA ?_ | refine numN ?_ | refine numI ?_ | refine EvVal.ofN ?_ | refine EvNew.mk fun _ => ?_ | refine EvLoad.mk _ rfl _ rfl ?_ | refine divA ?_) | refine loadNA ?_ | refine EvStore.lit ⟨rfl, by decide⟩ (by rfl) ?_))
  refine EvIf.br (brD (fun h => ?_) (fun h => ?_))
  · repeat ((conv => whnf); (first | (first | refine nowA ?_ | refine numN ?_ | refine numI ?_ | refine EvVal.ofN ?_ | refine EvNew.mk fun _ => ?_ | refine EvLoad.mk _ rfl _ rfl ?_ | refine divA ?_) | refine loadNA ?_ | refine EvStore.lit ⟨rfl, by decide⟩ (by rfl) ?_))
    have e : gotN b = (false, [], chk b) := by unfold gotN; rw [if_neg h]
    rw [e]
    exact EvRet.mk [.row none 0 87 3 []] (.none .nil) rfl ⟨none, 0, Nat.le_refl _, rfl, rfl⟩
  have h0 : chk b = 0 := by omega
  obtain ⟨hn, hlens⟩ := recs_len h0
  have bad : readB (recs b) = false → gotN b = (false, [], 14) := fun h => by unfold gotN; rw [if_pos h0, h]; rfl
  have good : readB (recs b) = true → gotN b = (decide ((recs b).getD 0 [] = [1]), (recs b).tail.map parE, 0) := fun h => by unfold gotN; rw [if_pos h0, if_pos h]
  generalize hrs : recs b = rs at *
  repeat ((conv => whnf); (first | (first | refine nowA ?_ | refine numN ?_ | refine numI ?_ | refine EvVal.ofN ?_ | refine EvNew.mk fun _ => ?_ | refine EvLoad.mk _ rfl _ rfl ?_ | refine divA ?_) | refine loadNA ?_ | refine EvStore.lit ⟨rfl, by decide⟩ (by rfl) ?_))
  refine EvCut.cut (α := Unit) (fun _ => True) (fun _ => [(21, .bool (!(decide (0 < rs.length) && (decide (rs.getD 0 [] = [1]) || decide (rs.getD 0 [] = [2])))))]) (fun _ => [.blk q 58 [.bool false, .slice none 0 0], .row a1 c1 9 1 (strV rs)]) ?_ ?_
  · by_cases hl0 : (rs.length : Int) = 0
    · repeat ((conv => whnf); (first | (first | (first | refine nowA ?_ | refine numN ?_ | refine numI ?_ | refine EvVal.ofN ?_ | refine EvNew.mk fun _ => ?_ | refine EvLoad.mk _ rfl _ rfl ?_ | refine divA ?_) | refine loadNA ?_ | refine EvStore.lit ⟨rfl, by decide⟩ (by rfl) ?_) | (first | refine brT ?_ | refine brF ?_ | refine iteT ?_ | refine iteF ?_)))
      refine metA () trivial ⟨?_, trivial⟩
      rw [decide_eq_false (show ¬ 0 < rs.length by omega)]; rfl
    · by_cases k1 : rs.getD 0 [] = [1]
      · have k1' : ¬ (rs.getD 0 [] ≠ [1]) := fun h => h k1
        repeat ((conv => whnf); (first | (first | (first | refine nowA ?_ | refine numN ?_ | refine numI ?_ | refine EvVal.ofN ?_ | refine EvNew.mk fun _ => ?_ | refine EvLoad.mk _ rfl _ rfl ?_ | refine divA ?_) | refine loadNA ?_ | refine EvStore.lit ⟨rfl, by decide⟩ (by rfl) ?_) | (first | refine brT ?_ | refine brF ?_ | refine iteT ?_ | refine iteF ?_)))
        refine EvIdx.row 0 rfl (by omega) (by simp; omega) ?_
        repeat ((conv => whnf); (first | (first | (first | refine nowA ?_ | refine numN ?_ | refine numI ?_ | refine EvVal.ofN ?_ | refine EvNew.mk fun _ => ?_ | refine EvLoad.mk _ rfl _ rfl ?_ | refine divA ?_) | refine loadNA ?_ | refine EvStore.lit ⟨rfl, by decide⟩ (by rfl) ?_) | (first | refine brT ?_ | refine brF ?_ | refine iteT ?_ | refine iteF ?_)))
        refine EvLoad.mk (0 * 1) rfl (.string ⟨⟨rs.getD 0 []⟩⟩) (by rw [Nat.mul_one]; exact strV_get (by omega)) ?_
        repeat ((conv => whnf); (first | (first | (first | refine nowA ?_ | refine numN ?_ | refine numI ?_ | refine EvVal.ofN ?_ | refine EvNew.mk fun _ => ?_ | refine EvLoad.mk _ rfl _ rfl ?_ | refine divA ?_) | refine loadNA ?_ | refine EvStore.lit ⟨rfl, by decide⟩ (by rfl) ?_) | (first | refine brT ?_ | refine brF ?_ | refine iteT ?_ | refine iteF ?_)))
        refine metA () trivial ⟨?_, trivial⟩
        rw [decide_eq_true (show 0 < rs.length by omega), decide_eq_true k1]; rfl
      · have k1' : rs.getD 0 [] ≠ [1] := k1
        by_cases k2 : rs.getD 0 [] = [2]
        · have k2' : ¬ (rs.getD 0 [] ≠ [2]) := fun h => h k2
          repeat ((conv => whnf); (first | (first | (first | refine nowA ?_ | refine numN ?_ | refine numI ?_ | refine EvVal.ofN ?_ | refine EvNew.mk fun _ => ?_ | refine EvLoad.mk _ rfl _ rfl ?_ | refine divA ?_) | refine loadNA ?_ | refine EvStore.lit ⟨rfl, by decide⟩ (by rfl) ?_) | (first | refine brT ?_ | refine brF ?_ | refine iteT ?_ | refine iteF ?_)))
          refine EvIdx.row 0 rfl (by omega) (by simp; omega) ?_
          repeat ((conv => whnf); (first | (first | (first | refine nowA ?_ | refine numN ?_ | refine numI ?_ | refine EvVal.ofN ?_ | refine EvNew.mk fun _ => ?_ | refine EvLoad.mk _ rfl _ rfl ?_ | refine divA ?_) | refine loadNA ?_ | refine EvStore.lit ⟨rfl, by decide⟩ (by rfl) ?_) | (first | refine brT ?_ | refine brF ?_ | refine iteT ?_ | refine iteF ?_)))
          refine EvLoad.mk (0 * 1) rfl (.string ⟨⟨rs.getD 0 []⟩⟩) (by rw [Nat.mul_one]; exact strV_get (by omega)) ?_
          repeat ((conv => whnf); (first | (first | (first | refine nowA ?_ | refine numN ?_ | refine numI ?_ | refine EvVal.ofN ?_ | refine EvNew.mk fun _ => ?_ | refine EvLoad.mk _ rfl _ rfl ?_ | refine divA ?_) | refine loadNA ?_ | refine EvStore.lit ⟨rfl, by decide⟩ (by rfl) ?_) | (first | refine brT ?_ | refine brF ?_ | refine iteT ?_ | refine iteF ?_)))
          refine EvIdx.row 0 rfl (by omega) (by simp; omega) ?_
          repeat ((conv => whnf); (first | (first | (first | refine nowA ?_ | refine numN ?_ | refine numI ?_ | refine EvVal.ofN ?_ | refine EvNew.mk fun _ => ?_ | refine EvLoad.mk _ rfl _ rfl ?_ | refine divA ?_) | refine loadNA ?_ | refine EvStore.lit ⟨rfl, by decide⟩ (by rfl) ?_) | (first | refine brT ?_ | refine brF ?_ | refine iteT ?_ | refine iteF ?_)))
          refine EvLoad.mk (0 * 1) rfl (.string ⟨⟨rs.getD 0 []⟩⟩) (by rw [Nat.mul_one]; exact strV_get (by omega)) ?_
          repeat ((conv => whnf); (first | (first | (first | refine nowA ?_ | refine numN ?_ | refine numI ?_ | refine EvVal.ofN ?_ | refine EvNew.mk fun _ => ?_ | refine EvLoad.mk _ rfl _ rfl ?_ | refine divA ?_) | refine loadNA ?_ | refine EvStore.lit ⟨rfl, by decide⟩ (by rfl) ?_) | (first | refine brT ?_ | refine brF ?_ | refine iteT ?_ | refine iteF ?_)))
          refine metA () trivial ⟨?_, trivial⟩
          simp only [getF, Option.some.injEq, Value.bool.injEq]
          rw [decide_eq_true (show 0 < rs.length by omega), decide_eq_true k2, decide_eq_false k1, decide_eq_false k2']; rfl
        · have k2' : rs.getD 0 [] ≠ [2] := k2
          repeat ((conv => whnf); (first | (first | (first | refine nowA ?_ | refine numN ?_ | refine numI ?_ | refine EvVal.ofN ?_ | refine EvNew.mk fun _ => ?_ | refine EvLoad.mk _ rfl _ rfl ?_ | refine divA ?_) | refine loadNA ?_ | refine EvStore.lit ⟨rfl, by decide⟩ (by rfl) ?_) | (first | refine brT ?_ | refine brF ?_ | refine iteT ?_ | refine iteF ?_)))
          refine EvIdx.row 0 rfl (by omega) (by simp; omega) ?_
          repeat ((conv => whnf); (first | (first | (first | refine nowA ?_ | refine numN ?_ | refine numI ?_ | refine EvVal.ofN ?_ | refine EvNew.mk fun _ => ?_ | refine EvLoad.mk _ rfl _ rfl ?_ | refine divA ?_) | refine loadNA ?_ | refine EvStore.lit ⟨rfl, by decide⟩ (by rfl) ?_) | (first | refine brT ?_ | refine brF ?_ | refine iteT ?_ | refine iteF ?_)))
          refine EvLoad.mk (0 * 1) rfl (.string ⟨⟨rs.getD 0 []⟩⟩) (by rw [Nat.mul_one]; exact strV_get (by omega)) ?_
          repeat ((conv => whnf); (first | (first | (first | refine nowA ?_ | refine numN ?_ | refine numI ?_ | refine EvVal.ofN ?_ | refine EvNew.mk fun _ => ?_ | refine EvLoad.mk _ rfl _ rfl ?_ | refine divA ?_) | refine loadNA ?_ | refine EvStore.lit ⟨rfl, by decide⟩ (by rfl) ?_) | (first | refine brT ?_ | refine brF ?_ | refine iteT ?_ | refine iteF ?_)))
          refine EvIdx.row 0 rfl (by omega) (by simp; omega) ?_
          repeat ((conv => whnf); (first | (first | (first | refine nowA ?_ | refine numN ?_ | refine numI ?_ | refine EvVal.ofN ?_ | refine EvNew.mk fun _ => ?_ | refine EvLoad.mk _ rfl _ rfl ?_ | refine divA ?_) | refine loadNA ?_ | refine EvStore.lit ⟨rfl, by decide⟩ (by rfl) ?_) | (first | refine brT ?_ | refine brF ?_ | refine iteT ?_ | refine iteF ?_)))
          refine EvLoad.mk (0 * 1) rfl (.string ⟨⟨rs.getD 0 []⟩⟩) (by rw [Nat.mul_one]; exact strV_get (by omega)) ?_
          repeat ((conv => whnf); (first | (first | (first | refine nowA ?_ | refine numN ?_ | refine numI ?_ | refine EvVal.ofN ?_ | refine EvNew.mk fun _ => ?_ | refine EvLoad.mk _ rfl _ rfl ?_ | refine divA ?_) | refine loadNA ?_ | refine EvStore.lit ⟨rfl, by decide⟩ (by rfl) ?_) | (first | refine brT ?_ | refine brF ?_ | refine iteT ?_ | refine iteF ?_)))
          refine metA () trivial ⟨?_, trivial⟩
          simp only [getF, Option.some.injEq, Value.bool.injEq]
          rw [decide_eq_true (show 0 < rs.length by omega), decide_eq_false k2, decide_eq_false k1, decide_eq_true k2']; rfl
  intro _ _
  conv => whnf
  refine EvIf.br (EvBr.both (fun h => ?_) (fun h => ?_))
  · repeat ((conv => whnf); (first | (first | refine nowA ?_ | refine numN ?_ | refine numI ?_ | refine EvVal.ofN ?_ | refine EvNew.mk fun _ => ?_ | refine EvLoad.mk _ rfl _ rfl ?_ | refine divA ?_) | refine loadNA ?_ | refine EvStore.lit ⟨rfl, by decide⟩ (by rfl) ?_))
    have hr : readB rs = false := by
      unfold readB
      have h' : (decide (0 < rs.length) && (decide (rs.getD 0 [] = [1]) || decide (rs.getD 0 [] = [2]))) = false := by
        revert h; cases (decide (0 < rs.length) && (decide (rs.getD 0 [] = [1]) || decide (rs.getD 0 [] = [2]))) <;> simp
      rw [h']; rfl
    rw [bad hr]
    exact EvRet.mk [.row none 0 87 3 []] (.none .nil) rfl ⟨none, 0, Nat.le_refl _, rfl, rfl⟩
  have hkind : (decide (0 < rs.length) && (decide (rs.getD 0 [] = [1]) || decide (rs.getD 0 [] = [2]))) = true := by
    revert h; cases (decide (0 < rs.length) && (decide (rs.getD 0 [] = [1]) || decide (rs.getD 0 [] = [2]))) <;> simp
  have hpos : 0 < rs.length := by
    have := hkind
    simp only [Bool.and_eq_true, decide_eq_true_eq] at this
    exact this.1
  have hread : readB rs = (rs.tail.all (fun s => decide (OkP s)) && okN (decide (rs.getD 0 [] = [1])) (rs.tail.map parE)) := by
    unfold readB; rw [hkind, Bool.true_and]
  repeat ((conv => whnf); (first | (first | refine nowA ?_ | refine numN ?_ | refine numI ?_ | refine EvVal.ofN ?_ | refine EvNew.mk fun _ => ?_ | refine EvLoad.mk _ rfl _ rfl ?_ | refine divA ?_) | refine loadNA ?_ | refine EvStore.lit ⟨rfl, by decide⟩ (by rfl) ?_))
  refine EvIdx.row 0 rfl (by omega) (by simp; omega) ?_
  repeat ((conv => whnf); (first | (first | refine nowA ?_ | refine numN ?_ | refine numI ?_ | refine EvVal.ofN ?_ | refine EvNew.mk fun _ => ?_ | refine EvLoad.mk _ rfl _ rfl ?_ | refine divA ?_) | refine loadNA ?_ | refine EvStore.lit ⟨rfl, by decide⟩ (by rfl) ?_))
  refine EvLoad.mk (0 * 1) rfl (.string ⟨⟨rs.getD 0 []⟩⟩) (by rw [Nat.mul_one]; exact strV_get hpos) ?_
  repeat ((conv => whnf); (first | (first | refine nowA ?_ | refine numN ?_ | refine numI ?_ | refine EvVal.ofN ?_ | refine EvNew.mk fun _ => ?_ | refine EvLoad.mk _ rfl _ rfl ?_ | refine divA ?_) | refine loadNA ?_ | refine EvStore.lit ⟨rfl, by decide⟩ (by rfl) ?_))
  generalize decide (rs.getD 0 [] = [1]) = lf at *
  refine EvVal.rfl ?_
  conv => whnf
  refine EvVal.rfl ?_
  repeat ((conv => whnf); (first | (first | refine nowA ?_ | refine numN ?_ | refine numI ?_ | refine EvVal.ofN ?_ | refine EvNew.mk fun _ => ?_ | refine EvLoad.mk _ rfl _ rfl ?_ | refine divA ?_) | refine loadNA ?_ | refine EvStore.lit ⟨rfl, by decide⟩ (by rfl) ?_))
  rename_i q2
  refine EvLoop.mk (α := Nat × Option Addr × Nat) (fun x => x.1 ≤ rs.length - 1 ∧ x.1 ≤ x.2.2 ∧ ∀ j, j < x.1 → OkP (rs.tail.getD j [])) (fun x => rs.length - 1 - x.1) (fun x => [(46, .int .i64 x.1)])
    (fun x => [.blk q2 58 [.bool lf, .slice x.2.1 x.1 x.2.2], .row x.2.1 x.2.2 87 3 (entV ((rs.tail.take x.1).map parE)), .blk q 58 [.bool false, .slice none 0 0], .row a1 c1 9 1 (strV rs)]) ?_ ?_
  · exact ⟨(0, none, 0), ⟨by omega, by omega, fun j h => by omega⟩, ⟨rfl, trivial⟩, rfl, .cons .here (.none (.cons .here (.cons .here .nil)))⟩
  rintro ⟨i, ap, cp⟩ ⟨hi, hcp, hok⟩
  dsimp only at hi hcp hok ⊢
  have htl : rs.tail.length = rs.length - 1 := by simp
  repeat ((conv => whnf); (first | refine nowA ?_ | refine numN ?_ | refine numI ?_ | refine EvVal.ofN ?_ | refine EvNew.mk fun _ => ?_ | refine EvLoad.mk _ rfl _ rfl ?_ | refine divA ?_))
  refine EvIf.br (brD (fun hlt => ?_) (fun hge => ?_))
  · have hlt : i < rs.tail.length := by omega
    have hfull : decide (c1 = 1) = false := decide_eq_false (by omega)
    refine EvIdx.rsub a1 (1 * 1) (by rw [hfull]) i rfl (by omega) (by simp; omega) ?_
    refine EvLoad.mk (1 * 1 + i * 1) rfl (.string ⟨⟨rs.tail.getD i []⟩⟩) (by rw [show 1 * 1 + i * 1 = i + 1 by omega, tail_getD]; exact strV_get (by omega)) ?_
    repeat ((conv => whnf); (first | (first | refine nowA ?_ | refine numN ?_ | refine numI ?_ | refine EvVal.ofN ?_ | refine EvNew.mk fun _ => ?_ | refine EvLoad.mk _ rfl _ rfl ?_ | refine divA ?_) | refine loadNA ?_ | refine EvStore.lit ⟨rfl, by decide⟩ (by rfl) ?_))
    have hsl : (rs.tail.getD i []).length ≤ 10000 := by
      have := hlens (rs.tail.getD i []) (by rw [tail_getD, List.getD_eq_getElem?_getD, List.getElem?_eq_getElem (by omega)]; exact List.getElem_mem _)
      omega
    refine EvCall.mk [] _ _ (entry_spec (rs.tail.getD i []) hsl) .nil ?_
    rintro _ _ ⟨hv, rfl⟩
    rcases hv with ⟨hP, rfl⟩ | ⟨hP, rfl⟩
    · repeat ((conv => whnf); (first | (first | refine nowA ?_ | refine numN ?_ | refine numI ?_ | refine EvVal.ofN ?_ | refine EvNew.mk fun _ => ?_ | refine EvLoad.mk _ rfl _ rfl ?_ | refine divA ?_) | refine loadNA ?_ | refine EvStore.lit ⟨rfl, by decide⟩ (by rfl) ?_))
      refine EvIf.br (brF ?_)
      repeat ((conv => whnf); (first | (first | refine nowA ?_ | refine numN ?_ | refine numI ?_ | refine EvVal.ofN ?_ | refine EvNew.mk fun _ => ?_ | refine EvLoad.mk _ rfl _ rfl ?_ | refine divA ?_) | refine loadNA ?_ | refine EvStore.lit ⟨rfl, by decide⟩ (by rfl) ?_))
      refine EvSrc.mk 1 (entV [parE (rs.tail.getD i [])]) (src_sl S_ok rfl rfl (by decide) 1 1 _ rfl (by simp) rfl) ?_
      refine EvApp.own ⟨rfl, rfl, rfl, by decide⟩ (by rw [entV_length]; simp; omega) (allOne_entV _) (by omega) (i + 1) rfl ?_
      intro ao' cap' hcap'
      have e : entV ((rs.tail.take i).map parE) ++ entV [parE (rs.tail.getD i [])] = entV ((rs.tail.take (i + 1)).map parE) := by
        rw [← entV_append, take_succ_getD hlt [], List.map_append]; rfl
      rw [e]
      repeat ((conv => whnf); (first | (first | refine nowA ?_ | refine numN ?_ | refine numI ?_ | refine EvVal.ofN ?_ | refine EvNew.mk fun _ => ?_ | refine EvLoad.mk _ rfl _ rfl ?_ | refine divA ?_) | refine loadNA ?_ | refine EvStore.lit ⟨rfl, by decide⟩ (by rfl) ?_))
      refine metA (i + 1, ao', cap') ⟨⟨by dsimp only; omega, hcap', fun j hj => ?_⟩, by dsimp only; omega⟩
      by_cases hji : j = i
      · subst hji; exact hP
      · exact hok j (by dsimp only at hj; omega)
    · repeat ((conv => whnf); (first | (first | refine nowA ?_ | refine numN ?_ | refine numI ?_ | refine EvVal.ofN ?_ | refine EvNew.mk fun _ => ?_ | refine EvLoad.mk _ rfl _ rfl ?_ | refine divA ?_) | refine loadNA ?_ | refine EvStore.lit ⟨rfl, by decide⟩ (by rfl) ?_))
      refine EvIf.br (brT ?_)
      repeat ((conv => whnf); (first | (first | refine nowA ?_ | refine numN ?_ | refine numI ?_ | refine EvVal.ofN ?_ | refine EvNew.mk fun _ => ?_ | refine EvLoad.mk _ rfl _ rfl ?_ | refine divA ?_) | refine loadNA ?_ | refine EvStore.lit ⟨rfl, by decide⟩ (by rfl) ?_))
      have hr : readB rs = false := by
        rw [hread]
        have : rs.tail.all (fun s => decide (OkP s)) = false := by
          cases h' : rs.tail.all (fun s => decide (OkP s)) with
          | false => rfl
          | true =>
            have := List.all_eq_true.1 h' (rs.tail.getD i []) (by rw [List.getD_eq_getElem?_getD, List.getElem?_eq_getElem hlt]; exact List.getElem_mem _)
            exact absurd (of_decide_eq_true this) hP
        rw [this]; rfl
      rw [bad hr]
      exact EvRet.mk [.row none 0 87 3 []] (.none .nil) rfl ⟨none, 0, Nat.le_refl _, rfl, rfl⟩
  · have e : i = rs.tail.length := by omega
    rw [e, List.take_length]
    have hall : rs.tail.all (fun s => decide (OkP s)) = true := by
      rw [List.all_eq_true]
      intro s hs
      obtain ⟨j, hj, rfl⟩ := List.mem_iff_getElem.1 hs
      have := hok j (by omega)
      simp only [List.getD, List.getElem?_eq_getElem hj, Option.getD_some] at this
      exact decide_eq_true this
    rw [hall, Bool.true_and] at hread
    have hLit : Lit (rs.tail.map parE) := by
      intro x hx
      obtain ⟨s, hs, rfl⟩ := List.mem_map.1 hx
      have := hlens s (List.mem_of_mem_tail hs)
      simp only [parE, List.length_drop, List.length_take]
      omega
    repeat ((conv => whnf); (first | (first | refine nowA ?_ | refine numN ?_ | refine numI ?_ | refine EvVal.ofN ?_ | refine EvNew.mk fun _ => ?_ | refine EvLoad.mk _ rfl _ rfl ?_ | refine divA ?_) | refine loadNA ?_ | refine EvStore.lit ⟨rfl, by decide⟩ (by rfl) ?_))
    refine EvCall.mk _ _ _ (may_spec lf (rs.tail.map parE) ap rs.tail.length cp (by simp) hLit (by omega)) (.view .nil sees_all) ?_
    rintro _ _ ⟨rfl, rfl⟩
    cases hok2 : okN lf (rs.tail.map parE)
    · repeat ((conv => whnf); (first | (first | refine nowA ?_ | refine numN ?_ | refine numI ?_ | refine EvVal.ofN ?_ | refine EvNew.mk fun _ => ?_ | refine EvLoad.mk _ rfl _ rfl ?_ | refine divA ?_) | refine loadNA ?_ | refine EvStore.lit ⟨rfl, by decide⟩ (by rfl) ?_))
      refine EvIf.br (brT ?_)
      repeat ((conv => whnf); (first | (first | refine nowA ?_ | refine numN ?_ | refine numI ?_ | refine EvVal.ofN ?_ | refine EvNew.mk fun _ => ?_ | refine EvLoad.mk _ rfl _ rfl ?_ | refine divA ?_) | refine loadNA ?_ | refine EvStore.lit ⟨rfl, by decide⟩ (by rfl) ?_))
      rw [bad (hread.trans hok2)]
      exact EvRet.mk [.row none 0 87 3 []] (.none .nil) rfl ⟨none, 0, Nat.le_refl _, rfl, rfl⟩
    · repeat ((conv => whnf); (first | (first | refine nowA ?_ | refine numN ?_ | refine numI ?_ | refine EvVal.ofN ?_ | refine EvNew.mk fun _ => ?_ | refine EvLoad.mk _ rfl _ rfl ?_ | refine divA ?_) | refine loadNA ?_ | refine EvStore.lit ⟨rfl, by decide⟩ (by rfl) ?_))
      refine EvIf.br (brF ?_)
      repeat ((conv => whnf); (first | (first | refine nowA ?_ | refine numN ?_ | refine numI ?_ | refine EvVal.ofN ?_ | refine EvNew.mk fun _ => ?_ | refine EvLoad.mk _ rfl _ rfl ?_ | refine divA ?_) | refine loadNA ?_ | refine EvStore.lit ⟨rfl, by decide⟩ (by rfl) ?_))
      rw [good (hread.trans hok2)]
      exact retA ⟨ap, cp, by rw [List.length_map]; omega, by rw [List.length_map]; rfl, rfl⟩
end Go.Proofs.Ytloknkdomgeolaa.She
