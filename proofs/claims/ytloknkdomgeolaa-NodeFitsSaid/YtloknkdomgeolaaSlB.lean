/- The walks of the functions of slots: the list of slots. -/
import Derived.Test.YtloknkdomgeolaaSlA
namespace Go.Proofs.Ytloknkdomgeolaa.She
set_option linter.all false
open Go
set_option pp.maxSteps 600

def slV : List (Nat × Nat) → List Value
  | [] => []
  | (a, b) :: r => .int .i64 (a : Int) :: .int .i64 (b : Int) :: slV r
theorem slV_length : ∀ l : List (Nat × Nat), (slV l).length = l.length * 2
  | [] => rfl
  | (a, b) :: r => by simp only [slV, List.length_cons, slV_length r]; omega
theorem slV_append : ∀ a b : List (Nat × Nat), slV (a ++ b) = slV a ++ slV b
  | [], _ => rfl
  | (x, y) :: r, b => by simp [slV, slV_append r b]
theorem slV_drop : ∀ (a : List (Nat × Nat)) (n : Nat), (slV a).drop (n * 2) = slV (a.drop n)
  | a, 0 => by simp
  | [], n + 1 => by simp [slV]
  | (x, y) :: r, n + 1 => by rw [Nat.succ_mul]; simp [slV, slV_drop r n]
theorem slV_take : ∀ (a : List (Nat × Nat)) (n : Nat), (slV a).take (n * 2) = slV (a.take n)
  | a, 0 => by simp [slV]
  | [], n + 1 => by simp [slV]
  | (x, y) :: r, n + 1 => by rw [Nat.succ_mul]; simp [slV, slV_take r n]
theorem allOne_slV : ∀ l : List (Nat × Nat), allOne (slV l) = true
  | [] => rfl
  | (a, b) :: r => by simp [slV, allOne, oneB, allOne_slV r]
theorem slV_get {l : List (Nat × Nat)} {i : Nat} {x : Nat × Nat} (h : l[i]? = some x) : ((slV l).drop (i * 2)).take 2 = [.int .i64 (x.1 : Int), .int .i64 (x.2 : Int)] := by
  rw [slV_drop, List.drop_eq_getElem?_toList_append, h]
  rfl

/-- Slot i of a payload. -/
def slot (l : List UInt8) (i : Nat) : Nat × Nat := (tw l (4 + 4 * i), tw l (4 + 4 * i + 2))
def slotsOf (l : List UInt8) (n : Nat) : List (Nat × Nat) := (List.range n).map (slot l)
@[simp] theorem slotsOf_length (l : List UInt8) (n : Nat) : (slotsOf l n).length = n := by simp [slotsOf]
theorem slotsOf_succ (l : List UInt8) (n : Nat) : slotsOf l (n + 1) = slotsOf l n ++ [slot l n] := by simp [slotsOf, List.range_succ]
theorem slotsOf_get (l : List UInt8) {n i : Nat} (h : i < n) : (slotsOf l n)[i]? = some (slot l i) := by simp [slotsOf, h]

theorem list_spec (l : List UInt8) (h : 4 + 4 * tw l 0 ≤ l.length) (hl : l.length < 1000) : Spec Try.prog 46 [.string ⟨⟨l⟩⟩] []
    (fun v O => ∃ ao cap, tw l 0 ≤ cap ∧ v = .slice ao (tw l 0) cap ∧ O = [.row ao cap 81 2 (slV (slotsOf l (tw l 0)))]) := by
  refine Spec.of_ev S_ok S_mixed Try.func46 rfl rfl ?_
  refine EvCall.mk [] [] _ (two_spec l 0 (by omega) (by omega)) .nil ?_
  rintro _ _ ⟨rfl, rfl⟩
  conv => whnf
  refine EvLoop.mk (α := Nat × Option Addr × Nat) (fun x => x.1 ≤ tw l 0 ∧ x.1 ≤ x.2.2) (fun x => tw l 0 - x.1) (fun x => [(8, .int .i64 x.1), (3, .slice x.2.1 x.1 x.2.2)]) (fun x => [.row x.2.1 x.2.2 81 2 (slV (slotsOf l x.1))]) ?_ ?_
  · exact ⟨(0, none, 0), ⟨by omega, by omega⟩, ⟨rfl, rfl, trivial⟩, rfl, .none .nil⟩
  rintro ⟨i, ao, cap⟩ ⟨hi, hcap⟩
  dsimp only at hi hcap ⊢
  refine EvNow.mk rfl ?_
  refine EvIf.br (EvBr.dec _ _ rfl ?_ ?_)
  · intro hlt
    repeat ((conv => whnf); (first | refine nowA ?_ | refine numN ?_ | refine numI ?_ | refine EvVal.ofN ?_ | refine EvNew.mk fun _ => ?_ | refine EvLoad.mk _ rfl _ rfl ?_ | refine divA ?_))
    refine EvCall.mk [] _ _ (two_spec l (4 + 4 * i) (by omega) (by omega)) .nil ?_
    rintro _ _ ⟨rfl, rfl⟩
    repeat ((conv => whnf); (first | refine nowA ?_ | refine numN ?_ | refine numI ?_ | refine EvVal.ofN ?_ | refine EvNew.mk fun _ => ?_ | refine EvLoad.mk _ rfl _ rfl ?_ | refine divA ?_))
    refine EvCall.mk [] _ _ (two_spec l (4 + 4 * i + 2) (by omega) (by omega)) .nil ?_
    rintro _ _ ⟨rfl, rfl⟩
    repeat ((conv => whnf); (first | refine nowA ?_ | refine numN ?_ | refine numI ?_ | refine EvVal.ofN ?_ | refine EvNew.mk fun _ => ?_ | refine EvLoad.mk _ rfl _ rfl ?_ | refine divA ?_))
    refine EvSrc.mk 1 (slV [slot l i]) (src_sl S_ok rfl rfl (by decide) 1 1 _ rfl (by simp) rfl) ?_
    refine EvApp.own ⟨rfl, rfl, rfl, by decide⟩ (by simp [slV_length]) (allOne_slV _) (by omega) (i + 1) rfl ?_
    intro ao' cap' hcap'
    rw [← slV_append, ← slotsOf_succ]
    repeat ((conv => whnf); (first | refine nowA ?_ | refine numN ?_ | refine numI ?_ | refine EvVal.ofN ?_ | refine EvNew.mk fun _ => ?_ | refine EvLoad.mk _ rfl _ rfl ?_ | refine divA ?_))
    refine ⟨(i + 1, ao', cap'), ⟨⟨by dsimp only; omega, hcap'⟩, by dsimp only; omega⟩, ⟨rfl, rfl, trivial⟩, rfl, .cons (.there .here) .nil⟩
  · intro hge
    have e : i = tw l 0 := by omega
    subst e
    refine EvRet.mk [_] (.cons .here .nil) rfl ⟨_, _, hcap, rfl, rfl⟩
end Go.Proofs.Ytloknkdomgeolaa.She
