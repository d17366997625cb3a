/- The walks of the functions of slots: slots are laid. -/
import Derived.Test.YtloknkdomgeolaaSlB
namespace Go.Proofs.Ytloknkdomgeolaa.She
set_option linter.all false
open Go
set_option pp.maxSteps 600

@[simp] theorem setTw_length (l : List UInt8) (i n : Nat) : (setTw l i n).length = l.length := by simp [setTw]
/-- The first i slots are laid. -/
def layN (b : List UInt8) (xs : List (Nat × Nat)) : Nat → List UInt8
  | 0 => b
  | i + 1 => setTw (setTw (layN b xs i) (4 + 4 * i) (xs.getD i (0, 0)).1) (4 + 4 * i + 2) (xs.getD i (0, 0)).2
@[simp] theorem layN_length (b : List UInt8) (xs : List (Nat × Nat)) : ∀ i, (layN b xs i).length = b.length
  | 0 => rfl
  | i + 1 => by simp [layN, layN_length b xs i]
def withB (b : List UInt8) (xs : List (Nat × Nat)) (heap : Nat) : List UInt8 := layN (setTw (setTw b 0 xs.length) 2 heap) xs xs.length
@[simp] theorem withB_length (b : List UInt8) (xs : List (Nat × Nat)) (heap : Nat) : (withB b xs heap).length = b.length := by simp [withB]

theorem with_spec (b : List UInt8) (xs : List (Nat × Nat)) (ab al : Option Addr) (n c cap m cl heap : Nat) (hb : 4 + 4 * xs.length ≤ b.length) (hl : b.length < 1000) (hn : b.length = n) (hm : xs.length = m)
    (hx : ∀ x ∈ xs, x.1 < 100000 ∧ x.2 < 100000) (hh : heap < 100000) :
    Spec Try.prog 48 [.slice ab n c, .slice al m cl, .int .i64 heap] [.row ab cap 5 1 (bytesV b), .view al 81 (slV xs)] (fun v O => v = .string ⟨⟨withB b xs heap⟩⟩ ∧ O = []) := by
  refine Spec.of_ev S_ok S_mixed Try.func48 rfl rfl ?_
  refine EvCall.mk _ _ _ (put_spec b ab n c cap 0 m (by omega) (by omega) hn (by omega)) (.own .here rfl .nil) ?_
  rintro _ _ ⟨rfl, rfl⟩
  refine EvCall.mk _ _ _ (put_spec _ ab n c cap 2 heap (by simp; omega) (by simp; omega) (by simpa using hn) (by omega)) (.own .here rfl .nil) ?_
  rintro _ _ ⟨rfl, rfl⟩
  conv => whnf
  refine EvLoop.mk (α := Nat) (fun i => i ≤ m) (fun i => m - i) (fun i => [(18, .int .i64 i)]) (fun i => [.row ab cap 5 1 (bytesV (layN (setTw (setTw b 0 m) 2 heap) xs i)), .view al 81 (slV xs)]) ?_ ?_
  · exact ⟨0, by omega, ⟨rfl, trivial⟩, rfl, .cons .here (.cons .here .nil)⟩
  intro i hi
  refine EvNow.mk rfl ?_
  refine EvIf.br (EvBr.dec _ _ rfl ?_ ?_)
  · intro hlt
    have hlt : i < m := by omega
    have hxi : xs[i]? = some xs[i] := by simp [hm, hlt]
    have hgi : xs.getD i (0, 0) = xs[i] := by simp [List.getD, hm, hlt]
    obtain ⟨h1, h2⟩ := hx xs[i] (List.getElem_mem _)
    refine EvIdx.sl i rfl hlt (by rw [slV_length]; omega) ?_
    refine EvLoadN.mk (i * 2) rfl _ rfl (slV_get hxi) ?_
    refine EvNew.mk fun q => ?_
    repeat ((conv => whnf); (first | (first | refine nowA ?_ | refine numN ?_ | refine numI ?_ | refine EvVal.ofN ?_ | refine EvNew.mk fun _ => ?_ | refine EvLoad.mk _ rfl _ rfl ?_ | refine divA ?_) | refine loadNA ?_ | refine EvStore.lit ⟨rfl, by decide⟩ (by rfl) ?_))
    refine EvCall.mk _ _ _ (put_spec _ ab n c cap (4 + 4 * i) xs[i].1 (by simp; omega) (by simp; omega) (by simpa using hn) (by omega)) (.own (.there .here) rfl .nil) ?_
    rintro _ _ ⟨rfl, rfl⟩
    repeat ((conv => whnf); (first | (first | refine nowA ?_ | refine numN ?_ | refine numI ?_ | refine EvVal.ofN ?_ | refine EvNew.mk fun _ => ?_ | refine EvLoad.mk _ rfl _ rfl ?_ | refine divA ?_) | refine loadNA ?_ | refine EvStore.lit ⟨rfl, by decide⟩ (by rfl) ?_))
    refine EvCall.mk _ _ _ (put_spec _ ab n c cap (4 + 4 * i + 2) xs[i].2 (by simp; omega) (by simp; omega) (by simpa using hn) (by omega)) (.own .here rfl .nil) ?_
    rintro _ _ ⟨rfl, rfl⟩
    repeat ((conv => whnf); (first | (first | refine nowA ?_ | refine numN ?_ | refine numI ?_ | refine EvVal.ofN ?_ | refine EvNew.mk fun _ => ?_ | refine EvLoad.mk _ rfl _ rfl ?_ | refine divA ?_) | refine loadNA ?_ | refine EvStore.lit ⟨rfl, by decide⟩ (by rfl) ?_))
    rw [← hgi]
    refine ⟨i + 1, ⟨by omega, by omega⟩, ⟨rfl, trivial⟩, rfl, .cons .here (.cons (.there .here) .nil)⟩
  · intro hge
    have e : i = m := by omega
    subst e
    refine EvStr.mk (layN (setTw (setTw b 0 i) 2 heap) xs i) (by simp [hn]) (bytesV_take_all (by simp [hn])) ?_
    rw [← hm]
    refine EvRet.mk [] .nil rfl ⟨rfl, rfl⟩

end Go.Proofs.Ytloknkdomgeolaa.She
