/- The walks of the functions of slots. -/
import Derived.Test.YtloknkdomgeolaaSheT
namespace Go.Proofs.Ytloknkdomgeolaa.She
set_option linter.all false
open Go
set_option pp.maxSteps 600

theorem or_i64 (a b c : Nat) (ha : a < 2 ^ 50) (hb : b < 256) (hc : c = a * 256 + b) : bitsI .or .i64 ((a * 256 : Nat) : Int) (b : Int) = (c : Int) := by
  have h : (BitVec.ofInt 64 ((a * 256 : Nat) : Int) ||| BitVec.ofInt 64 ((b : Nat) : Int)).toNat = c := by
    rw [BitVec.toNat_or, BitVec.ofInt_natCast, BitVec.ofInt_natCast, BitVec.toNat_ofNat, BitVec.toNat_ofNat, Nat.mod_eq_of_lt (by omega), Nat.mod_eq_of_lt (by omega), hc]
    have := Nat.two_pow_add_eq_or_of_lt (i := 8) (b := b) (by omega) a
    rw [Nat.mul_comm]
    exact this.symm
  show IntKind.wrap .i64 ((BitVec.ofInt 64 ((a * 256 : Nat) : Int) ||| BitVec.ofInt 64 ((b : Nat) : Int)).toNat : Int) = _
  rw [h]
  exact fit_i64 (by omega) (by omega)

/-- Two bytes as a number. -/
def tw (l : List UInt8) (i : Nat) : Nat := nb l i * 256 + nb l (i + 1)
theorem tw_lt (l : List UInt8) (i : Nat) : tw l i < 65536 := by
  have := nb_lt l i; have := nb_lt l (i + 1); unfold tw; omega

theorem two_spec (l : List UInt8) (i : Nat) (h : i + 1 < l.length) (hl : l.length < 9223372036854775807) : Spec Try.prog 47 [.string ⟨⟨l⟩⟩, .int .i64 i] [] (fun v O => v = .int .i64 (tw l i) ∧ O = []) := by
  refine Spec.of_ev S_ok S_mixed Try.func47 rfl rfl ?_
  refine EvDraw.mk (.take 0 (.take 1 (.take 2 (.take 3 (.take 4 (.take 5 (.take 6 (.take 7 (.take 8 (.take 9 (.take 10 (.take 11 .nil)))))))))))) (by kernel_rfl) ?_
  have h1 := nb_lt l i
  have h2 := nb_lt l (i + 1)
  repeat ((conv => whnf); (first | refine nowA ?_ | refine numN ?_ | refine numI ?_ | refine EvVal.ofN ?_ | refine EvNew.mk fun _ => ?_ | refine EvLoad.mk _ rfl _ rfl ?_ | refine divA ?_))
  refine EvPow.mk 256 (by decide) ?_
  repeat ((conv => whnf); (first | refine nowA ?_ | refine numN ?_ | refine numI ?_ | refine EvVal.ofN ?_ | refine EvNew.mk fun _ => ?_ | refine EvLoad.mk _ rfl _ rfl ?_ | refine divA ?_))
  refine EvVal.eq (tw l i) (or_i64 (nb l i) (nb l (i + 1)) _ (by omega) h2 rfl) ?_
  refine EvRet.mk [] .nil rfl ⟨rfl, rfl⟩

theorem rec_spec (l : List UInt8) (a n : Nat) (h : a + n ≤ l.length) (hl : l.length < 9223372036854775807) : Spec Try.prog 51 [.string ⟨⟨l⟩⟩, .agg #[.int .i64 a, .int .i64 n]] [] (fun v O => v = .string ⟨⟨(l.take (a + n)).drop a⟩⟩ ∧ O = []) := by
  refine Spec.of_ev S_ok S_mixed Try.func51 rfl rfl ?_
  repeat ((conv => whnf); (first | refine nowA ?_ | refine numN ?_ | refine numI ?_ | refine EvVal.ofN ?_ | refine EvNew.mk fun _ => ?_ | refine EvLoad.mk _ rfl _ rfl ?_ | refine divA ?_))
  refine EvVal.rfl ?_
  refine EvRet.mk [] .nil rfl ⟨rfl, rfl⟩

def twoB (n : Nat) : List UInt8 := [UInt8.ofNat (n / 256), UInt8.ofNat n]
/-- Two bytes laid. -/
def setTw (l : List UInt8) (i n : Nat) : List UInt8 := (l.set i (UInt8.ofNat (n / 256))).set (i + 1) (UInt8.ofNat n)

theorem put_spec (l : List UInt8) (ao : Option Addr) (n c cap i m : Nat) (h : i + 1 < l.length) (hl : l.length < 9223372036854775807) (hn : l.length = n) (hm : m < 9223372036854775807) :
    Spec Try.prog 49 [.slice ao n c, .int .i64 i, .int .i64 m] [.row ao cap 5 1 (bytesV l)] (fun v O => v = .tuple #[] ∧ O = [.row ao cap 5 1 (bytesV (setTw l i m))]) := by
  refine Spec.of_ev S_ok S_mixed Try.func49 rfl rfl ?_
  repeat ((conv => whnf); (first | refine nowA ?_ | refine numN ?_ | refine numI ?_ | refine EvVal.ofN ?_ | refine EvNew.mk fun _ => ?_ | refine EvLoad.mk _ rfl _ rfl ?_ | refine divA ?_))
  refine EvPow.mk 256 (by decide) ?_
  refine EvVal.nat ?_
  refine EvNum.to _ (wrap_u8 _) ?_
  refine EvNum.to _ (wrap_u8 _) ?_
  refine EvIdx.row i rfl (by omega) (by simp; omega) ?_
  repeat ((conv => whnf); (first | refine nowA ?_ | refine numN ?_ | refine numI ?_ | refine EvVal.ofN ?_ | refine EvNew.mk fun _ => ?_ | refine EvLoad.mk _ rfl _ rfl ?_ | refine divA ?_))
  refine EvStore.mk ⟨rfl, by decide⟩ (by rfl) (by simp; omega) (bytesV (l.set i (UInt8.ofNat (m / 256)))) (by simp only [setCells, Nat.mul_one, bytesV_set]) ?_
  refine EvIdx.row (i + 1) rfl (by omega) (by simp; omega) ?_
  repeat ((conv => whnf); (first | refine nowA ?_ | refine numN ?_ | refine numI ?_ | refine EvVal.ofN ?_ | refine EvNew.mk fun _ => ?_ | refine EvLoad.mk _ rfl _ rfl ?_ | refine divA ?_))
  refine EvStore.mk ⟨rfl, by decide⟩ (by rfl) (by simp; omega) (bytesV (setTw l i m)) (by simp only [setCells, Nat.mul_one, bytesV_set]; rfl) ?_
  refine EvRet.mk [_] (.cons .here .nil) rfl ⟨rfl, rfl⟩
end Go.Proofs.Ytloknkdomgeolaa.She
