/- The walks of the functions of slots: what is read of a payload. -/
import Derived.Test.YtloknkdomgeolaaSlD
namespace Go.Proofs.Ytloknkdomgeolaa.She
set_option linter.all false
open Go
set_option pp.maxSteps 600
set_option maxRecDepth 10000

/-- The bytes of a slot. -/
def cutB (l : List UInt8) (x : Nat × Nat) : List UInt8 := (l.take (x.1 + x.2)).drop x.1
def recsOf (l : List UInt8) (n : Nat) : List (List UInt8) := (slotsOf l n).map (cutB l)
@[simp] theorem recsOf_length (l : List UInt8) (n : Nat) : (recsOf l n).length = n := by simp [recsOf]
theorem recsOf_succ (l : List UInt8) (n : Nat) : recsOf l (n + 1) = recsOf l n ++ [cutB l (slot l n)] := by simp [recsOf, slotsOf_succ]
/-- The records of a payload; none, if it is not sound. -/
def recs (l : List UInt8) : List (List UInt8) := if chk l = 0 then recsOf l (tw l 0) else []

theorem chk_zero {l : List UInt8} (h : chk l = 0) : l.length = 232 ∧ SoundP l := by
  unfold chk at h
  split at h
  · split at h
    · exact ⟨by assumption, by assumption⟩
    · cases h
  · cases h
theorem chk_of {l : List UInt8} (h : l.length = 232) (hs : SoundP l) : chk l = 0 := by simp [chk, h, hs]
theorem chk_le (l : List UInt8) : 0 ≤ chk l ∧ chk l ≤ 14 := by
  unfold chk; split
  · split <;> omega
  · omega

/-- The room that is left when the first n slots are counted. -/
def roomN (l : List UInt8) : Nat → Int
  | 0 => 228
  | n + 1 => roomN l n - (4 + (slot l n).2)
theorem roomN_bd (l : List UInt8) : ∀ n, roomN l n ≤ 228 ∧ -70000 * (n : Int) ≤ roomN l n
  | 0 => by simp [roomN]
  | n + 1 => by
    have := roomN_bd l n
    have := (slot_lt l n).2
    simp only [roomN]; omega
def room (l : List UInt8) : Int := if chk l = 0 then roomN l (tw l 0) else 0

theorem room_spec (l : List UInt8) (hl : l.length < 9223372036854775807) : Spec Try.prog 26 [.string ⟨⟨l⟩⟩] [] (fun v O => v = .int .i64 (room l) ∧ O = []) := by
  refine Spec.of_ev S_ok S_mixed Try.func26 rfl rfl ?_
  refine EvCall.mk [] [] _ (chk_spec l hl) .nil ?_
  rintro _ _ ⟨rfl, rfl⟩
  repeat ((conv => whnf); (first | refine nowA ?_ | refine numN ?_ | refine numI ?_ | refine EvVal.ofN ?_ | refine EvNew.mk fun _ => ?_ | refine EvLoad.mk _ rfl _ rfl ?_ | refine divA ?_))
  refine EvIf.br (EvBr.dec _ _ rfl (fun h => ?_) (fun h => ?_))
  · refine EvRet.mk [] .nil rfl ⟨?_, rfl⟩
    simp [oneOr, room, h]
  have h0 : chk l = 0 := by omega
  obtain ⟨h1, h2⟩ := chk_zero h0
  have t1 := h2.1
  have t2 := h2.2.1
  refine EvCall.mk [] [] _ (list_spec l (by omega) (by omega)) .nil ?_
  rintro _ _ ⟨ao, cap, hcap, rfl, rfl⟩
  conv => whnf
  refine EvLoop.mk (α := Nat) (fun i => i ≤ tw l 0) (fun i => tw l 0 - i) (fun i => [(12, .int .i64 i), (3, .int .i64 (roomN l i))]) (fun _ => [.row ao cap 81 2 (slV (slotsOf l (tw l 0)))]) ?_ ?_
  · exact ⟨0, by omega, ⟨rfl, rfl, trivial⟩, rfl, .cons .here .nil⟩
  rintro i hi
  repeat ((conv => whnf); (first | refine nowA ?_ | refine numN ?_ | refine numI ?_ | refine EvVal.ofN ?_ | refine EvNew.mk fun _ => ?_ | refine EvLoad.mk _ rfl _ rfl ?_ | refine divA ?_))
  refine EvIf.br (EvBr.dec _ _ rfl (fun h => ?_) (fun h => ?_))
  · have hlt : i < tw l 0 := by omega
    refine EvIdx.row i rfl hlt (by rw [slV_length]; simp; omega) ?_
    refine EvLoadN.mk (i * 2) rfl _ rfl (slV_get (slotsOf_get l hlt)) ?_
    refine EvNew.mk fun q => ?_
    have hq := slot_lt l i
    have hb := roomN_bd l i
    repeat ((conv => whnf); (first | (first | refine nowA ?_ | refine numN ?_ | refine numI ?_ | refine EvVal.ofN ?_ | refine EvNew.mk fun _ => ?_ | refine EvLoad.mk _ rfl _ rfl ?_ | refine divA ?_) | refine loadNA ?_ | refine EvStore.lit ⟨rfl, by decide⟩ (by rfl) ?_))
    refine ⟨i + 1, ⟨by omega, by omega⟩, ⟨rfl, ?_, trivial⟩, rfl, .cons (.there .here) .nil⟩
    simp only [getF, roomN]
    simp
  refine EvRet.mk [] .nil rfl ⟨?_, rfl⟩
  rw [show i = tw l 0 by omega]
  simp [oneOr, room, h0]

theorem all_spec (l : List UInt8) (hl : l.length < 9223372036854775807) : Spec Try.prog 20 [.string ⟨⟨l⟩⟩] []
    (fun v O => ∃ ao cap, (recs l).length ≤ cap ∧ v = .tuple #[.slice ao (recs l).length cap, .int .i64 (chk l)] ∧ O = [.row ao cap 9 1 (strV (recs l))]) := by
  refine Spec.of_ev S_ok S_mixed Try.func20 rfl rfl ?_
  refine EvCall.mk [] [] _ (chk_spec l hl) .nil ?_
  rintro _ _ ⟨rfl, rfl⟩
  repeat ((conv => whnf); (first | refine nowA ?_ | refine numN ?_ | refine numI ?_ | refine EvVal.ofN ?_ | refine EvNew.mk fun _ => ?_ | refine EvLoad.mk _ rfl _ rfl ?_ | refine divA ?_))
  refine EvIf.br (EvBr.dec _ _ rfl (fun h => ?_) (fun h => ?_))
  · refine EvRet.mk [.row none 0 9 1 []] (.none .nil) rfl ⟨none, 0, by simp [recs, h], ?_, ?_⟩
    · simp [oneOr, recs, h]
    · simp [recs, h]; rfl
  have h0 : chk l = 0 := by omega
  obtain ⟨h1, h2⟩ := chk_zero h0
  have t1 := h2.1
  have t2 := h2.2.1
  have hr : recs l = recsOf l (tw l 0) := by simp [recs, h0]
  refine EvCall.mk [] [] _ (list_spec l (by omega) (by omega)) .nil ?_
  rintro _ _ ⟨ao, cap, hcap, rfl, rfl⟩
  conv => whnf
  refine EvLoop.mk (α := Nat × Option Addr × Nat) (fun x => x.1 ≤ tw l 0 ∧ x.1 ≤ x.2.2) (fun x => tw l 0 - x.1) (fun x => [(16, .int .i64 x.1), (5, .slice x.2.1 x.1 x.2.2)]) (fun x => [.row x.2.1 x.2.2 9 1 (strV (recsOf l x.1)), .row ao cap 81 2 (slV (slotsOf l (tw l 0)))]) ?_ ?_
  · exact ⟨(0, none, 0), ⟨by omega, by omega⟩, ⟨rfl, rfl, trivial⟩, rfl, .none (.cons .here .nil)⟩
  rintro ⟨i, ap, cp⟩ ⟨hi, hcp⟩
  dsimp only at hi hcp ⊢
  repeat ((conv => whnf); (first | refine nowA ?_ | refine numN ?_ | refine numI ?_ | refine EvVal.ofN ?_ | refine EvNew.mk fun _ => ?_ | refine EvLoad.mk _ rfl _ rfl ?_ | refine divA ?_))
  refine EvIf.br (EvBr.dec _ _ rfl (fun h => ?_) (fun h => ?_))
  · have hlt : i < tw l 0 := by omega
    have hb := (h2.2.2 i hlt).1
    refine EvIdx.row i rfl hlt (by rw [slV_length]; simp; omega) ?_
    refine EvLoadN.mk (i * 2) rfl _ rfl (slV_get (slotsOf_get l hlt)) ?_
    refine EvNew.mk fun q => ?_
    repeat ((conv => whnf); (first | (first | refine nowA ?_ | refine numN ?_ | refine numI ?_ | refine EvVal.ofN ?_ | refine EvNew.mk fun _ => ?_ | refine EvLoad.mk _ rfl _ rfl ?_ | refine divA ?_) | refine loadNA ?_ | refine EvStore.lit ⟨rfl, by decide⟩ (by rfl) ?_))
    refine EvCall.mk [] _ _ (rec_spec l (slot l i).1 (slot l i).2 (by omega) (by omega)) .nil ?_
    rintro _ _ ⟨rfl, rfl⟩
    repeat ((conv => whnf); (first | refine nowA ?_ | refine numN ?_ | refine numI ?_ | refine EvVal.ofN ?_ | refine EvNew.mk fun _ => ?_ | refine EvLoad.mk _ rfl _ rfl ?_ | refine divA ?_))
    refine EvSrc.mk 1 (strV [cutB l (slot l i)]) (src_sl S_ok rfl rfl (by decide) 1 1 _ rfl (by simp) rfl) ?_
    refine EvApp.own ⟨rfl, rfl, rfl, by decide⟩ (by simp) (allOne_strV _) (by omega) (i + 1) rfl ?_
    intro ao' cap' hcap'
    rw [← strV_append, ← recsOf_succ]
    repeat ((conv => whnf); (first | refine nowA ?_ | refine numN ?_ | refine numI ?_ | refine EvVal.ofN ?_ | refine EvNew.mk fun _ => ?_ | refine EvLoad.mk _ rfl _ rfl ?_ | refine divA ?_))
    refine ⟨(i + 1, ao', cap'), ⟨⟨by dsimp only; omega, hcap'⟩, by dsimp only; omega⟩, ⟨rfl, rfl, trivial⟩, rfl, .cons (.there (.there .here)) (.cons (.there (.there .here)) .nil)⟩
  · have e : i = tw l 0 := by omega
    subst e
    refine EvRet.mk [_] (.cons .here .nil) rfl ⟨ap, cp, by rw [hr]; simpa using hcp, ?_, by rw [hr]⟩
    rw [hr]
    simp [oneOr, h0]

theorem empty_spec : Spec Try.prog 14 [] [] (fun v O => v = .string ⟨⟨setTw (List.replicate 232 0) 2 232⟩⟩ ∧ O = []) := by
  refine Spec.of_ev S_ok S_mixed Try.func14 rfl rfl ?_
  refine EvMake.mk (by omega) (by decide) (by decide) (by decide) 232 232 rfl rfl fun b => ?_
  rw [zerosV_u8]
  refine EvCall.mk _ _ _ (put_spec _ _ 232 232 232 2 232 (by simp) (by simp) (by simp) (by omega)) (.own .here rfl .nil) ?_
  rintro _ _ ⟨rfl, rfl⟩
  conv => whnf
  refine EvStr.mk _ (by simp) (bytesV_take_all (by simp)) ?_
  refine EvRet.mk [] .nil rfl ⟨rfl, rfl⟩

end Go.Proofs.Ytloknkdomgeolaa.She
