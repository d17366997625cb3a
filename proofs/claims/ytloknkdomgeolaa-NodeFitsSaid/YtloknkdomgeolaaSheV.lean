/- Part of a small program logic: helpers for threads. -/
import Derived.Test.YtloknkdomgeolaaSheU
namespace Go.Proofs.Ytloknkdomgeolaa.She
set_option linter.all false
open Go

/-! ### What is kept beside threads -/
inductive Kp : SH → SH → Prop
  | all {L : SH} : Kp L L
  | keep {x : Item} {L0 L : SH} (h : Kp L0 L) : Kp (x :: L0) (x :: L)
  | junk {x : Item} {L0 L : SH} (hs : x.shared = []) (h : Kp L0 L) : Kp L0 (x :: L)
theorem Kp.keeps {L0 L : SH} (h : Kp L0 L) : ∃ J, Keeps L0 L J := by
  induction h with
  | all => exact ⟨[], Keeps.refl _⟩
  | keep _ ih => obtain ⟨J, h⟩ := ih; exact ⟨J, .keep h⟩
  | junk hs _ ih => obtain ⟨J, h⟩ := ih; exact ⟨_, .junk hs h⟩
theorem keepW {L0 L : SH} {v w : Value} (hw : v = w) (hk : Kp L0 L) : EvKeepJ L0 L (fun _ => v = w) := by
  obtain ⟨J, h⟩ := hk.keeps
  exact ⟨J, h, hw⟩
theorem keepE {L0 L : SH} {p : Prop} (hk : Kp L0 L) (h : p) : EvKeep L0 L p := by
  obtain ⟨J, hk⟩ := hk.keeps
  exact ⟨J, hk, h⟩
end Go.Proofs.Ytloknkdomgeolaa.She
