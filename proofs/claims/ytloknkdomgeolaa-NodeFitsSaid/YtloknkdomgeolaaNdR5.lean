/- NodeFits: whatever the arguments, the law answers true, and each reads as it did. -/
import Derived.Test.YtloknkdomgeolaaRows
import Derived.Test.YtloknkdomgeolaaNdK
import Derived.Test.YtloknkdomgeolaaNdP
import Derived.ProofKit
import Derived.SizedLaws
namespace Go.Proofs.Ytloknkdomgeolaa
set_option linter.all false
open Go.ChangeShapes Go.WideShapes Go.ChangeAt Go.RowKit Go.ChangeMaps

theorem own : ownKnob Try.prog.godebug = none := by kernel_rfl
theorem laidOut : laidOutB Try.prog = true := by kernel_rfl

set_option maxRecDepth 100000 in
theorem nodeFits_lifted (os : Os) (started : os.Started) (H : Type) (enc : TypeId × Value → H) :
    ReturnsInHanded {} Try.checked os 12 .any (Rows.nodeFitsSpec.pre6 enc Try.prog Try.f12 Rows.nodeFitsRow.domain false) (Rows.nodeFitsSpec.post enc Try.prog Try.f12 false true false false) := by
  refine returnsInHanded_of_change_sized (C := Try.checked) own started (by kernel_rfl) Try.func12
    (ChangeSpec.witness6 (enc := enc) (C := Try.checked) false ⟨#[], #[.agg #[.bool false, .slice none 0 0], .agg #[.string ⟨#[]⟩, .string ⟨#[]⟩, .int .i64 0]], []⟩ 8 (by kernel_rfl) (by kernel_rfl) (by kernel_rfl) (by kernel_rfl)) ?_
  intro W base args ds gs before hval0 hW _ hsz0 _
  have hval : ∀ (j : Nat) t v, Try.f12.params[j]? = some t → args[j]? = some v → Value.okWide Try.prog W .any base t v := hval0
  have hW' := hW
  obtain ⟨p, q, hA0, hV, rfl, _, _⟩ := hW
  have hA : DataW.TrodAll enc Try.prog W 0 (fun _ => true) true Try.f12.params.toList args.toList ds p := hA0
  rw [Try.params12] at hA hval
  obtain ⟨v0, v1, d0, d1, p0, p1, rfl, rfl, rfl, h0, h1⟩ := trodAll_two hA
  obtain ⟨rfl, rfl⟩ := trodVars_none hV
  have k0 := h0
  obtain ⟨⟨cs0⟩, rfl, hcs0⟩ := okWide_struct Try.underlying53 (hval 0 53 v0 rfl rfl)
  obtain ⟨fuel0, hf0⟩ := h0
  have k1 := h1
  obtain ⟨⟨cs1⟩, rfl, hcs1⟩ := okWide_struct Try.underlying70 (hval 1 70 v1 rfl rfl)
  obtain ⟨fuel1, hf1⟩ := h1
  clear hA0 hval0
  simp only [List.append_nil] at hW'
  obtain ⟨leaf0, a0, len0, cap0, l0, x0, x1, x2, x3, x4, x5⟩ := She.open_node (e' := 70) Try.underlying53 Try.underlying4 Try.underlying51 Try.underlying70 Try.underlying3 Try.underlying9 ⟨rfl, rfl⟩ ⟨rfl, rfl⟩ ⟨rfl, rfl⟩ ⟨rfl, rfl⟩ ⟨rfl, rfl⟩ (by kernel_rfl) (by kernel_rfl) (by kernel_rfl) (by kernel_rfl) (by kernel_rfl) (by kernel_rfl) (show DataW.trod enc Try.prog W 0 (fun _ => true) true fuel0 53 cs0 = _ by simpa [Value.cells] using hf0)
  subst x0
  obtain ⟨y1, z0, z1, z2⟩ := She.open_entry Try.underlying70 Try.underlying3 Try.underlying9 ⟨rfl, rfl⟩ ⟨rfl, rfl⟩ ⟨rfl, rfl⟩ (by kernel_rfl) (by kernel_rfl) (by kernel_rfl) (show DataW.trod enc Try.prog W 0 (fun _ => true) true fuel1 70 cs1 = _ by simpa [Value.cells] using hf1)
  subst z0
  have hsz : (DataW.weightsEach Try.prog [53, 70] [d0, d1]).all (fun (x : Nat) => decide (x ≤ reachBytes)) = true := hsz0
  refine ((She.nodeFits_spec leaf0 l0 y1 a0 len0 cap0 x1 x2 (by omega) x4 ⟨z1, z2⟩).calls W (fun it hit => ?_) ?_ ?_).mono fun e W' ⟨v, O', he, ⟨hv, _⟩, hl⟩ => ?_
  · cases hit with | head => exact x5 | tail _ h => cases h
  · simp [She.owned, She.Item.owned]
  · simp [She.owned, She.shared, She.Item.owned]
  subst he; subst hv
  have hb : Below W.heap.size W W' := hl.keep.below (fun k hk => by simp [She.owned, She.Item.owned] at hk)
  have hlt0 : ∀ x ∈ p0, x.block < W.heap.size := fun x hx => by exact hW'.lt x (by simp [hx])
  have hlt1 : ∀ x ∈ p1, x.block < W.heap.size := fun x hx => by exact hW'.lt x (by simp [hx])
  refine ⟨_, rfl, _, _, _, [], _, [], hW', ?_, trodAll_mk2 (Below.trod laidOut (by kernel_rfl) (of_decide_eq_true (by kernel_rfl)) k0 hb hlt0) (Below.trod laidOut (by kernel_rfl) (of_decide_eq_true (by kernel_rfl)) k1 hb hlt1), rfl, hb.frame _, fun h => by cases h⟩
  exact trodAll_mk1 (shut_bool Try.underlying4 true)

theorem nodeFits_holds : Rows.NodeFitsSaid :=
  OpenClaim.holds_of_wide 12 Try.f12 rfl rfl rfl rfl rfl rfl rfl ⟨rfl, rfl, rfl, rfl, rfl⟩ rfl rfl rfl rfl rfl (by kernel_rfl) Try.func12 (by kernel_rfl)
    (of_decide_eq_true (by kernel_rfl)) (by unfold Func.isWrapper; first | (rw [if_pos (by decide +kernel)]; kernel_rfl) | (rw [if_neg (by decide +kernel)]; exact ⟨rfl, rfl⟩))
    (fun os started H enc _ => nodeFits_lifted os started H enc)

end Go.Proofs.Ytloknkdomgeolaa
