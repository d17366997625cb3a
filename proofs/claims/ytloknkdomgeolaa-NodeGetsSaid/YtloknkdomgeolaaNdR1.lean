/- NodeGets: whatever the arguments, the law answers true, and each reads as it did. -/
import Derived.Test.YtloknkdomgeolaaRows
import Derived.Test.YtloknkdomgeolaaNdH
import Derived.ProofKit
import Derived.SizedLaws
namespace Go.Proofs.Ytloknkdomgeolaa
set_option linter.all false
open Go.ChangeShapes Go.WideShapes Go.ChangeAt Go.RowKit Go.ChangeMaps

theorem own : ownKnob Try.prog.godebug = none := by kernel_rfl
theorem laidOut : laidOutB Try.prog = true := by kernel_rfl

set_option maxRecDepth 100000 in
theorem nodeGets_lifted (os : Os) (started : os.Started) (H : Type) (enc : TypeId × Value → H) :
    ReturnsInHanded {} Try.checked os 9 .any (Rows.nodeGetsSpec.pre6 enc Try.prog Try.f9 Rows.nodeGetsRow.domain false) (Rows.nodeGetsSpec.post enc Try.prog Try.f9 false true false false) := by
  refine returnsInHanded_of_change_sized (C := Try.checked) own started (by kernel_rfl) Try.func9
    (ChangeSpec.witness6 (enc := enc) (C := Try.checked) false ⟨#[], #[.string ⟨#[]⟩], []⟩ 8 (by kernel_rfl) (by kernel_rfl) (by kernel_rfl) (by kernel_rfl)) ?_
  intro W base args ds gs before hval0 hW _ hsz0 _
  have hval : ∀ (j : Nat) t v, Try.f9.params[j]? = some t → args[j]? = some v → Value.okWide Try.prog W .any base t v := hval0
  have hW' := hW
  obtain ⟨p, q, hA0, hV, rfl, _, _⟩ := hW
  have hA : DataW.TrodAll enc Try.prog W 0 (fun _ => true) true Try.f9.params.toList args.toList ds p := hA0
  rw [Try.params9] at hA hval
  obtain ⟨v0, d0, rfl, rfl, h0⟩ := trodAll_one hA
  obtain ⟨rfl, rfl⟩ := trodVars_none hV
  have k0 := h0
  obtain ⟨⟨⟨s0⟩⟩, rfl, rfl, rfl, hs0⟩ := open_string Try.underlying9 (hval 0 9 v0 rfl rfl) h0
  clear hA0 hval0
  simp only [List.append_nil] at hW'
  have hsz : (DataW.weightsEach Try.prog [9] [.lit (.string s0)]).all (fun (x : Nat) => decide (x ≤ reachBytes)) = true := hsz0
  have hr0 : s0.length < 9223372036854775807 := by
    have := sized_string hsz (j := 0) (t := 9) rfl rfl
    simp only [reachBytes] at this
    omega
  refine ((She.nodeGets_spec s0 hr0).calls W (fun it hit => ?_) ?_ ?_).mono fun e W' ⟨v, O', he, ⟨hv, _⟩, hl⟩ => ?_
  · cases hit
  · simp [She.owned, She.Item.owned]
  · simp [She.owned, She.shared, She.Item.owned]
  subst he; subst hv
  have hb : Below W.heap.size W W' := hl.keep.below (fun k hk => by simp [She.owned, She.Item.owned] at hk)
  have hlt0 : ∀ x ∈ ([] : List MemPlace), x.block < W.heap.size := fun x hx => by cases hx
  refine ⟨_, rfl, _, _, _, [], [], [], hW', ?_, trodAll_mk1 (Below.trod laidOut (by kernel_rfl) (of_decide_eq_true (by kernel_rfl)) k0 hb hlt0), rfl, hb.frame _, fun h => by cases h⟩
  exact trodAll_mk1 (shut_bool Try.underlying4 true)

theorem nodeGets_holds : Rows.NodeGetsSaid :=
  OpenClaim.holds_of_wide 9 Try.f9 rfl rfl rfl rfl rfl rfl rfl ⟨rfl, rfl, rfl, rfl, rfl⟩ rfl rfl rfl rfl rfl (by kernel_rfl) Try.func9 (by kernel_rfl)
    (of_decide_eq_true (by kernel_rfl)) (by unfold Func.isWrapper; first | (rw [if_pos (by decide +kernel)]; kernel_rfl) | (rw [if_neg (by decide +kernel)]; exact ⟨rfl, rfl⟩))
    (fun os started H enc _ => nodeGets_lifted os started H enc)

end Go.Proofs.Ytloknkdomgeolaa
