/- SlotsChecks: whatever the arguments, the law answers true, and each reads as it did. -/
import Derived.Test.YtloknkdomgeolaaRows
import Derived.Test.YtloknkdomgeolaaSlN
import Derived.ProofKit
import Derived.SizedLaws
namespace Go.Proofs.Ytloknkdomgeolaa
set_option linter.all false
open Go.ChangeShapes Go.WideShapes Go.ChangeAt Go.RowKit Go.ChangeMaps

theorem own : ownKnob Try.prog.godebug = none := by kernel_rfl
theorem laidOut : laidOutB Try.prog = true := by kernel_rfl

set_option maxRecDepth 100000 in
theorem slotsChecks_lifted (os : Os) (started : os.Started) (H : Type) (enc : TypeId × Value → H) :
    ReturnsInHanded {} Try.checked os 5 .any (Rows.slotsChecksSpec.pre6 enc Try.prog Try.f5 Rows.slotsChecksRow.domain false) (Rows.slotsChecksSpec.post enc Try.prog Try.f5 false true false false) := by
  refine returnsInHanded_of_change_sized (C := Try.checked) own started (by kernel_rfl) Try.func5
    (ChangeSpec.witness6 (enc := enc) (C := Try.checked) false ⟨#[], #[.string ⟨#[]⟩, .int .i64 0, .string ⟨#[]⟩], []⟩ 8 (by kernel_rfl) (by kernel_rfl) (by kernel_rfl) (by kernel_rfl)) ?_
  intro W base args ds gs before hval0 hW _ hsz0 _
  have hval : ∀ (j : Nat) t v, Try.f5.params[j]? = some t → args[j]? = some v → Value.okWide Try.prog W .any base t v := hval0
  have hW' := hW
  obtain ⟨p, q, hA0, hV, rfl, _, _⟩ := hW
  have hA : DataW.TrodAll enc Try.prog W 0 (fun _ => true) true Try.f5.params.toList args.toList ds p := hA0
  rw [Try.params5] at hA hval
  obtain ⟨v0, v1, v2, d0, d1, d2, p0, p1, p2, rfl, rfl, rfl, h0, h1, h2⟩ := trodAll_three hA
  obtain ⟨rfl, rfl⟩ := trodVars_none hV
  have k0 := h0
  obtain ⟨⟨⟨s0⟩⟩, rfl, rfl, rfl, hs0⟩ := open_string Try.underlying9 (hval 0 9 v0 rfl rfl) h0
  have k1 := h1
  obtain ⟨n1, rfl, rfl, rfl, wn1⟩ := open_int Try.underlying3 (hval 1 3 v1 rfl rfl) h1
  have k2 := h2
  obtain ⟨⟨⟨s2⟩⟩, rfl, rfl, rfl, hs2⟩ := open_string Try.underlying9 (hval 2 9 v2 rfl rfl) h2
  clear hA0 hval0
  simp only [List.append_nil] at hW'
  have hsz : (DataW.weightsEach Try.prog [9, 3, 9] [.lit (.string s0), .lit (.int .i64 n1), .lit (.string s2)]).all (fun (x : Nat) => decide (x ≤ reachBytes)) = true := hsz0
  have hr0 : s0.length < 9223372036854775807 := by
    have := sized_string hsz (j := 0) (t := 9) rfl rfl
    simp only [reachBytes] at this
    omega
  have hr2 : s2.length < 9223372036854775807 := by
    have := sized_string hsz (j := 2) (t := 9) rfl rfl
    simp only [reachBytes] at this
    omega
  refine ((She.slotsChecks_spec s0 s2 n1 hr0 (by omega)).calls W (fun it hit => ?_) ?_ ?_).mono fun e W' ⟨v, O', he, ⟨hv, _⟩, hl⟩ => ?_
  · cases hit
  · simp [She.owned, She.Item.owned]
  · simp [She.owned, She.shared, She.Item.owned]
  subst he; subst hv
  have hb : Below W.heap.size W W' := hl.keep.below (fun k hk => by simp [She.owned, She.Item.owned] at hk)
  have hlt0 : ∀ x ∈ ([] : List MemPlace), x.block < W.heap.size := fun x hx => by cases hx
  have hlt1 : ∀ x ∈ ([] : List MemPlace), x.block < W.heap.size := fun x hx => by cases hx
  have hlt2 : ∀ x ∈ ([] : List MemPlace), x.block < W.heap.size := fun x hx => by cases hx
  refine ⟨_, rfl, _, _, _, [], _, [], hW', ?_, trodAll_mk3 (Below.trod laidOut (by kernel_rfl) (of_decide_eq_true (by kernel_rfl)) k0 hb hlt0) (Below.trod laidOut (by kernel_rfl) (of_decide_eq_true (by kernel_rfl)) k1 hb hlt1) (Below.trod laidOut (by kernel_rfl) (of_decide_eq_true (by kernel_rfl)) k2 hb hlt2), rfl, hb.frame _, fun h => by cases h⟩
  exact trodAll_mk1 (shut_bool Try.underlying4 true)

theorem slotsChecks_holds : Rows.SlotsChecksSaid :=
  OpenClaim.holds_of_wide 5 Try.f5 rfl rfl rfl rfl rfl rfl rfl ⟨rfl, rfl, rfl, rfl, rfl⟩ rfl rfl rfl rfl rfl (by kernel_rfl) Try.func5 (by kernel_rfl)
    (of_decide_eq_true (by kernel_rfl)) (by unfold Func.isWrapper; first | (rw [if_pos (by decide +kernel)]; kernel_rfl) | (rw [if_neg (by decide +kernel)]; exact ⟨rfl, rfl⟩))
    (fun os started H enc _ => slotsChecks_lifted os started H enc)

end Go.Proofs.Ytloknkdomgeolaa
