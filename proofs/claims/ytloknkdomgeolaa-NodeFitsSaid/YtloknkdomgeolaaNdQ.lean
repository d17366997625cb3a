/- Arguments of the laws of nodes, read: a node is a mark and a list of entries. -/
import Derived.Test.YtloknkdomgeolaaSlQ
import Derived.Test.YtloknkdomgeolaaNdA
import Derived.ChangeSame
namespace Go.Proofs.Ytloknkdomgeolaa.She
set_option linter.all false
open Go

section
variable {H : Type} {enc : TypeId × Value → H} {P : Program} {w : World} {spare : Nat → Bool} {held : Bool}

theorem open_ents {t e ti ts : TypeId} {f0 f1 f2 : Field} {fuel : Nat} {ao : Option Addr} {len cap : Nat} {x : DataW H × List MemPlace} {e' : TypeId} (ht : P.underlying t = some (.slice e)) (he : P.underlying e = some (.struct #[f0, f1, f2]))
    (hi : P.underlying ti = some (.int .i64)) (hs : P.underlying ts = some .string) (hf0 : f0.type = ts ∧ f0.offset = 0) (hf1 : f1.type = ts ∧ f1.offset = 1) (hf2 : f2.type = ti ∧ f2.offset = 2) (hc : P.cellsOf e = 3) (hci : P.cellsOf ti = 1) (hcs : P.cellsOf ts = 1)
    (h : DataW.trod enc P w 0 spare held fuel t [.slice ao len cap] = some x) : ∃ l : List En, l.length = len ∧ len ≤ cap ∧ cap ≤ 9223372036854775807 ∧ (∀ r ∈ l, r.key.length ≤ 9223372036854775807 ∧ r.val.length ≤ 9223372036854775807) ∧ (Item.view ao e' (entV l)).holds w := by
  rcases Deep.open_slice ht h with ⟨hcs, _⟩ | ⟨a, len', cap', m, n, D, Pl, hcs, _, hl, hm, hmm, _, hel⟩
  · simp only [List.cons.injEq, Value.slice.injEq, and_true] at hcs
    obtain ⟨rfl, rfl, rfl⟩ := hcs
    exact ⟨[], rfl, by omega, by omega, fun r hr => (by cases hr), .inl rfl⟩
  · simp only [List.cons.injEq, Value.slice.injEq, and_true] at hcs
    obtain ⟨rfl, rfl, rfl⟩ := hcs
    have hlm : len ≤ m := by rw [hmm]; split <;> omega
    have each : ∀ i, i < len → ∃ y : En, (y.key.length ≤ 9223372036854775807 ∧ y.val.length ≤ 9223372036854775807) ∧ ∀ q, q < 3 → w.cell? (a.add (i * 3 + q)) = (enC y)[q]? := by
      intro i hi'
      obtain ⟨cs', g1, g2⟩ := hel i (by omega)
      rw [hc] at g1
      obtain ⟨_, g3, g4⟩ := World.cells?_some g1
      obtain ⟨y0, y1, y2, n', _, g5, g6, g7, g8⟩ := Deep.trod_struct3 he g2
      rw [hf0.1, hf0.2, hcs] at g6
      rw [hf1.1, hf1.2, hcs] at g7
      rw [hf2.1, hf2.2, hci] at g8
      obtain ⟨k, k1, _, k4⟩ := DataW.trod_string hs g6
      obtain ⟨j, k2, _, k5⟩ := DataW.trod_string hs g7
      obtain ⟨f, k3, _, _⟩ := DataW.trod_int hi g8
      match cs', g3 with
      | [c0, c1, c2], _ =>
        replace k1 : c0 = .string k := by injection k1
        replace k2 : c1 = .string j := by injection k2
        replace k3 : c2 = .int .i64 f := by injection k3
        subst k1; subst k2; subst k3
        refine ⟨⟨k.data.toList, j.data.toList, f⟩, ⟨le_of_size k4, le_of_size k5⟩, fun q hq => ?_⟩
        have := g4 q hq
        rw [Deep.add_add] at this
        exact this
    haveI : Inhabited En := ⟨d0⟩
    obtain ⟨f, hf⟩ := Deep.choose_lt (α := En) each
    refine ⟨(List.range len).map f, by simp, hl, hm, fun r hr => ?_, view_of_cells fun i v hv => ?_⟩
    · obtain ⟨q, hq, rfl⟩ := List.mem_map.1 hr
      exact (hf q (by simpa using hq)).1
    · have hil : i < len * 3 := by
        have := (List.getElem?_eq_some_iff.1 hv).1
        rw [entV_length] at this; simpa using this
      have hq : i / 3 < len := by omega
      have hlt : i / 3 < ((List.range len).map f).length := by simpa using hq
      have hg : ((List.range len).map f).getD (i / 3) d0 = f (i / 3) := by simp [List.getD, hq]
      have h3 := entV_get hlt
      have h4 : (((entV ((List.range len).map f)).drop (i / 3 * 3)).take 3)[i % 3]? = some v := by
        rw [List.getElem?_take_of_lt (by omega), List.getElem?_drop, show i / 3 * 3 + i % 3 = i by omega]; exact hv
      rw [h3, hg] at h4
      have := (hf (i / 3) hq).2 (i % 3) (by omega)
      rw [show i / 3 * 3 + i % 3 = i by omega] at this
      rw [this]
      exact h4

theorem open_node {tn tb t e ti ts : TypeId} {g0 g1 f0 f1 f2 : Field} {fuel : Nat} {cs : List Value} {x : DataW H × List MemPlace} {e' : TypeId} (hn : P.underlying tn = some (.struct #[g0, g1])) (hb : P.underlying tb = some .bool) (ht : P.underlying t = some (.slice e)) (he : P.underlying e = some (.struct #[f0, f1, f2]))
    (hi : P.underlying ti = some (.int .i64)) (hs : P.underlying ts = some .string) (hg0 : g0.type = tb ∧ g0.offset = 0) (hg1 : g1.type = t ∧ g1.offset = 1) (hf0 : f0.type = ts ∧ f0.offset = 0) (hf1 : f1.type = ts ∧ f1.offset = 1) (hf2 : f2.type = ti ∧ f2.offset = 2)
    (hcn : P.cellsOf tn = 2) (hcb : P.cellsOf tb = 1) (hct : P.cellsOf t = 1) (hc : P.cellsOf e = 3) (hci : P.cellsOf ti = 1) (hcs : P.cellsOf ts = 1)
    (h : DataW.trod enc P w 0 spare held fuel tn cs = some x) : ∃ (leaf : Bool) (ao : Option Addr) (len cap : Nat) (l : List En), cs = [.bool leaf, .slice ao len cap] ∧ l.length = len ∧ len ≤ cap ∧ cap ≤ 9223372036854775807 ∧
      (∀ r ∈ l, r.key.length ≤ 9223372036854775807 ∧ r.val.length ≤ 9223372036854775807) ∧ (Item.view ao e' (entV l)).holds w := by
  obtain ⟨y0, y1, n, _, hl, h0, h1⟩ := Go.ChangeShapes.trod_struct2 hn h
  rw [hcn] at hl
  rw [hg0.1, hg0.2, hcb] at h0
  rw [hg1.1, hg1.2, hct] at h1
  match cs, hl with
  | [c0, c1], _ =>
    obtain ⟨leaf, k0, _⟩ := DataW.trod_bool hb h0
    replace k0 : c0 = .bool leaf := by injection k0
    subst k0
    replace h1 : DataW.trod enc P w 0 spare held n t [c1] = some y1 := h1
    have hslice : ∃ ao len cap, c1 = .slice ao len cap := by
      rcases Deep.open_slice ht h1 with ⟨hcs, _⟩ | ⟨a, len', cap', m, n, D, Pl, hcs, _⟩
      · exact ⟨none, 0, 0, by injection hcs⟩
      · exact ⟨some a, len', cap', by injection hcs⟩
    obtain ⟨ao, len, cap, rfl⟩ := hslice
    obtain ⟨l, q1, q2, q3, q4, q5⟩ := open_ents (e' := e') ht he hi hs hf0 hf1 hf2 hc hci hcs h1
    exact ⟨leaf, ao, len, cap, l, rfl, q1, q2, q3, q4, q5⟩

end
end Go.Proofs.Ytloknkdomgeolaa.She
