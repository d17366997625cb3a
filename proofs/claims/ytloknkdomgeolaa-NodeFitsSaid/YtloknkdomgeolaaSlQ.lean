/- Arguments of the laws of slots, read: texts, and lists of calls; what a law leaves. -/
import Derived.Test.YtloknkdomgeolaaRows
import Derived.Test.YtloknkdomgeolaaSlL
import Derived.ProofKit
import Derived.SizedLaws
import Derived.Deep.Slices
import Derived.Deep.Strs
namespace Go.Proofs.Ytloknkdomgeolaa.She
set_option linter.all false
open Go

theorem view_of_cells {W : World} {a : Addr} {e : TypeId} {xs : List Value} (h : ∀ (i : Nat) (v : Value), xs[i]? = some v → W.cell? (a.add i) = some v) : (Item.view (some a) e xs).holds W := by
  cases xs with
  | nil => exact .inl rfl
  | cons x r =>
    have h0 := h 0 x rfl
    have hz : a.add 0 = a := by simp [Addr.add]
    rw [hz] at h0
    have hs := World.cell?_spot h0
    obtain ⟨b, o, s⟩ := a
    simp only at hs
    subst hs
    unfold World.cell? at h0
    split at h0
    · rename_i c e' fr hb
      refine .inr ⟨⟨b, o, none⟩, c, (e', fr), rfl, rfl, hb, ?_⟩
      apply List.ext_getElem?
      intro i
      rw [List.getElem?_take]
      split
      · rename_i hi
        have h1 := h i _ (List.getElem?_eq_getElem hi)
        rw [Addr.add_mk] at h1
        unfold World.cell? at h1
        rw [hb] at h1
        rw [List.getElem?_drop, List.getElem?_eq_getElem hi]
        simpa using h1
      · rename_i hi
        rw [List.getElem?_eq_none (by omega)]
    · cases h0

theorem le_of_size {s : ByteArray} (h : s.size ≤ maxLen) : s.data.toList.length ≤ 9223372036854775807 := by
  rw [Array.length_toList]
  exact Nat.le_trans h (by decide)

section
variable {H : Type} {enc : TypeId × Value → H} {P : Program} {w : World} {spare : Nat → Bool} {held : Bool}

theorem open_texts {t e : TypeId} {fuel : Nat} {ao : Option Addr} {len cap : Nat} {x : DataW H × List MemPlace} {e' : TypeId} (ht : P.underlying t = some (.slice e)) (he : P.underlying e = some .string) (hc : P.cellsOf e = 1)
    (h : DataW.trod enc P w 0 spare held fuel t [.slice ao len cap] = some x) : ∃ rs : List (List UInt8), rs.length = len ∧ len ≤ cap ∧ cap ≤ 9223372036854775807 ∧ (∀ r ∈ rs, r.length ≤ 9223372036854775807) ∧ (Item.view ao e' (strV rs)).holds w := by
  rcases Go.ChangeShapes.open_strings ht he hc h with ⟨hcs, _⟩ | ⟨a, len', cap', ss, hcs, _, hl, hm, hz, _, hcell, hws⟩
  · simp only [List.cons.injEq, Value.slice.injEq, and_true] at hcs
    obtain ⟨rfl, rfl, rfl⟩ := hcs
    exact ⟨[], rfl, by omega, by omega, fun r hr => (by cases hr), .inl rfl⟩
  · simp only [List.cons.injEq, Value.slice.injEq, and_true] at hcs
    obtain ⟨rfl, rfl, rfl⟩ := hcs
    have hlen : len ≤ ss.length := by rw [hz]; split <;> omega
    refine ⟨(ss.take len).map fun s => s.data.toList, by simp; omega, hl, hm, fun r hr => ?_, view_of_cells fun i v hv => ?_⟩
    · obtain ⟨s, hs, rfl⟩ := List.mem_map.1 hr
      exact le_of_size (hws s (List.mem_of_mem_take hs))
    · simp only [strV, List.getElem?_map, List.getElem?_take] at hv
      split at hv
      · rename_i hi
        rw [List.getElem?_eq_getElem (by omega)] at hv
        simp only [Option.map_some, Option.some.injEq] at hv
        rw [hcell i (by omega), ← hv]
        simp [List.getD, List.getElem?_eq_getElem (show i < ss.length by omega)]
      · cases hv

theorem open_acts {t e ti ts : TypeId} {f0 f1 f2 : Field} {fuel : Nat} {ao : Option Addr} {len cap : Nat} {x : DataW H × List MemPlace} {e' : TypeId} (ht : P.underlying t = some (.slice e)) (he : P.underlying e = some (.struct #[f0, f1, f2]))
    (hi : P.underlying ti = some (.int .i64)) (hs : P.underlying ts = some .string) (hf0 : f0.type = ti ∧ f0.offset = 0) (hf1 : f1.type = ti ∧ f1.offset = 1) (hf2 : f2.type = ts ∧ f2.offset = 2) (hc : P.cellsOf e = 3) (hci : P.cellsOf ti = 1) (hcs : P.cellsOf ts = 1)
    (h : DataW.trod enc P w 0 spare held fuel t [.slice ao len cap] = some x) : ∃ l : List (Int × Int × List UInt8), l.length = len ∧ len ≤ cap ∧ cap ≤ 9223372036854775807 ∧ (∀ r ∈ l, r.2.2.length ≤ 9223372036854775807) ∧ (Item.view ao e' (actV l)).holds w := by
  rcases Deep.open_slice ht h with ⟨hcs, _⟩ | ⟨a, len', cap', m, n, D, Pl, hcs, _, hl, hm, hmm, _, hel⟩
  · simp only [List.cons.injEq, Value.slice.injEq, and_true] at hcs
    obtain ⟨rfl, rfl, rfl⟩ := hcs
    exact ⟨[], rfl, by omega, by omega, fun r hr => (by cases hr), .inl rfl⟩
  · simp only [List.cons.injEq, Value.slice.injEq, and_true] at hcs
    obtain ⟨rfl, rfl, rfl⟩ := hcs
    have hlm : len ≤ m := by rw [hmm]; split <;> omega
    have each : ∀ i, i < len → ∃ y : Int × Int × List UInt8, y.2.2.length ≤ 9223372036854775807 ∧ ∀ q, q < 3 → w.cell? (a.add (i * 3 + q)) = [Value.int .i64 y.1, .int .i64 y.2.1, .string ⟨⟨y.2.2⟩⟩][q]? := by
      intro i hi'
      obtain ⟨cs', g1, g2⟩ := hel i (by omega)
      rw [hc] at g1
      obtain ⟨_, g3, g4⟩ := World.cells?_some g1
      obtain ⟨y0, y1, y2, n', _, g5, g6, g7, g8⟩ := Deep.trod_struct3 he g2
      rw [hf0.1, hf0.2, hci] at g6
      rw [hf1.1, hf1.2, hci] at g7
      rw [hf2.1, hf2.2, hcs] at g8
      obtain ⟨k, k1, _, _⟩ := DataW.trod_int hi g6
      obtain ⟨j, k2, _, _⟩ := DataW.trod_int hi g7
      obtain ⟨s, k3, _, k4⟩ := DataW.trod_string hs g8
      match cs', g3 with
      | [c0, c1, c2], _ =>
        replace k1 : c0 = .int .i64 k := by injection k1
        replace k2 : c1 = .int .i64 j := by injection k2
        replace k3 : c2 = .string s := by injection k3
        subst k1; subst k2; subst k3
        refine ⟨(k, j, s.data.toList), le_of_size k4, fun q hq => ?_⟩
        have := g4 q hq
        rw [Deep.add_add] at this
        exact this
    obtain ⟨f, hf⟩ := Deep.choose_lt (α := Int × Int × List UInt8) each
    refine ⟨(List.range len).map f, by simp, hl, hm, fun r hr => ?_, view_of_cells fun i v hv => ?_⟩
    · obtain ⟨q, hq, rfl⟩ := List.mem_map.1 hr
      exact (hf q (by simpa using hq)).1
    · have hil : i < len * 3 := by
        have := (List.getElem?_eq_some_iff.1 hv).1
        rw [actV_length] at this; simpa using this
      have hq : i / 3 < len := by omega
      have hg : ((List.range len).map f)[i / 3]? = some (f (i / 3)) := by simp [hq]
      have h3 := actV_get hg
      have h4 : (((actV ((List.range len).map f)).drop (i / 3 * 3)).take 3)[i % 3]? = some v := by
        rw [List.getElem?_take_of_lt (by omega), List.getElem?_drop, show i / 3 * 3 + i % 3 = i by omega]; exact hv
      rw [h3] at h4
      have := (hf (i / 3) hq).2 (i % 3) (by omega)
      rw [show i / 3 * 3 + i % 3 = i by omega] at this
      rw [this]
      exact h4

end
end Go.Proofs.Ytloknkdomgeolaa.She
