/- Arguments of the law NodeFits, read: an entry. -/
import Derived.Test.YtloknkdomgeolaaNdQ
namespace Go.Proofs.Ytloknkdomgeolaa.She
set_option linter.all false
open Go

section
variable {H : Type} {enc : TypeId × Value → H} {P : Program} {w : World} {spare : Nat → Bool} {held : Bool}

theorem open_entry {e ti ts : TypeId} {f0 f1 f2 : Field} {fuel : Nat} {cs : List Value} {x : DataW H × List MemPlace} (he : P.underlying e = some (.struct #[f0, f1, f2]))
    (hi : P.underlying ti = some (.int .i64)) (hs : P.underlying ts = some .string) (hf0 : f0.type = ts ∧ f0.offset = 0) (hf1 : f1.type = ts ∧ f1.offset = 1) (hf2 : f2.type = ti ∧ f2.offset = 2)
    (hc : P.cellsOf e = 3) (hci : P.cellsOf ti = 1) (hcs : P.cellsOf ts = 1)
    (h : DataW.trod enc P w 0 spare held fuel e cs = some x) : ∃ y : En, cs = [.string ⟨⟨y.key⟩⟩, .string ⟨⟨y.val⟩⟩, .int .i64 y.far] ∧ y.key.length ≤ 9223372036854775807 ∧ y.val.length ≤ 9223372036854775807 := by
  obtain ⟨y0, y1, y2, n', _, g5, g6, g7, g8⟩ := Deep.trod_struct3 he h
  rw [hc] at g5
  rw [hf0.1, hf0.2, hcs] at g6
  rw [hf1.1, hf1.2, hcs] at g7
  rw [hf2.1, hf2.2, hci] at g8
  match cs, g5 with
  | [c0, c1, c2], _ =>
    obtain ⟨k, k1, _, k4⟩ := DataW.trod_string hs g6
    obtain ⟨j, k2, _, k5⟩ := DataW.trod_string hs g7
    obtain ⟨f, k3, _, _⟩ := DataW.trod_int hi g8
    replace k1 : c0 = .string k := by injection k1
    replace k2 : c1 = .string j := by injection k2
    replace k3 : c2 = .int .i64 f := by injection k3
    subst k1; subst k2; subst k3
    exact ⟨⟨k.data.toList, j.data.toList, f⟩, rfl, le_of_size k4, le_of_size k5⟩

end
end Go.Proofs.Ytloknkdomgeolaa.She
