/- Part of a small program logic: worlds, items of a symbolic heap, and what is known of them. -/
import Derived.WalkKit
import Derived.WalkLawsBesides
import Derived.Deep.Quiet
namespace Go.Proofs.Ytloknkdomgeolaa.She
set_option linter.all false
open Go

/-- What a call leaves: blocks that were there, but for those of D, hold what they held. -/
structure Keep (D : List Nat) (w w' : World) : Prop where
  os : w'.os = w.os
  tape : w'.tape = w.tape
  output : w'.output = w.output
  size : w.heap.size ≤ w'.heap.size
  block : ∀ k, k < w.heap.size → k ∉ D → w'.heap[k]? = w.heap[k]?

theorem Keep.refl (D : List Nat) (w : World) : Keep D w w := ⟨rfl, rfl, rfl, Nat.le_refl _, fun _ _ _ => rfl⟩

theorem Keep.trans {D D' : List Nat} {a b c : World} (h : Keep D a b) (h' : Keep D' b c) (hD : ∀ k, k ∈ D' → k ∈ D ∨ a.heap.size ≤ k) : Keep D a c :=
  ⟨h'.os.trans h.os, h'.tape.trans h.tape, h'.output.trans h.output, Nat.le_trans h.size h'.size, fun k hk hn => by
    rw [h'.block k (Nat.lt_of_lt_of_le hk h.size) (fun hm => (hD k hm).elim hn (by omega)), h.block k hk hn]⟩

theorem Keep.below {D : List Nat} {w w' : World} (h : Keep D w w') (hD : ∀ k ∈ D, w.heap.size ≤ k) : Go.RowKit.Below w.heap.size w w' :=
  ⟨h.os, h.tape, h.output, h.size, fun k hk => h.block k hk (fun hm => by have := hD k hm; omega)⟩

theorem Keep.of_below {w w' : World} (h : Go.RowKit.Below w.heap.size w w') (D : List Nat) : Keep D w w' :=
  ⟨h.os, h.tape, h.output, h.size, fun k hk _ => h.block k hk⟩

/-- No cell below n is frozen. -/
def Free (fr : Nat × Nat) (n : Nat) : Prop := ∀ i, i < n → ¬ (fr.1 ≤ i ∧ i < fr.2)

theorem Free.mono {fr : Nat × Nat} {n m : Nat} (h : Free fr n) (hm : m ≤ n) : Free fr m := fun i hi => h i (by omega)
theorem Free.zero (n : Nat) : Free (0, 0) n := fun i _ => by simp

/-- Something that hangs on some blocks alone. -/
structure Chunk where
  own : List Nat
  p : World → Prop
  congr : ∀ w w' : World, (∀ b ∈ own, w'.heap[b]? = w.heap[b]?) → p w → p w'
  lt : ∀ w, p w → ∀ b ∈ own, b < w.heap.size

inductive Item where
  | chunk (c : Chunk)
  | blk (b : Nat) (e : TypeId) (vs : List Value)
  | row (ao : Option Addr) (cap : Nat) (e : TypeId) (k : Nat) (xs : List Value)
  | obj (b : Nat) (o : Obj)
  | view (ao : Option Addr) (e : TypeId) (xs : List Value)

abbrev SH := List Item

@[reducible] def blkOf : Option Addr → Nat
  | some a => a.block
  | none => 0
@[reducible] def offOf : Option Addr → Nat
  | some a => a.off
  | none => 0
def blksOf : Option Addr → List Nat
  | some a => [a.block]
  | none => []

def Item.holds (w : World) : Item → Prop
  | .chunk c => c.p w
  | .blk b e vs => ∃ fr, w.heap[b]? = some (.cells ⟨vs⟩ e fr) ∧ Free fr vs.length
  | .row ao cap e k xs => (ao = none ∧ xs = [] ∧ cap = 0) ∨
      ∃ a sp fr, ao = some a ∧ a.off = 0 ∧ a.spot = none ∧ w.heap[a.block]? = some (.cells ⟨xs ++ sp⟩ e fr) ∧ Free fr (xs ++ sp).length ∧ (xs ++ sp).length = cap * k
  | .obj b o => w.heap[b]? = some o
  | .view ao _ xs => xs = [] ∨ ∃ (a : Addr) (c : Array Value) (ef : TypeId × (Nat × Nat)), ao = some a ∧ a.spot = none ∧ w.heap[a.block]? = some (.cells c ef.1 ef.2) ∧ (c.toList.drop a.off).take xs.length = xs

def Item.owned : Item → List Nat
  | .chunk c => c.own
  | .blk b _ _ => [b]
  | .row ao _ _ _ _ => blksOf ao
  | .obj b _ => [b]
  | .view _ _ _ => []

def Item.shared : Item → List Nat
  | .view ao _ xs => if xs = [] then [] else blksOf ao
  | _ => []

def owned (L : SH) : List Nat := L.flatMap Item.owned
def shared (L : SH) : List Nat := L.flatMap Item.shared
def Holds (w : World) (L : SH) : Prop := ∀ it ∈ L, it.holds w

@[simp] theorem owned_nil : owned [] = [] := rfl
@[simp] theorem shared_nil : shared [] = [] := rfl
@[simp] theorem owned_cons (it : Item) (L : SH) : owned (it :: L) = it.owned ++ owned L := rfl
@[simp] theorem shared_cons (it : Item) (L : SH) : shared (it :: L) = it.shared ++ shared L := rfl
@[simp] theorem owned_append (A B : SH) : owned (A ++ B) = owned A ++ owned B := by simp [owned]
@[simp] theorem shared_append (A B : SH) : shared (A ++ B) = shared A ++ shared B := by simp [shared]

theorem blksOf_mem {ao : Option Addr} {b : Nat} (h : b ∈ blksOf ao) : ∃ a, ao = some a ∧ a.block = b := by
  cases ao with
  | none => simp [blksOf] at h
  | some a => simp [blksOf] at h; exact ⟨a, rfl, h.symm⟩

/-- What an item says hangs on its own blocks alone. -/
theorem Item.holds_congr {w w' : World} {it : Item} (h : it.holds w) (hb : ∀ b, b ∈ it.owned ∨ b ∈ it.shared → w'.heap[b]? = w.heap[b]?) : it.holds w' := by
  cases it with
  | chunk c => exact c.congr w w' (fun b hm => hb b (.inl hm)) h
  | blk b e vs =>
    obtain ⟨fr, h1, h2⟩ := h
    exact ⟨fr, by rw [hb b (.inl (by simp [Item.owned])), h1], h2⟩
  | row ao cap e k xs =>
    rcases h with h | ⟨a, sp, fr, h0, h1, h2, h3, h4, h5⟩
    · exact .inl h
    · subst h0
      exact .inr ⟨a, sp, fr, rfl, h1, h2, by rw [hb a.block (.inl (by simp [Item.owned, blksOf])), h3], h4, h5⟩
  | obj b o => exact (hb b (.inl (by simp [Item.owned]))).trans h
  | view ao e xs =>
    by_cases hx : xs = []
    · exact .inl hx
    · rcases h with h | ⟨a, c, fr, h0, h1, h2, h3⟩
      · exact absurd h hx
      · subst h0
        exact .inr ⟨a, c, fr, rfl, h1, by rw [hb a.block (.inr (by simp [Item.shared, hx, blksOf])), h2], h3⟩

/-- The blocks of an item that holds are there. -/
theorem Item.lt {w : World} {it : Item} (h : it.holds w) : ∀ b, b ∈ it.owned ∨ b ∈ it.shared → b < w.heap.size := by
  have key : ∀ (b : Nat) (o : Obj), w.heap[b]? = some o → b < w.heap.size := fun b o hb => by
    rcases Nat.lt_or_ge b w.heap.size with h | h
    · exact h
    · simp [Array.getElem?_eq_none h] at hb
  intro b hb
  cases it with
  | chunk c =>
    rcases hb with hb | hb
    · exact c.lt w h b hb
    · cases hb
  | blk b' e vs =>
    obtain ⟨fr, h1, h2⟩ := h
    rcases hb with hb | hb <;> simp [Item.owned, Item.shared] at hb
    subst hb; exact key _ _ h1
  | row ao cap e k xs =>
    rcases h with h | ⟨a, sp, fr, h0, h1, h2, h3, h4, h5⟩
    · rcases hb with hb | hb <;> simp [Item.owned, Item.shared, h.1, blksOf] at hb
    · subst h0
      rcases hb with hb | hb <;> simp [Item.owned, Item.shared, blksOf] at hb
      subst hb; exact key _ _ h3
  | obj b' o =>
    rcases hb with hb | hb <;> simp [Item.owned, Item.shared] at hb
    subst hb; exact key _ _ h
  | view ao e xs =>
    by_cases hx : xs = []
    · rcases hb with hb | hb <;> simp [Item.owned, Item.shared, hx] at hb
    · rcases h with h | ⟨a, c, fr, h0, h1, h2, h3⟩
      · exact absurd h hx
      · subst h0
        rcases hb with hb | hb <;> simp [Item.owned, Item.shared, hx, blksOf] at hb
        subst hb; exact key _ _ h2

theorem holds_congr0 {w w' : World} {L : SH} (h : Holds w L) (hb : ∀ b, b ∈ owned L ∨ b ∈ shared L → w'.heap[b]? = w.heap[b]?) : Holds w' L :=
  fun it hit => Item.holds_congr (h it hit) fun b hb' => hb b (hb'.imp (fun x => List.mem_flatMap.2 ⟨it, hit, x⟩) (fun x => List.mem_flatMap.2 ⟨it, hit, x⟩))

/-- Items in one. -/
def pack (L : SH) : Item := .chunk ⟨owned L, fun w => shared L = [] ∧ Holds w L, fun w w' hb h => ⟨h.1, holds_congr0 h.2 fun b hm => hb b (hm.elim id fun hs => (by rw [h.1] at hs; cases hs))⟩,
  fun w h b hb => by
    simp only [owned, List.mem_flatMap] at hb
    obtain ⟨it, h1, h2⟩ := hb
    exact Item.lt (h.2 it h1) b (.inl h2)⟩
@[simp] theorem pack_owned (L : SH) : (pack L).owned = owned L := rfl
@[simp] theorem pack_shared (L : SH) : (pack L).shared = [] := rfl
theorem pack_holds {w : World} {L : SH} : (pack L).holds w ↔ shared L = [] ∧ Holds w L := Iff.rfl

/-- Where a function stands: the world that it began in, and the blocks that it may write. -/
structure Ctx where
  w0 : World
  D : List Nat

structure Good (Γ : Ctx) (L : SH) (w : World) : Prop where
  keep : Keep Γ.D Γ.w0 w
  holds : Holds w L
  nodup : (owned L).Nodup
  apart : ∀ b, b ∈ shared L → b ∉ owned L
  own : ∀ b, b ∈ owned L → b ∈ Γ.D ∨ Γ.w0.heap.size ≤ b

theorem Good.lt {Γ : Ctx} {L : SH} {w : World} (h : Good Γ L w) : ∀ b, b ∈ owned L ∨ b ∈ shared L → b < w.heap.size := by
  intro b hb
  rcases hb with hb | hb
  · simp only [owned, List.mem_flatMap] at hb
    obtain ⟨it, h1, h2⟩ := hb
    exact Item.lt (h.holds it h1) b (.inl h2)
  · simp only [shared, List.mem_flatMap] at hb
    obtain ⟨it, h1, h2⟩ := hb
    exact Item.lt (h.holds it h1) b (.inr h2)

theorem holds_congr {w w' : World} {L : SH} (h : Holds w L) (hb : ∀ b, b ∈ owned L ∨ b ∈ shared L → w'.heap[b]? = w.heap[b]?) : Holds w' L :=
  fun it hit => Item.holds_congr (h it hit) fun b hb' => hb b (hb'.imp (fun x => List.mem_flatMap.2 ⟨it, hit, x⟩) (fun x => List.mem_flatMap.2 ⟨it, hit, x⟩))

/-- Only draws have been made. -/
theorem Good.same {Γ : Ctx} {L : SH} {w w' : World} (h : Good Γ L w) (hh : w'.heap = w.heap) (ho : w'.os = w.os) (ht : w'.tape = w.tape) (hp : w'.output = w.output) : Good Γ L w' :=
  ⟨⟨ho.trans h.keep.os, ht.trans h.keep.tape, hp.trans h.keep.output, by rw [hh]; exact h.keep.size, fun k hk hn => by rw [hh]; exact h.keep.block k hk hn⟩,
   holds_congr h.holds (fun b _ => by rw [hh]), h.nodup, h.apart, h.own⟩

theorem flatMap_sub {α β : Type} (f : α → List β) {l l' : List α} (h : List.Sublist l l') : List.Sublist (l.flatMap f) (l'.flatMap f) := by
  induction h with
  | slnil => exact List.Sublist.refl _
  | cons a _ ih => exact ih.trans (by simp)
  | cons_cons a _ ih => simpa using List.Sublist.append (List.Sublist.refl (f a)) ih

/-- Fewer items. -/
theorem Good.sub {Γ : Ctx} {L L' : SH} {w : World} (h : Good Γ L w) (hs : List.Sublist L' L) : Good Γ L' w := by
  have ho : List.Sublist (owned L') (owned L) := flatMap_sub Item.owned hs
  have hsh : List.Sublist (shared L') (shared L) := flatMap_sub Item.shared hs
  exact ⟨h.keep, fun it hit => h.holds it (hs.subset hit), h.nodup.sublist ho, fun b hb hn => h.apart b (hsh.subset hb) (ho.subset hn), fun b hb => h.own b (ho.subset hb)⟩

theorem Good.perm {Γ : Ctx} {L L' : SH} {w : World} (h : Good Γ L w) (hp : List.Perm L' L) : Good Γ L' w := by
  have ho : List.Perm (owned L') (owned L) := hp.flatMap_right Item.owned
  have hs : List.Perm (shared L') (shared L) := hp.flatMap_right Item.shared
  exact ⟨h.keep, fun it hit => h.holds it (hp.subset hit), ho.nodup_iff.2 h.nodup, fun b hb hn => h.apart b (hs.subset hb) (ho.subset hn), fun b hb => h.own b (ho.subset hb)⟩

/-- What follows of items that hold, without any block more or fewer. -/
structure Ent (L L' : SH) : Prop where
  holds : ∀ w, Holds w L → Holds w L'
  own : List.Perm (owned L') (owned L)
  sh : ∀ b, b ∈ shared L' → b ∈ shared L

theorem Ent.refl (L : SH) : Ent L L := ⟨fun _ h => h, List.Perm.refl _, fun _ h => h⟩
theorem Ent.trans {A B C : SH} (h : Ent A B) (h' : Ent B C) : Ent A C := ⟨fun w hw => h'.holds w (h.holds w hw), h'.own.trans h.own, fun b hb => h.sh b (h'.sh b hb)⟩
theorem Ent.of_perm {L L' : SH} (h : List.Perm L' L) : Ent L L' :=
  ⟨fun _ hw it hit => hw it (h.subset hit), h.flatMap_right Item.owned, fun _ hb => (h.flatMap_right Item.shared).subset hb⟩
theorem holds_append {w : World} {A B : SH} : Holds w (A ++ B) ↔ Holds w A ∧ Holds w B :=
  ⟨fun h => ⟨fun x hx => h x (by simp [hx]), fun x hx => h x (by simp [hx])⟩, fun h x hx => (List.mem_append.1 hx).elim (h.1 x) (h.2 x)⟩
theorem holds_cons {w : World} {it : Item} {B : SH} : Holds w (it :: B) ↔ it.holds w ∧ Holds w B :=
  ⟨fun h => ⟨h it (.head _), fun x hx => h x (.tail _ hx)⟩, fun h x hx => (List.mem_cons.1 hx).elim (fun e => e ▸ h.1) (h.2 x)⟩
theorem Ent.app {A A' B B' : SH} (h : Ent A A') (h' : Ent B B') : Ent (A ++ B) (A' ++ B') := by
  refine ⟨fun w hw => ?_, ?_, fun b hb => ?_⟩
  · rw [holds_append] at hw ⊢; exact ⟨h.holds w hw.1, h'.holds w hw.2⟩
  · simp only [owned_append]; exact h.own.append h'.own
  · simp only [shared_append, List.mem_append] at hb ⊢; exact hb.imp (h.sh b) (h'.sh b)
theorem Ent.cons {A A' : SH} (it : Item) (h : Ent A A') : Ent (it :: A) (it :: A') := Ent.app (Ent.refl [it]) h
theorem Ent.pack {A B : SH} (hs : shared A = []) : Ent (A ++ B) (pack A :: B) := by
  refine ⟨fun w hw => ?_, ?_, fun b hb => ?_⟩
  · rw [holds_append] at hw; exact holds_cons.2 ⟨⟨hs, hw.1⟩, hw.2⟩
  · simp
  · simpa [hs] using hb
theorem Ent.unpack {A B : SH} (hs : shared A = []) : Ent (She.pack A :: B) (A ++ B) := by
  refine ⟨fun w hw => ?_, ?_, fun b hb => ?_⟩
  · rw [holds_cons] at hw; exact holds_append.2 ⟨hw.1.2, hw.2⟩
  · simp
  · simpa [hs] using hb
theorem Good.ent {Γ : Ctx} {L L' : SH} {w : World} (h : Good Γ L w) (e : Ent L L') : Good Γ L' w :=
  ⟨h.keep, e.holds w h.holds, e.own.nodup_iff.2 h.nodup, fun b hb hn => h.apart b (e.sh b hb) (e.own.subset hn), fun b hb => h.own b (e.own.subset hb)⟩

theorem heap_push_lt (w : World) (o : Obj) {k : Nat} (h : k < w.heap.size) : (w.heap.push o)[k]? = w.heap[k]? := by
  rw [Array.getElem?_push, if_neg (by omega)]

/-- A new block. -/
theorem Good.new {Γ : Ctx} {L : SH} {w : World} (h : Good Γ L w) (o : Obj) (it : Item) (w' : World) (hw : w' = { w with heap := w.heap.push o }) (hown : it.owned = [w.heap.size]) (hsh : it.shared = [])
    (hit : it.holds w') : Good Γ (it :: L) w' := by
  subst hw
  have hb : ∀ k, k < w.heap.size → (w.heap.push o)[k]? = w.heap[k]? := fun k hk => heap_push_lt w o hk
  refine ⟨⟨h.keep.os, h.keep.tape, h.keep.output, by simp; exact Nat.le_trans h.keep.size (Nat.le_succ _), fun k hk hn => ?_⟩, ?_, ?_, ?_, ?_⟩
  · show (w.heap.push o)[k]? = _
    rw [hb k (Nat.lt_of_lt_of_le hk h.keep.size)]; exact h.keep.block k hk hn
  · intro x hx
    cases hx with
    | head => exact hit
    | tail _ hx => exact Item.holds_congr (h.holds x hx) fun b hb' => hb b (Item.lt (h.holds x hx) b hb')
  · rw [owned_cons, hown]
    refine List.nodup_cons.2 ⟨fun hm => ?_, h.nodup⟩
    have := h.lt _ (.inl hm); omega
  · intro b hb'
    rw [shared_cons, hsh] at hb'
    rw [owned_cons, hown]
    simp only [List.nil_append] at hb'
    have := h.lt b (.inr hb')
    simp only [List.cons_append, List.nil_append, List.mem_cons, not_or]
    exact ⟨by omega, h.apart b hb'⟩
  · intro b hb'
    rw [owned_cons, hown] at hb'
    simp only [List.cons_append, List.nil_append, List.mem_cons] at hb'
    rcases hb' with rfl | hb'
    · exact .inr h.keep.size
    · exact h.own b hb'

/-- One owned item has been changed (and blocks may have come). -/
theorem Good.change {Γ : Ctx} {A B : SH} {it it' : Item} {w w' : World} (h : Good Γ (A ++ it :: B) w) (hos : w'.os = w.os) (ht : w'.tape = w.tape) (hout : w'.output = w.output) (hsz : w.heap.size ≤ w'.heap.size)
    (hblk : ∀ k, k < w.heap.size → k ∉ it.owned → w'.heap[k]? = w.heap[k]?) (hit : it'.holds w') (hown : ∀ b, b ∈ it'.owned → b ∈ it.owned ∨ w.heap.size ≤ b) (hnd : it'.owned.Nodup) (hsh : it'.shared = []) :
    Good Γ (A ++ it' :: B) w' := by
  have hnd0 := h.nodup
  simp only [owned_append, owned_cons] at hnd0
  have hlt := h.lt
  have hA : ∀ b, b ∈ owned A ∨ b ∈ owned B → b ∉ it.owned := by
    intro b hb hi
    rcases hb with hb | hb
    · exact (List.nodup_append.1 hnd0).2.2 b hb b (by simp [hi]) rfl
    · have h2 := (List.nodup_append.1 hnd0).2.1
      exact (List.nodup_append.1 h2).2.2 b hi b hb rfl
  have hS : ∀ b, b ∈ shared A ∨ b ∈ shared B → b ∉ it.owned := by
    intro b hb hi
    refine h.apart b ?_ (by simp [hi])
    simp only [shared_append, shared_cons, List.mem_append]
    rcases hb with hb | hb
    · exact .inl hb
    · exact .inr (.inr hb)
  have hltA : ∀ b, (b ∈ owned A ∨ b ∈ owned B) ∨ (b ∈ shared A ∨ b ∈ shared B) → b < w.heap.size := by
    intro b hb
    apply hlt
    simp only [owned_append, owned_cons, shared_append, shared_cons, List.mem_append]
    rcases hb with (hb | hb) | (hb | hb)
    · exact .inl (.inl hb)
    · exact .inl (.inr (.inr hb))
    · exact .inr (.inl hb)
    · exact .inr (.inr (.inr hb))
  refine ⟨⟨hos.trans h.keep.os, ht.trans h.keep.tape, hout.trans h.keep.output, Nat.le_trans h.keep.size hsz, fun k hk hn => ?_⟩, ?_, ?_, ?_, ?_⟩
  · have hk' := Nat.lt_of_lt_of_le hk h.keep.size
    rw [hblk k hk' (fun hi => (h.own k (by simp [hi])).elim hn (by omega))]
    exact h.keep.block k hk hn
  · intro x hx
    simp only [List.mem_append, List.mem_cons] at hx
    have keepx : ∀ x, x ∈ A ∨ x ∈ B → x.holds w' := by
      intro x hx
      have hxm : x ∈ A ++ it :: B := by
        simp only [List.mem_append, List.mem_cons]
        rcases hx with hx | hx
        · exact .inl hx
        · exact .inr (.inr hx)
      refine Item.holds_congr (h.holds x hxm) fun b hb => hblk b (Item.lt (h.holds x hxm) b hb) ?_
      rcases hb with hb | hb
      · exact hA b (hx.imp (fun h => List.mem_flatMap.2 ⟨x, h, hb⟩) (fun h => List.mem_flatMap.2 ⟨x, h, hb⟩))
      · exact hS b (hx.imp (fun h => List.mem_flatMap.2 ⟨x, h, hb⟩) (fun h => List.mem_flatMap.2 ⟨x, h, hb⟩))
    rcases hx with hx | rfl | hx
    · exact keepx x (.inl hx)
    · exact hit
    · exact keepx x (.inr hx)
  · simp only [owned_append, owned_cons]
    obtain ⟨n1, n2, n3⟩ := List.nodup_append.1 hnd0
    obtain ⟨m1, m2, m3⟩ := List.nodup_append.1 n2
    refine List.nodup_append.2 ⟨n1, List.nodup_append.2 ⟨hnd, m2, ?_⟩, ?_⟩
    · rintro x hx y hy rfl
      rcases hown x hx with h1 | h1
      · exact m3 x h1 x hy rfl
      · have := hltA x (.inl (.inr hy)); omega
    · rintro x hx y hy rfl
      simp only [List.mem_append] at hy
      rcases hy with hy | hy
      · rcases hown x hy with h1 | h1
        · exact n3 x hx x (by simp [h1]) rfl
        · have := hltA x (.inl (.inl hx)); omega
      · exact n3 x hx x (by simp [hy]) rfl
  · intro b hb
    simp only [shared_append, shared_cons, hsh, List.nil_append, List.mem_append] at hb
    have hb0 : b ∈ shared (A ++ it :: B) := by
      simp only [shared_append, shared_cons, List.mem_append]
      rcases hb with hb | hb
      · exact .inl hb
      · exact .inr (.inr hb)
    have hno := h.apart b hb0
    simp only [owned_append, owned_cons, List.mem_append, not_or] at hno ⊢
    refine ⟨hno.1, fun hi => ?_, hno.2.2⟩
    rcases hown b hi with h1 | h1
    · exact hno.2.1 h1
    · have := hltA b (.inr hb); omega
  · intro b hb
    simp only [owned_append, owned_cons, List.mem_append] at hb
    rcases hb with hb | hb | hb
    · exact h.own b (by simp [hb])
    · rcases hown b hb with h1 | h1
      · exact h.own b (by simp [h1])
      · exact .inr (Nat.le_trans h.keep.size h1)
    · exact h.own b (by simp [hb])

end Go.Proofs.Ytloknkdomgeolaa.She
