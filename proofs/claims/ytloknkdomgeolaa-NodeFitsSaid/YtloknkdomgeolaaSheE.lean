/- Part of a small program logic: what changes the heap: new blocks, stores, calls; definitions and what they say of a run. -/
import Derived.Test.YtloknkdomgeolaaSheD
namespace Go.Proofs.Ytloknkdomgeolaa.She
set_option linter.all false
open Go

/-! ### Worlds behind a store -/
theorem heap_of_cells {w : World} {b : Nat} {vs : List Value} {e : TypeId} {fr : Nat × Nat} (hb : w.heap[b]? = some (.cells ⟨vs⟩ e fr)) (off : Nat) (v : Value) :
    (w.setCell ⟨b, off, none⟩ v).heap[b]? = some (.cells ⟨vs.set off v⟩ e fr) := by
  have hset : ∀ (c : Array Value), c.setIfInBounds off v = ⟨c.toList.set off v⟩ := by
    intro c; apply Array.ext'; simp
  simp [World.setCell, Array.getElem?_modify, hb, hset]

theorem cell_of_cells {w : World} {b : Nat} {vs : List Value} {e : TypeId} {fr : Nat × Nat} (hb : w.heap[b]? = some (.cells ⟨vs⟩ e fr)) (off : Nat) : w.cell? ⟨b, off, none⟩ = vs[off]? := by
  simp [World.cell?, hb]

theorem free_of_cells {w : World} {b : Nat} {vs : List Value} {e : TypeId} {fr : Nat × Nat} (hb : w.heap[b]? = some (.cells ⟨vs⟩ e fr)) {n : Nat} (hf : Free fr n) {off : Nat} (ho : off < n) : w.frozen? ⟨b, off, none⟩ = false := by
  have := hf off ho
  simp only [World.frozen?, hb]
  obtain ⟨lo, hi⟩ := fr
  simp only at this ⊢
  simp only [Bool.and_eq_false_iff, decide_eq_false_iff_not]
  omega

theorem oneB_cell {v : Value} (h : oneB v = true) : v.oneCell' = true := by cases v <;> first | rfl | cases h

theorem allOne_mem : ∀ {vs : List Value}, allOne vs = true → ∀ v ∈ vs, oneB v = true
  | [], _, _, h => by cases h
  | x :: r, h, v, hv => by
    simp only [allOne, Bool.and_eq_true] at h
    cases hv with
    | head => exact h.1
    | tail _ hv => exact allOne_mem h.2 v hv

/-- A row of cells is stored. -/
theorem storeCells_run {P : Program} {b : Nat} {e : TypeId} {fr : Nat × Nat} : ∀ (vs xs : List Value) (w : World) (off i : Nat), w.heap[b]? = some (.cells ⟨xs⟩ e fr) → Free fr xs.length → off + i + vs.length ≤ xs.length → allOne vs = true →
    ∃ w', (storeCells ⟨b, off, none⟩ vs i).run P w = .ok () w' ∧ w'.heap[b]? = some (.cells ⟨setCells xs (off + i) vs⟩ e fr) ∧ w'.os = w.os ∧ w'.tape = w.tape ∧ w'.output = w.output ∧ w'.heap.size = w.heap.size ∧ ∀ k, k ≠ b → w'.heap[k]? = w.heap[k]?
  | [], xs, w, off, i, hb, _, _, _ => ⟨w, by simp [storeCells], by simpa [setCells] using hb, rfl, rfl, rfl, rfl, fun _ _ => rfl⟩
  | v :: r, xs, w, off, i, hb, hf, hl, ho => by
    simp only [allOne, Bool.and_eq_true] at ho
    have hlt : off + i < xs.length := by simp only [List.length_cons] at hl; omega
    have hst : (store ((⟨b, off, none⟩ : Addr).add i) v).run P w = .ok () (w.setCell ⟨b, off + i, none⟩ v) := by
      rw [Addr.add_mk, run_store P w _ v _ (oneB_cell ho.1), cell_of_cells hb, free_of_cells hb hf hlt]
      simp [hlt]
    obtain ⟨w', h1, h2, h3, h4, h5, h6, h7⟩ := storeCells_run (P := P) r (xs.set (off + i) v) (w.setCell ⟨b, off + i, none⟩ v) off (i + 1) (heap_of_cells hb _ _) (by simpa using hf) (by simp only [List.length_cons] at hl; simp; omega) ho.2
    refine ⟨w', ?_, by simpa [setCells, Nat.add_assoc] using h2, h3, h4, h5, by rw [h6]; simp [World.setCell], fun k hk => ?_⟩
    · simp only [storeCells, Sem.run_bind, hst, Result.andThen_ok]; exact h1
    · rw [h7 k hk]
      simp only [World.setCell, Array.getElem?_modify]
      rw [if_neg (by simpa using fun e => hk e.symm)]

theorem setCells_append : ∀ (vs xs sp : List Value) (off : Nat), off + vs.length ≤ xs.length → setCells (xs ++ sp) off vs = setCells xs off vs ++ sp
  | [], _, _, _, _ => rfl
  | v :: r, xs, sp, off, hl => by
    simp only [setCells, List.length_cons] at hl ⊢
    rw [List.set_append_left _ _ (by omega)]
    exact setCells_append r _ sp _ (by simp; omega)

/-- Cells of an owned item are stored. -/
theorem own_store {P : Program} {Γ : Ctx} {L : SH} {b off : Nat} {xs vs : List Value} {upd : List Value → SH} (hown : HasOwn L b xs upd) (ho : allOne vs = true) (hl : off + vs.length ≤ xs.length) (hne : vs ≠ []) {w : World} (hg : Good Γ L w) :
    ∃ w', (storeCells ⟨b, off, none⟩ vs).run P w = .ok () w' ∧ Good Γ (upd (setCells xs off vs)) w' := by
  obtain ⟨A, B, mk, hL, hupd, hmk⟩ := hown.own
  subst hL
  have hit : (mk xs).holds w := hg.holds _ (by simp)
  have hxs : xs ≠ [] := fun h => by rw [h] at hl; cases vs <;> simp at hl hne
  rcases hmk with ⟨e, rfl⟩ | ⟨ao, cap, e, k, hb, rfl⟩
  · obtain ⟨fr, h1, h2⟩ := hit
    obtain ⟨w', r1, r2, r3, r4, r5, r6, r7⟩ := storeCells_run (P := P) vs xs w off 0 h1 h2 (by omega) ho
    refine ⟨w', r1, ?_⟩
    rw [hupd]
    refine hg.change (it := .blk b e xs) (it' := .blk b e (setCells xs off vs)) r3 r4 r5 (by omega) (fun k _ hk => r7 k (by simpa [Item.owned] using hk)) ⟨fr, by simpa using r2, by rw [setCells_length]; exact h2⟩ (fun b hb => .inl hb) (by simp [Item.owned]) rfl
  · rcases hit with ⟨_, h2, _⟩ | ⟨a, sp, fr, h0, h1, h2, h3, h4, h5⟩
    · exact absurd h2 hxs
    · subst h0
      have hba : b = a.block := hb
      subst hba
      obtain ⟨w', r1, r2, r3, r4, r5, r6, r7⟩ := storeCells_run (P := P) vs (xs ++ sp) w off 0 h3 h4 (by simp; omega) ho
      have hsc := setCells_append vs xs sp off hl
      refine ⟨w', r1, ?_⟩
      rw [hupd]
      refine hg.change (it := .row (some a) cap e k xs) (it' := .row (some a) cap e k (setCells xs off vs)) r3 r4 r5 (by omega) (fun k _ hk => r7 k (by simpa [Item.owned, blksOf] using hk)) ?_ (fun b hb => .inl hb) (by simp [Item.owned, blksOf]) rfl
      refine .inr ⟨a, sp, fr, rfl, h1, h2, ?_, ?_, ?_⟩
      · rw [← hsc]; simpa using r2
      · rw [← hsc, setCells_length]; exact h4
      · rw [← hsc, setCells_length]; exact h5

instance HasOwn.blk (b : Nat) (e : TypeId) (xs : List Value) (L : SH) : HasOwn (.blk b e xs :: L) b xs (fun ys => .blk b e ys :: L) :=
  ⟨[], L, fun ys => .blk b e ys, rfl, fun _ => rfl, .inl ⟨e, rfl⟩⟩
instance HasOwn.row (ao : Option Addr) (cap : Nat) (e : TypeId) (k : Nat) (xs : List Value) (L : SH) : HasOwn (.row ao cap e k xs :: L) (blkOf ao) xs (fun ys => .row ao cap e k ys :: L) :=
  ⟨[], L, fun ys => .row ao cap e k ys, rfl, fun _ => rfl, .inr ⟨ao, cap, e, k, rfl, rfl⟩⟩
instance HasOwn.row0 (b off : Nat) (sp : Option Nat) (cap : Nat) (e : TypeId) (k : Nat) (xs : List Value) (L : SH) : HasOwn (.row (some ⟨b, off, sp⟩) cap e k xs :: L) b xs (fun ys => .row (some ⟨b, off, sp⟩) cap e k ys :: L) := HasOwn.row _ _ _ _ _ _
instance (priority := low) HasOwn.tail (it : Item) (L : SH) (b : Nat) (xs : List Value) (upd : List Value → SH) [h : HasOwn L b xs upd] : HasOwn (it :: L) b xs (fun ys => it :: upd ys) := by
  obtain ⟨A, B, mk, h1, h2, h3⟩ := h.own
  exact ⟨it :: A, B, mk, by rw [h1]; rfl, fun ys => by rw [h2]; rfl, h3⟩

theorem row_some_cell {w : World} {a : Addr} {xs sp : List Value} {e : TypeId} {fr : Nat × Nat} (h : w.heap[a.block]? = some (.cells ⟨xs ++ sp⟩ e fr)) {j : Nat} {v : Value} (hv : xs[j]? = some v) : w.cell? ⟨a.block, j, none⟩ = some v := by
  rw [cell_of_cells h, List.getElem?_append_left (List.getElem?_eq_some_iff.1 hv).1]
  exact hv

instance HasCells.blk (b : Nat) (e : TypeId) (xs : List Value) (L : SH) : HasCells (.blk b e xs :: L) b 0 xs := by
  refine ⟨fun w hw j v hv => ?_⟩
  obtain ⟨fr, h1, _⟩ := hw _ (.head _)
  rw [Nat.add_zero, cell_of_cells h1]; exact hv
instance HasCells.row (ao : Option Addr) (cap : Nat) (e : TypeId) (k : Nat) (xs : List Value) (L : SH) : HasCells (.row ao cap e k xs :: L) (blkOf ao) 0 xs := by
  refine ⟨fun w hw j v hv => ?_⟩
  rcases hw _ (.head _) with ⟨_, h2, _⟩ | ⟨a, sp, fr, h0, h1, h2, h3, h4, h5⟩
  · rw [h2] at hv; simp at hv
  · subst h0; rw [Nat.add_zero]; exact row_some_cell h3 hv
instance HasCells.row0 (b off : Nat) (sp : Option Nat) (cap : Nat) (e : TypeId) (k : Nat) (xs : List Value) (L : SH) : HasCells (.row (some ⟨b, off, sp⟩) cap e k xs :: L) b 0 xs := HasCells.row _ _ _ _ _ _
instance HasCells.view (ao : Option Addr) (e : TypeId) (xs : List Value) (L : SH) : HasCells (.view ao e xs :: L) (blkOf ao) (offOf ao) xs := by
  refine ⟨fun w hw j v hv => ?_⟩
  rcases hw _ (.head _) with h2 | ⟨a, c, fr, h0, h1, h2, h3⟩
  · rw [h2] at hv; simp at hv
  · subst h0
    have : w.cell? ⟨a.block, j + a.off, none⟩ = c[j + a.off]? := by simp [World.cell?, h2]
    show w.cell? ⟨a.block, j + a.off, none⟩ = some v
    rw [this]
    rw [← h3, List.getElem?_take] at hv
    split at hv
    · rw [List.getElem?_drop] at hv
      rw [Nat.add_comm]
      simpa using hv
    · cases hv
instance (priority := low) HasCells.tail (it : Item) (L : SH) (b base : Nat) (xs : List Value) [h : HasCells L b base xs] : HasCells (it :: L) b base xs :=
  ⟨fun w hw j v hv => h.cell w (fun x hx => hw x (.tail _ hx)) j v hv⟩

instance HasRw.row (ao : Option Addr) (cap : Nat) (e : TypeId) (k : Nat) (xs : List Value) (L : SH) : HasRw (.row ao cap e k xs :: L) ao xs := by
  refine ⟨fun w hw hne => ?_⟩
  rcases hw _ (.head _) with ⟨_, h2, _⟩ | ⟨a, sp, fr, h0, h1, h2, h3, h4, h5⟩
  · exact absurd h2 hne
  · exact ⟨a, h0, h2, h1⟩
instance (priority := low) HasRw.tail (it : Item) (L : SH) (ao : Option Addr) (xs : List Value) [h : HasRw L ao xs] : HasRw (it :: L) ao xs :=
  ⟨fun w hw hne => h.addr w (fun x hx => hw x (.tail _ hx)) hne⟩
instance HasSl.row (ao : Option Addr) (cap : Nat) (e : TypeId) (k : Nat) (xs : List Value) (L : SH) : HasSl (.row ao cap e k xs :: L) ao xs := by
  refine ⟨fun w hw hne => ?_, fun w hw j v hv => ?_⟩
  · rcases hw _ (.head _) with ⟨_, h2, _⟩ | ⟨a, sp, fr, h0, h1, h2, h3, h4, h5⟩
    · exact absurd h2 hne
    · subst h0; exact ⟨a, rfl, h2, rfl, rfl⟩
  · rcases hw _ (.head _) with ⟨_, h2, _⟩ | ⟨a, sp, fr, h0, h1, h2, h3, h4, h5⟩
    · rw [h2] at hv; simp at hv
    · subst h0
      show w.cell? ⟨a.block, j + a.off, none⟩ = _
      rw [h1, Nat.add_zero]; exact row_some_cell h3 hv
instance HasSl.view (ao : Option Addr) (e : TypeId) (xs : List Value) (L : SH) : HasSl (.view ao e xs :: L) ao xs := by
  refine ⟨fun w hw hne => ?_, fun w hw j v hv => (HasCells.view ao e xs L).cell w hw j v hv⟩
  rcases hw _ (.head _) with h2 | ⟨a, c, fr, h0, h1, h2, h3⟩
  · exact absurd h2 hne
  · subst h0; exact ⟨a, rfl, h1, rfl, rfl⟩
instance (priority := low) HasSl.tail (it : Item) (L : SH) (ao : Option Addr) (xs : List Value) [h : HasSl L ao xs] : HasSl (it :: L) ao xs :=
  ⟨fun w hw hne => h.addr w (fun x hx => hw x (.tail _ hx)) hne, fun w hw j v hv => h.cell w (fun x hx => hw x (.tail _ hx)) j v hv⟩

/-! ### Taking items out of a heap -/
inductive Take : SH → Item → SH → Prop
  | here {it : Item} {L : SH} : Take (it :: L) it L
  | there {x it : Item} {L L1 : SH} (h : Take L it L1) : Take (x :: L) it (x :: L1)
  | open {it : Item} {L L1 L2 Lp : SH} (h : Take L (pack Lp) L1) (hs : shared Lp = []) (h2 : Take (Lp ++ L1) it L2) : Take L it L2

theorem Take.ent {L L1 : SH} {it : Item} (h : Take L it L1) : Ent L (it :: L1) := by
  induction h with
  | here => exact Ent.refl _
  | there h ih => exact (ih.cons _).trans (Ent.of_perm (List.Perm.swap _ _ _))
  | «open» h hs h2 ih ih2 => exact ih.trans ((Ent.unpack hs).trans ih2)

/-- What can be read off other items, without taking them. -/
def Sees (L : SH) (it : Item) : Prop := it.owned = [] ∧ ∀ w, Holds w L → it.holds w ∧ ∀ b ∈ it.shared, b ∈ owned L ∨ b ∈ shared L

inductive Split : SH → SH → SH → Prop
  | nil {L : SH} : Split L [] L
  | own {L L1 O Rest : SH} {it : Item} (ht : Take L it L1) (hs : it.shared = []) (h : Split L1 O Rest) : Split L (it :: O) Rest
  | view {L O Rest : SH} {it : Item} (h : Split L O Rest) (hs : Sees Rest it) : Split L (it :: O) Rest
  | none {L O Rest : SH} {e k : Nat} (h : Split L O Rest) : Split L (.row none 0 e k [] :: O) Rest
  | pack {L O Rest Lp : SH} (h : Split L (Lp ++ O) Rest) (hs : shared Lp = []) : Split L (pack Lp :: O) Rest
  | ent {L L' O Rest : SH} (e : Ent L L') (h : Split L' O Rest) : Split L O Rest

structure SplitOk (L O Rest : SH) (Oo : SH) : Prop where
  ent : Ent L (Oo ++ Rest)
  own : owned O = owned Oo
  sh : shared Oo = []
  holds : ∀ w, Holds w (Oo ++ Rest) → Holds w O
  view : ∀ w, Holds w (Oo ++ Rest) → ∀ b ∈ shared O, b ∈ owned Rest ∨ b ∈ shared Rest

theorem Split.ok {L O Rest : SH} (h : Split L O Rest) : ∃ Oo, SplitOk L O Rest Oo := by
  induction h with
  | nil => exact ⟨[], Ent.refl _, rfl, rfl, fun _ _ it hit => (by cases hit), fun _ _ b hb => (by simp at hb)⟩
  | own ht hs _ ih =>
    rename_i L L1 O Rest it _
    obtain ⟨Oo, h1, h2, h3, h4, h5⟩ := ih
    refine ⟨it :: Oo, ht.ent.trans (h1.cons it), by simp [h2], by simp [h3, hs], fun w hw => ?_, fun w hw b hb => ?_⟩
    · have hw := holds_cons.1 hw
      exact holds_cons.2 ⟨hw.1, h4 w hw.2⟩
    · simp only [shared_cons, hs, List.nil_append] at hb
      exact h5 w (holds_cons.1 hw).2 b hb
  | view _ hs ih =>
    rename_i L O Rest it _
    obtain ⟨Oo, h1, h2, h3, h4, h5⟩ := ih
    refine ⟨Oo, h1, by simp [hs.1, h2], h3, fun w hw => ?_, fun w hw b hb => ?_⟩
    · exact holds_cons.2 ⟨(hs.2 w (holds_append.1 hw).2).1, h4 w hw⟩
    · simp only [shared_cons, List.mem_append] at hb
      rcases hb with hb | hb
      · exact (hs.2 w (holds_append.1 hw).2).2 b hb
      · exact h5 w hw b hb
  | none _ ih =>
    obtain ⟨Oo, h1, h2, h3, h4, h5⟩ := ih
    refine ⟨Oo, h1, by simp [h2, Item.owned, blksOf], h3, fun w hw => holds_cons.2 ⟨.inl ⟨rfl, rfl, rfl⟩, h4 w hw⟩, fun w hw b hb => h5 w hw b (by simpa [Item.shared] using hb)⟩
  | pack _ hs ih =>
    obtain ⟨Oo, h1, h2, h3, h4, h5⟩ := ih
    refine ⟨Oo, h1, by simpa using h2, h3, fun w hw => ?_, fun w hw b hb => h5 w hw b (by simpa using .inr hb)⟩
    have := holds_append.1 (h4 w hw)
    exact holds_cons.2 ⟨⟨hs, this.1⟩, this.2⟩
  | ent e _ ih =>
    obtain ⟨Oo, h1, h2, h3, h4, h5⟩ := ih
    exact ⟨Oo, e.trans h1, h2, h3, h4, h5⟩

/-- Items are taken out, all others are dropped; a row without cells is there at any rate. -/
inductive Takes : SH → SH → Prop
  | nil {L : SH} : Takes L []
  | cons {L L1 O : SH} {it : Item} (ht : Take L it L1) (h : Takes L1 O) : Takes L (it :: O)
  | none {L O : SH} {e k : Nat} (h : Takes L O) : Takes L (.row none 0 e k [] :: O)
  | pack {L O Lp : SH} (h : Takes L (Lp ++ O)) (hs : shared Lp = []) : Takes L (pack Lp :: O)
  | ent {L L' O : SH} (e : Ent L L') (h : Takes L' O) : Takes L O
  | all {L : SH} : Takes L L

theorem Takes.ok {L O : SH} (h : Takes L O) : ∃ O1 Rest, Ent L (O1 ++ Rest) ∧ owned O = owned O1 ∧ (∀ b, b ∈ shared O → b ∈ shared O1) ∧ ∀ w, Holds w O1 → Holds w O := by
  induction h with
  | nil => exact ⟨[], _, Ent.refl _, rfl, fun _ h => h, fun _ h => h⟩
  | cons ht _ ih =>
    rename_i it _
    obtain ⟨O1, R, hR, h1, h2, h3⟩ := ih
    refine ⟨it :: O1, R, ht.ent.trans (hR.cons it), by simp [h1], fun b hb => ?_, fun w hw => ?_⟩
    · simp only [shared_cons, List.mem_append] at hb ⊢; exact hb.imp id (h2 b)
    · have := holds_cons.1 hw; exact holds_cons.2 ⟨this.1, h3 w this.2⟩
  | none _ ih =>
    obtain ⟨O1, R, hR, h1, h2, h3⟩ := ih
    exact ⟨O1, R, hR, by simp [h1, Item.owned, blksOf], fun b hb => h2 b (by simpa [Item.shared] using hb), fun w hw => holds_cons.2 ⟨.inl ⟨rfl, rfl, rfl⟩, h3 w hw⟩⟩
  | pack _ hs ih =>
    obtain ⟨O1, R, hR, h1, h2, h3⟩ := ih
    refine ⟨O1, R, hR, by simpa using h1, fun b hb => h2 b (by simpa using .inr hb), fun w hw => ?_⟩
    have := holds_append.1 (h3 w hw)
    exact holds_cons.2 ⟨⟨hs, this.1⟩, this.2⟩
  | ent e _ ih =>
    obtain ⟨O1, R, hR, h1, h2, h3⟩ := ih
    exact ⟨O1, R, e.trans hR, h1, h2, h3⟩
  | all => rename_i L; exact ⟨L, [], by simpa using Ent.refl L, rfl, fun _ h => h, fun _ h => h⟩

theorem Good.takes {Γ : Ctx} {L O : SH} {w : World} (h : Good Γ L w) (ht : Takes L O) : Good Γ O w := by
  obtain ⟨O1, R, hR, h1, h2, h3⟩ := ht.ok
  have hg := (h.ent hR).sub (List.sublist_append_left O1 R)
  exact ⟨hg.keep, h3 w hg.holds, by rw [h1]; exact hg.nodup, fun b hb => by rw [h1]; exact hg.apart b (h2 b hb), fun b hb => by rw [h1] at hb; exact hg.own b hb⟩

/-! ### A function's contract -/
def HasBody (P : Program) (fn : Nat) : Prop := ∃ f, P.funcs[fn]? = some f ∧ f.body.isNone = false ∧ (f.name == "runtime.NumGoroutine") = false

structure Left (O : SH) (w : World) (O' : SH) (w' : World) : Prop where
  keep : Keep (owned O) w w'
  holds : Holds w' O'
  nodup : (owned O').Nodup
  apart : ∀ b, b ∈ shared O' → b ∉ owned O'
  fresh : ∀ b, b ∈ owned O' ∨ b ∈ shared O' → b ∈ owned O ∨ w.heap.size ≤ b

structure Spec (P : Program) (fn : Nat) (args : List Value) (O : SH) (post : Value → SH → Prop) : Prop where
  body : HasBody P fn
  calls : ∀ w, Holds w O → (owned O).Nodup → (∀ b, b ∈ shared O → b ∉ owned O) → Calls P fn args.toArray w fun e w' => ∃ v O', e = .returned v ∧ post v O' ∧ Left O w O' w'

theorem Spec.mono {P : Program} {fn : Nat} {args : List Value} {O : SH} {post post' : Value → SH → Prop} (h : Spec P fn args O post) (hp : ∀ v O', post v O' → post' v O') : Spec P fn args O post' :=
  ⟨h.body, fun w h1 h2 h3 => (h.calls w h1 h2 h3).mono fun _ _ ⟨v, O', he, hq, hl⟩ => ⟨v, O', he, hp _ _ hq, hl⟩⟩

/-- The same contract for other items that come to the same. -/
theorem Spec.pre {P : Program} {fn : Nat} {args : List Value} {O O' : SH} {post : Value → SH → Prop} (e : Ent O O') (h : Spec P fn args O' post) : Spec P fn args O post :=
  ⟨h.body, fun w h1 h2 h3 => (h.calls w (e.holds w h1) (e.own.nodup_iff.2 h2) (fun b hb hn => h3 b (e.sh b hb) (e.own.subset hn))).mono fun _ _ ⟨v, Q, he, hq, hl⟩ =>
    ⟨v, Q, he, hq, ⟨⟨hl.keep.os, hl.keep.tape, hl.keep.output, hl.keep.size, fun k hk hn => hl.keep.block k hk fun hm => hn (e.own.subset hm)⟩, hl.holds, hl.nodup, hl.apart, fun b hb => (hl.fresh b hb).imp (fun h => e.own.subset h) id⟩⟩⟩

theorem Left.ent {O O' O'' : SH} {w w' : World} (hl : Left O w O' w') (e : Ent O' O'') : Left O w O'' w' :=
  ⟨hl.keep, e.holds w' hl.holds, e.own.nodup_iff.2 hl.nodup, fun b hb hn => hl.apart b (e.sh b hb) (e.own.subset hn), fun b hb => hl.fresh b (hb.imp (fun h => e.own.subset h) (e.sh b))⟩

theorem Spec.post {P : Program} {fn : Nat} {args : List Value} {O : SH} {post post' : Value → SH → Prop} (h : Spec P fn args O post) (hp : ∀ v O', post v O' → ∃ O'', Ent O' O'' ∧ post' v O'') : Spec P fn args O post' :=
  ⟨h.body, fun w h1 h2 h3 => (h.calls w h1 h2 h3).mono fun _ _ ⟨v, Q, he, hq, hl⟩ => by
    obtain ⟨Q', e, hq'⟩ := hp v Q hq
    exact ⟨v, Q', he, hq', hl.ent e⟩⟩

theorem Good.called {Γ : Ctx} {L O Rest O' : SH} {w w' : World} (hg : Good Γ L w) {Oo : SH} (hs : SplitOk L O Rest Oo) (hl : Left O w O' w') : Good Γ (O' ++ Rest) w' := by
  have hg2 := hg.ent hs.ent
  have hnd := hg2.nodup
  simp only [owned_append] at hnd
  obtain ⟨n1, n2, n3⟩ := List.nodup_append.1 hnd
  have hlt := hg2.lt
  simp only [owned_append, shared_append, List.mem_append] at hlt
  have hown : ∀ b, b ∈ owned O ↔ b ∈ owned Oo := fun b => by rw [hs.own]
  have hrestO : ∀ b, b ∈ owned Rest → b ∉ owned O := fun b hb ho => n3 b ((hown b).1 ho) b hb rfl
  have hap := hg2.apart
  simp only [owned_append, shared_append, List.mem_append, not_or] at hap
  have hsrestO : ∀ b, b ∈ shared Rest → b ∉ owned O := fun b hb ho => (hap b (.inr hb)).1 ((hown b).1 ho)
  refine ⟨hg.keep.trans hl.keep (fun k hk => hg2.own k (by simp [(hown k).1 hk])), ?_, ?_, ?_, ?_⟩
  · intro x hx
    simp only [List.mem_append] at hx
    rcases hx with hx | hx
    · exact hl.holds x hx
    · refine Item.holds_congr (hg2.holds x (by simp [hx])) fun b hb => hl.keep.block b (Item.lt (hg2.holds x (by simp [hx])) b hb) ?_
      rcases hb with hb | hb
      · exact hrestO b (List.mem_flatMap.2 ⟨x, hx, hb⟩)
      · exact hsrestO b (List.mem_flatMap.2 ⟨x, hx, hb⟩)
  · simp only [owned_append]
    refine List.nodup_append.2 ⟨hl.nodup, n2, ?_⟩
    rintro x hx y hy rfl
    rcases hl.fresh x (.inl hx) with h | h
    · exact hrestO x hy h
    · have := hlt x (.inl (.inr hy)); omega
  · intro b hb
    simp only [owned_append, shared_append, List.mem_append, not_or] at hb ⊢
    rcases hb with hb | hb
    · refine ⟨hl.apart b hb, fun hr => ?_⟩
      rcases hl.fresh b (.inr hb) with h | h
      · exact hrestO b hr h
      · have := hlt b (.inl (.inr hr)); omega
    · refine ⟨fun ho => ?_, (hap b (.inr hb)).2⟩
      rcases hl.fresh b (.inl ho) with h | h
      · exact hsrestO b hb h
      · have := hlt b (.inr (.inr hb)); omega
  · intro b hb
    simp only [owned_append, List.mem_append] at hb
    rcases hb with hb | hb
    · rcases hl.fresh b (.inl hb) with h | h
      · exact hg2.own b (by simp [(hown b).1 h])
      · exact .inr (Nat.le_trans hg.keep.size h)
    · exact hg2.own b (by simp [hb])

theorem SplitOk.ready {Γ : Ctx} {L O Rest Oo : SH} {w : World} (hs : SplitOk L O Rest Oo) (hg : Good Γ L w) : Holds w O ∧ (owned O).Nodup ∧ ∀ b, b ∈ shared O → b ∉ owned O := by
  have hg2 := hg.ent hs.ent
  have hnd := hg2.nodup
  simp only [owned_append] at hnd
  obtain ⟨n1, n2, n3⟩ := List.nodup_append.1 hnd
  refine ⟨hs.holds w hg2.holds, by rw [hs.own]; exact n1, fun b hb ho => ?_⟩
  rw [hs.own] at ho
  rcases hs.view w hg2.holds b hb with h | h
  · exact n3 b ho b h rfl
  · exact hg2.apart b (by simp [h]) (by simp [ho])

inductive EvCall (S : Sig) (fn : Nat) (args : List Value) (L : SH) (k : Value → SH → Prop) : Prop
  | mk (O Rest : SH) (post : Value → SH → Prop) (spec : Spec S.P fn args O post) (sp : Split L O Rest) (h : ∀ v O', post v O' → appK O' Rest fun L' => force v fun v' => k v' L')
  | ext (v : Value) (hx : ∀ w, (callFunc fn args.toArray).run S.P w = .ok (.value v) w) (h : force v fun v' => k v' L)

/-- A call whose answer is known, and that changes nothing. -/
inductive EvQCall (S : Sig) (fn : Nat) (args : List Value) (L : SH) (k : Value → Prop) : Prop
  | mk (O : SH) (v : Value) (spec : Spec S.P fn args O (fun u _ => u = v)) (sp : Split L O L) (h : force v k)
  | own (O Rest : SH) (v : Value) (spec : Spec S.P fn args O (fun u O' => u = v ∧ Ent (O' ++ Rest) L)) (sp : Split L O Rest) (h : force v k)
  | ext (v : Value) (hx : ∀ w, (callFunc fn args.toArray).run S.P w = .ok (.value v) w) (h : force v k)

end Go.Proofs.Ytloknkdomgeolaa.She
