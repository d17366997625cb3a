/- Part of a small program logic: operations that only make memory leave what is known. -/
import Derived.Test.YtloknkdomgeolaaSheG
namespace Go.Proofs.Ytloknkdomgeolaa.She
set_option linter.all false
open Go

/-- Blocks have come, and draws have been made; all else is as it was. -/
structure Grown (w w' : World) : Prop where
  os : w'.os = w.os
  tape : w'.tape = w.tape
  output : w'.output = w.output
  size : w.heap.size ≤ w'.heap.size
  block : ∀ k, k < w.heap.size → w'.heap[k]? = w.heap[k]?

theorem Grown.refl (w : World) : Grown w w := ⟨rfl, rfl, rfl, Nat.le_refl _, fun _ _ => rfl⟩
theorem Grown.trans {a b c : World} (h : Grown a b) (h' : Grown b c) : Grown a c :=
  ⟨h'.os.trans h.os, h'.tape.trans h.tape, h'.output.trans h.output, Nat.le_trans h.size h'.size, fun k hk => (h'.block k (Nat.lt_of_lt_of_le hk h.size)).trans (h.block k hk)⟩

theorem Good.grown {Γ : Ctx} {L : SH} {w w' : World} (h : Good Γ L w) (hg : Grown w w') : Good Γ L w' :=
  ⟨⟨hg.os.trans h.keep.os, hg.tape.trans h.keep.tape, hg.output.trans h.keep.output, Nat.le_trans h.keep.size hg.size, fun k hk hn => (hg.block k (Nat.lt_of_lt_of_le hk h.keep.size)).trans (h.keep.block k hk hn)⟩,
   holds_congr h.holds (fun b hb => hg.block b (h.lt b hb)), h.nodup, h.apart, h.own⟩

/-- Nothing is written. -/
def tame {α : Type} : Sem α → Prop
  | .pure _ => True
  | .load _ _ k => ∀ v, tame (k v)
  | .new _ k => ∀ r, tame (k r)
  | .shape _ k => ∀ s, tame (k s)
  | .frozen _ k => ∀ b, tame (k b)
  | .getObj _ k => ∀ o, tame (k o)
  | .choose _ k => ∀ n, tame (k n)
  | .program k => ∀ p, tame (k p)
  | .mark _ k => tame k
  | .halt _ => True
  | .store _ _ _ _ => False
  | .freeze _ _ _ => False
  | .setObj _ _ _ => False
  | .sys _ _ => False

theorem tame_bind0 {α β : Type} : ∀ (m : Sem α) (f : α → Sem β), tame m → (∀ a, tame (f a)) → tame (m.bind f)
  | .pure a, f, _, h => h a
  | .load _ _ k, f, hm, h => fun v => tame_bind0 (k v) f (hm v) h
  | .new _ k, f, hm, h => fun v => tame_bind0 (k v) f (hm v) h
  | .shape _ k, f, hm, h => fun v => tame_bind0 (k v) f (hm v) h
  | .frozen _ k, f, hm, h => fun v => tame_bind0 (k v) f (hm v) h
  | .getObj _ k, f, hm, h => fun v => tame_bind0 (k v) f (hm v) h
  | .choose _ k, f, hm, h => fun v => tame_bind0 (k v) f (hm v) h
  | .program k, f, hm, h => fun v => tame_bind0 (k v) f (hm v) h
  | .mark _ k, f, hm, h => tame_bind0 k f hm h
  | .halt _, _, _, _ => trivial
  | .store _ _ _ _, _, hm, _ => hm.elim
  | .freeze _ _ _, _, hm, _ => hm.elim
  | .setObj _ _ _, _, hm, _ => hm.elim
  | .sys _ _, _, hm, _ => hm.elim
theorem tame_bind {α β : Type} {m : Sem α} {f : α → Sem β} (hm : tame m) (h : ∀ a, tame (f a)) : tame (m >>= f) := tame_bind0 m f hm h
theorem tame_pure {α : Type} (a : α) : tame (pure a : Sem α) := trivial

theorem tame_run {α : Type} {P : Program} (m : Sem α) : ∀ {w w' : World} {r : α}, tame m → m.run P w = .ok r w' → Grown w w' := by
  induction m with
  | pure a => intro w w' r _ h; simp only [Sem.run, Result.ok.injEq] at h; rw [h.2]; exact Grown.refl _
  | load m a k ih =>
    intro w w' r hm h
    simp only [Sem.run] at h
    split at h
    · exact ih _ (hm _) h
    · split at h
      · exact ih _ (hm _) h
      · cases h
  | new o k ih =>
    intro w w' r hm h
    simp only [Sem.run] at h
    have h1 : Grown w { w with heap := w.heap.push o } := ⟨rfl, rfl, rfl, by simp, fun k hk => heap_push_lt w o hk⟩
    exact h1.trans (ih _ (hm _) h)
  | shape _ k ih => intro w w' r hm h; simp only [Sem.run] at h; exact ih _ (hm _) h
  | frozen _ k ih => intro w w' r hm h; simp only [Sem.run] at h; exact ih _ (hm _) h
  | getObj _ k ih =>
    intro w w' r hm h
    simp only [Sem.run] at h
    split at h
    · cases h
    · exact ih _ (hm _) h
    · cases h
  | choose q k ih =>
    intro w w' r hm h
    simp only [Sem.run] at h
    split at h
    · exact ih _ (hm _) h
    · have h1 : Grown w { w with drawn := w.drawn + 1 } := ⟨rfl, rfl, rfl, Nat.le_refl _, fun _ _ => rfl⟩
      exact h1.trans (ih _ (hm _) h)
  | program k ih => intro w w' r hm h; simp only [Sem.run] at h; exact ih _ (hm _) h
  | mark _ k ih => intro w w' r hm h; simp only [Sem.run] at h; exact ih hm h
  | halt _ => intro w w' r _ h; simp only [Sem.run] at h; cases h
  | store _ _ _ _ => intro w w' r hm; exact hm.elim
  | freeze _ _ _ => intro w w' r hm; exact hm.elim
  | setObj _ _ _ => intro w w' r hm; exact hm.elim
  | sys _ _ => intro w w' r hm; exact hm.elim

theorem tame_stuck {α : Type} (s : String) : tame (stuck s : Sem α) := trivial
theorem tame_unsupported {α : Type} (u : Unsupported) : tame (unsupported u : Sem α) := trivial
theorem tame_goPanic {α : Type} (v : Value) : tame (goPanic v : Sem α) := trivial
theorem tame_choose (q : Question) : tame (choose q) := fun _ => trivial
theorem tame_program : tame program := fun _ => trivial
theorem tame_load (a : Addr) (m : Mode) : tame (load a m) := fun _ => trivial
theorem tame_newObj (o : Obj) : tame (newObj o) := fun _ => trivial
theorem tame_mark (m : Mark) : tame (mark m) := trivial
theorem tame_shape (r : Nat) : tame (shape r) := fun _ => trivial
theorem tame_frozen (a : Addr) : tame (frozen a) := fun _ => trivial
theorem tame_typeInfo (t : TypeId) : tame (typeInfo t) := tame_bind tame_program fun p => by split <;> trivial
theorem tame_underlying (t : TypeId) : tame (underlying t) := tame_bind tame_program fun p => by split <;> trivial
theorem tame_zeroValue (t : TypeId) : tame (zeroValue t) := tame_bind (tame_typeInfo t) fun p => by split <;> trivial
theorem tame_sizeOf (t : TypeId) : tame (sizeOf t) := tame_bind (tame_typeInfo t) fun _ => trivial
theorem tame_newRow (t : TypeId) (c : Array Value) : tame (newRow t c) := tame_bind (tame_newObj _) fun _ => trivial
theorem tame_newVar (t : TypeId) (v : Value) : tame (newVar t v) := tame_newRow _ _
theorem tame_askRoom (n : Nat) : tame (askRoom n) := by unfold askRoom; split <;> trivial
theorem tame_asIntOf (v : Value) : tame (asIntOf v) := by unfold asIntOf; split <;> trivial
theorem tame_asInt (v : Value) : tame (asInt v) := tame_bind (tame_asIntOf v) fun _ => trivial
theorem tame_elemOf (t : TypeId) : tame (elemOf t) := tame_bind (tame_underlying t) fun d => by split <;> trivial
theorem tame_runtimePanic {α : Type} (e : RuntimeError) : tame (runtimePanic e : Sem α) := by
  refine tame_bind tame_program fun p => ?_
  cases e <;> first | trivial | exact tame_bind (tame_bind (tame_elemOf _) fun _ => tame_newVar _ _) fun _ => trivial | skip
  all_goals exact tame_bind (tame_elemOf _) fun _ => tame_bind (tame_newVar _ _) fun _ => trivial

theorem tame_loadCellsFrom (a : Addr) : ∀ (n i : Nat) (acc : Array Value), tame (loadCellsFrom a i n acc)
  | 0, _, _ => trivial
  | n + 1, i, acc => tame_bind (tame_load _ _) fun v => tame_loadCellsFrom a n (i + 1) _
theorem tame_lenOf (v : Value) : tame (Builtin.lenOf v) := by unfold Builtin.lenOf; split <;> trivial
theorem tame_firstCells (s n : Nat) (v : Value) : tame (Builtin.firstCells s n v) := by
  unfold Builtin.firstCells
  split
  · exact tame_loadCellsFrom _ _ _ _
  all_goals trivial

theorem tame_holdsCells (a : Addr) (n : Nat) : tame (Builtin.holdsCells a n) := tame_bind (tame_shape _) fun _ => by split <;> trivial
theorem tame_mayShare (size sLen n : Nat) (base : Option Addr) (x : Value) : tame (Builtin.mayShare size sLen n base x) := by
  unfold Builtin.mayShare
  repeat' (first | exact trivial | exact tame_holdsCells _ _ | exact tame_frozen _ | (refine tame_bind ?_ fun _ => ?_) | split | (dsimp only))

theorem tame_alloc (t : TypeId) : tame (Instr.alloc t true (.tuple #[])) := by
  unfold Instr.alloc
  repeat' (first | exact trivial | exact tame_typeInfo _ | exact tame_underlying _ | exact tame_zeroValue _ | exact tame_sizeOf _ | exact tame_newRow _ _ | exact tame_newVar _ _ | exact tame_askRoom _ | exact tame_asInt _ | exact tame_runtimePanic _ | exact tame_firstCells _ _ _ | exact tame_lenOf _ | exact tame_mayShare _ _ _ _ _ | exact tame_choose _ | exact tame_mark _ | (refine tame_bind ?_ fun _ => ?_) | split | (dsimp only))
theorem tame_box (t : TypeId) (v : Value) : tame (Instr.box t v) := by
  unfold Instr.box
  repeat' (first | exact trivial | exact tame_typeInfo _ | exact tame_underlying _ | exact tame_zeroValue _ | exact tame_sizeOf _ | exact tame_newRow _ _ | exact tame_newVar _ _ | exact tame_askRoom _ | exact tame_asInt _ | exact tame_runtimePanic _ | exact tame_firstCells _ _ _ | exact tame_lenOf _ | exact tame_mayShare _ _ _ _ _ | exact tame_choose _ | exact tame_mark _ | (refine tame_bind ?_ fun _ => ?_) | split | (dsimp only))
theorem tame_buildSlice (t : TypeId) (n : Nat) (ps : Array (Nat × Value)) : tame (Instr.buildSlice t n ps) := by
  unfold Instr.buildSlice
  repeat' (first | exact trivial | exact tame_typeInfo _ | exact tame_underlying _ | exact tame_zeroValue _ | exact tame_sizeOf _ | exact tame_newRow _ _ | exact tame_newVar _ _ | exact tame_askRoom _ | exact tame_asInt _ | exact tame_runtimePanic _ | exact tame_firstCells _ _ _ | exact tame_lenOf _ | exact tame_mayShare _ _ _ _ _ | exact tame_choose _ | exact tame_mark _ | (refine tame_bind ?_ fun _ => ?_) | split | (dsimp only))

theorem tame_forIn {α β : Type} (f : α → β → Sem (ForInStep β)) (hf : ∀ a b, tame (f a b)) : ∀ (l : List α) (b : β), tame (forIn l b f)
  | [], b => by rw [List.forIn_nil]; trivial
  | x :: l, b => by
    rw [List.forIn_cons]
    refine tame_bind (hf x b) fun r => ?_
    cases r with
    | done b' => exact tame_pure _
    | yield b' => exact tame_forIn f hf l b'
theorem tame_forInA {α β : Type} (f : α → β → Sem (ForInStep β)) (hf : ∀ a b, tame (f a b)) (l : Array α) (b : β) : tame (forIn l b f) := by
  rw [← Array.forIn_toList]; exact tame_forIn f hf _ _
theorem tame_mapM {α β : Type} (f : α → Sem β) (hf : ∀ a, tame (f a)) : ∀ l : List α, tame (l.mapM f)
  | [] => by rw [List.mapM_nil]; trivial
  | x :: l => by
    rw [List.mapM_cons]
    exact tame_bind (hf x) fun _ => tame_bind (tame_mapM f hf l) fun _ => tame_pure _
theorem tame_mapMA {α β : Type} (f : α → Sem β) (hf : ∀ a, tame (f a)) (l : Array α) : tame (l.mapM f) := by
  rw [Array.mapM_eq_mapM_toList]
  exact tame_bind (tame_mapM f hf _) fun _ => tame_pure _
theorem tame_build (t : TypeId) (ps : Array (Nat × Value)) : tame (Instr.build t ps) := by
  unfold Instr.build
  repeat' (first | exact trivial | exact tame_zeroValue _ | exact tame_underlying _ | exact tame_sizeOf _ | exact tame_mapMA _ (fun a => tame_bind (tame_sizeOf _) fun _ => tame_pure _) _ | (refine tame_bind ?_ fun _ => ?_) | split | (dsimp only))
theorem tame_isAgg (t : TypeId) : tame (isAgg t) := tame_bind (tame_underlying t) fun d => by split <;> trivial
theorem tame_loadAt (t : TypeId) (v : Value) : tame (Instr.loadAt t v) := by
  unfold Instr.loadAt Instr.sureAddr loadVar
  repeat' (first | exact trivial | exact tame_isAgg _ | exact tame_sizeOf _ | exact tame_loadCellsFrom _ _ _ _ | exact tame_load _ _ | (refine tame_bind ?_ fun _ => ?_) | split | (dsimp only))
theorem tame_boundsPanic {α : Type} (k : IntKind) (x y : Int) (c : BoundsCode) : tame (boundsPanic k x y c : Sem α) := by
  unfold boundsPanic
  dsimp only
  split
  · exact tame_bind (tame_bind (tame_choose _) fun _ => tame_pure _) fun _ => tame_runtimePanic _
  · exact tame_bind (tame_pure _) fun _ => tame_runtimePanic _
theorem tame_sliceBound (x : Value) (y : Nat) (c : BoundsCode) : tame (Instr.sliceBound x y c) := by
  unfold Instr.sliceBound
  refine tame_bind (tame_asIntOf _) fun p => ?_
  obtain ⟨k, i⟩ := p
  dsimp only
  split
  · trivial
  · exact tame_boundsPanic _ _ _ _
theorem tame_sliceBounds (b : Bool) (n c : Nat) (lo hi mx : Option Value) : tame (Instr.sliceBounds b n c lo hi mx) := by
  unfold Instr.sliceBounds
  repeat' (first | exact trivial | exact tame_sliceBound _ _ _ | (refine tame_bind ?_ fun _ => ?_) | split | (dsimp only))
theorem tame_asAddr (v : Value) : tame (asAddr v) := by unfold asAddr; split <;> first | trivial | exact tame_runtimePanic _
theorem tame_sliceAt (t : TypeId) (x : Value) (lo hi mx : Option Value) : tame (Instr.sliceAt t x lo hi mx) := by
  unfold Instr.sliceAt Instr.slice Instr.sureAddr
  repeat' (first | exact trivial | exact tame_underlying _ | exact tame_sizeOf _ | exact tame_asAddr _ | exact tame_sliceBounds _ _ _ _ _ _ | (refine tame_bind ?_ fun _ => ?_) | split | (dsimp only))
theorem tame_extract (v : Value) (i : Nat) : tame (Instr.extract v i) := by unfold Instr.extract; split <;> first | trivial | (split <;> trivial)
theorem tame_bytesToString (v : Value) : tame (Conv.bytesToString v) := by
  unfold Conv.bytesToString
  split
  · trivial
  · refine tame_bind (tame_loadCellsFrom _ _ _ _) fun cs => tame_bind (tame_forInA _ (fun c s => ?_) _ _) fun _ => tame_pure _
    split <;> trivial
  · trivial
theorem tame_runesToString (v : Value) : tame (Conv.runesToString v) := by
  unfold Conv.runesToString
  split
  · trivial
  · refine tame_bind (tame_loadCellsFrom _ _ _ _) fun cs => tame_bind (tame_forInA _ (fun c s => ?_) _ _) fun _ => tame_pure _
    split <;> trivial
  · trivial

/-- Operations that write to no memory (they may make some). -/
def growB (S : Sig) (o : Oper) : Bool :=
  match o.op with
  | .move _ => true
  | .assign _ => true
  | .pick _ _ _ => true
  | .build _ _ => true
  | .load _ _ => true
  | .slice _ _ _ _ _ => true
  | .extract _ _ => true
  | .alloc _ => true
  | .box _ _ => true
  | .buildSlice _ _ _ => true
  | .convert s d _ => match S.T s, S.T d with
    | some { ty := .slice _, .. }, some { ty := .str, .. } => true
    | _, _ => false
  | .call c => match c.callee with
    | .builtin .append => match c.args.toList with
      | .const (.slice none 0 0) :: _ => true
      | _ => false
    | _ => false
  | _ => false

set_option maxHeartbeats 4000000 in
theorem tame_append_nil (ts : Array TypeId) (ty : TypeId) (x : Value) (rest : List Value) : tame (Builtin.append_ ts ty ⟨.slice none 0 0 :: x :: rest⟩) := by
  unfold Builtin.append_
  simp only [List.getElem?_toArray, List.getElem?_cons_zero, List.getElem?_cons_succ]
  cases h0 : ts[0]? with
  | none => exact trivial
  | some st =>
    dsimp only
    refine tame_bind (tame_underlying _) fun d => ?_
    split
    · refine tame_bind (tame_sizeOf _) fun size => ?_
      cases ts[1]? with
      | none =>
        dsimp only
        refine tame_bind (tame_pure _) fun zeros => ?_
        cases zeros
        · simp only [Bool.false_eq_true, if_false, Bool.not_false, if_true, false_or]
          repeat' (first | exact trivial | exact tame_typeInfo _ | exact tame_underlying _ | exact tame_zeroValue _ | exact tame_sizeOf _ | exact tame_newRow _ _ | exact tame_newVar _ _ | exact tame_askRoom _ | exact tame_asInt _ | exact tame_runtimePanic _ | exact tame_firstCells _ _ _ | exact tame_lenOf _ | exact tame_mayShare _ _ _ _ _ | exact tame_choose _ | exact tame_mark _ | (refine tame_bind ?_ fun _ => ?_) | split | (dsimp only))
        · simp only [if_true, Bool.not_true, Bool.false_eq_true, if_false, true_or, and_true]
          repeat' (first | exact trivial | exact tame_typeInfo _ | exact tame_underlying _ | exact tame_zeroValue _ | exact tame_sizeOf _ | exact tame_newRow _ _ | exact tame_newVar _ _ | exact tame_askRoom _ | exact tame_asInt _ | exact tame_runtimePanic _ | exact tame_firstCells _ _ _ | exact tame_lenOf _ | exact tame_mayShare _ _ _ _ _ | exact tame_choose _ | exact tame_mark _ | (refine tame_bind ?_ fun _ => ?_) | split | (dsimp only))
      | some xt =>
        dsimp only
        refine tame_bind (tame_underlying _) fun d => ?_
        refine tame_bind (tame_pure _) fun zeros => ?_
        cases zeros
        · simp only [Bool.false_eq_true, if_false, Bool.not_false, if_true, false_or]
          repeat' (first | exact trivial | exact tame_typeInfo _ | exact tame_underlying _ | exact tame_zeroValue _ | exact tame_sizeOf _ | exact tame_newRow _ _ | exact tame_newVar _ _ | exact tame_askRoom _ | exact tame_asInt _ | exact tame_runtimePanic _ | exact tame_firstCells _ _ _ | exact tame_lenOf _ | exact tame_mayShare _ _ _ _ _ | exact tame_choose _ | exact tame_mark _ | (refine tame_bind ?_ fun _ => ?_) | split | (dsimp only))
        · simp only [if_true, Bool.not_true, Bool.false_eq_true, if_false, true_or, and_true]
          repeat' (first | exact trivial | exact tame_typeInfo _ | exact tame_underlying _ | exact tame_zeroValue _ | exact tame_sizeOf _ | exact tame_newRow _ _ | exact tame_newVar _ _ | exact tame_askRoom _ | exact tame_asInt _ | exact tame_runtimePanic _ | exact tame_firstCells _ _ _ | exact tame_lenOf _ | exact tame_mayShare _ _ _ _ _ | exact tame_choose _ | exact tame_mark _ | (refine tame_bind ?_ fun _ => ?_) | split | (dsimp only))
    · trivial

theorem grow_ok {S : Sig} (hS : S.Ok) {o : Oper} (hg : growB S o = true) {a : Act} {w w' : World} {n : Next} (h : (execOp a.eval o).run S.P w = .ok n w') : (∃ u, n = .value u) ∧ Grown w w' := by
  have key : ∀ (m : Sem Value), tame m → (do pure (.value (← m)) : Sem Next).run S.P w = .ok n w' → (∃ u, n = .value u) ∧ Grown w w' := by
    intro m hm hr
    refine ⟨?_, tame_run _ (tame_bind hm fun v => tame_pure _) hr⟩
    simp only [Sem.run_bind] at hr
    cases hmr : m.run S.P w with
    | ok v w1 => rw [hmr] at hr; simp only [Result.andThen_ok, Sem.run_pure, Result.ok.injEq] at hr; exact ⟨v, hr.1.symm⟩
    | halt x w1 => rw [hmr] at hr; cases hr
  unfold growB at hg
  split at hg
  · rename_i x ho; exact key (pure (a.eval x)) trivial (by simpa [execOp, ho] using h)
  · rename_i x ho; exact key (pure (a.eval x)) trivial (by simpa [execOp, ho] using h)
  · rename_i c x y ho
    exact key (do pure (if (← asBool (a.eval c)) then a.eval x else a.eval y)) (tame_bind (by unfold asBool; split <;> trivial) fun _ => tame_pure _) (by simpa only [execOp, ho, bind_assoc, pure_bind] using h)
  · rename_i t ps ho; exact key _ (tame_build t _) (by simpa only [execOp, ho] using h)
  · rename_i t x ho; exact key _ (tame_loadAt t _) (by simpa only [execOp, ho] using h)
  · rename_i t x lo hi mx ho; exact key _ (tame_sliceAt t _ _ _ _) (by simpa only [execOp, ho] using h)
  · rename_i x i ho; exact key _ (tame_extract _ i) (by simpa only [execOp, ho] using h)
  · rename_i t ho; exact key _ (tame_alloc t) (by simpa only [execOp, ho] using h)
  · rename_i t x ho; exact key _ (tame_box t _) (by simpa only [execOp, ho] using h)
  · rename_i t n ps ho; exact key _ (tame_buildSlice t n _) (by simpa only [execOp, ho] using h)
  · rename_i src dst x ho
    split at hg
    · rename_i e _ _ _ _ _ _ hs hd
      have hus := (hS _ _ hs).ty
      have hud := (hS _ _ hd).ty
      cases hx : (convert src dst (a.eval x)).run S.P w with
      | halt q w1 => simp only [execOp, ho, Sem.run_bind, hx] at h; cases h
      | ok v w1 =>
        simp only [execOp, ho, Sem.run_bind, hx, Result.andThen_ok, Sem.run_pure, Result.ok.injEq] at h
        obtain ⟨h1, h2⟩ := h
        subst h1; subst h2
        refine ⟨⟨v, rfl⟩, ?_⟩
        unfold convert at hx
        simp only [Sem.run_bind, run_underlying hus, run_underlying hud, Result.andThen_ok] at hx
        have htame : ∀ (m : Sem Value), tame m → m.run S.P w = .ok v w1 → Grown w w1 := fun m hm hr => tame_run m hm hr
        split at hx
        all_goals (first | (rename_i h1 _ _; cases h1; done) | (rename_i h1 _; cases h1; done) | (exact htame _ (tame_unsupported _) hx) | (exact htame _ (tame_pure _) hx) | (exact htame (Conv.intToString _) trivial hx) | skip)
        all_goals (first | exact htame _ (tame_bind (tame_underlying _) fun d => by split <;> first | exact tame_bytesToString _ | exact tame_runesToString _ | trivial) hx | contradiction)
    · cases hg
  · rename_i c ho
    split at hg
    · rename_i hc
      split at hg
      · rename_i rest hargs
        have e1 : c.args.map a.eval = ⟨.slice none 0 0 :: rest.map a.eval⟩ := by
          apply Array.ext'
          simp only [Array.toList_map, hargs, List.map_cons]
          rfl
        have h2 : (do pure (.value (← Builtin.append_ c.argTypes o.type ⟨.slice none 0 0 :: rest.map a.eval⟩)) : Sem Next).run S.P w = .ok n w' := by
          rw [← h]
          simp only [execOp, ho, resolve, hc, invoke, Sem.run_bind, Sem.run_pure, Result.andThen_ok, builtin, e1]
        cases rest with
        | nil => exact key _ (by unfold Builtin.append_; simp only [List.map_nil, List.getElem?_toArray, List.getElem?_cons_zero, List.getElem?_cons_succ, List.getElem?_nil]; cases c.argTypes[0]? <;> exact trivial) h2
        | cons x r => exact key _ (tame_append_nil _ _ _ _) h2
      · cases hg
    · cases hg
  · cases hg

/-! ### What only reads may be taken ahead of what makes memory -/
section
variable {S : Sig} {ops : Array Oper} {C : World → Prop} {Q : Exit → Act → World → Prop} {H : List Nat}

/-- In every world of the class the operation yields v, and leaves that world. -/
def Stays (P : Program) (ops : Array Oper) (C : World → Prop) (o : Oper) (v : Value) (a : Act) : Prop :=
  (Region.wanted o (yielded ops a.tmps) = true ∧ ∀ w, C w → (execOp a.eval o).run P w = .ok (.value v) w) ∨ (Region.wanted o (yielded ops a.tmps) = false ∧ v = undef)

theorem Stays.of_same {P : Program} {o : Oper} {v : Value} {a a' : Act} (hy : Stays P ops C o v a) (he : execOp a'.eval o = execOp a.eval o) (hw : Region.wanted o (yielded ops a'.tmps) = Region.wanted o (yielded ops a.tmps)) : Stays P ops C o v a' := by
  unfold Stays at *
  rw [he, hw]
  exact hy

theorem Stays.wpOp {P : Program} {i : Nat} {o : Oper} {v : Value} {a : Act} {w : World} (hi : ops[i]? = some o) (hy : Stays P ops C o v a) (hC : C w) {K : Act → World → Prop} (h : K (a.put o.dst v) w) : wpOp P ops Q i K a w := by
  unfold Go.wpOp
  simp only [hi]
  rcases hy with ⟨hw, hv⟩ | ⟨hw, rfl⟩
  · simp only [hw, if_true, Oper.wp, hv w hC, Oper.upon]; exact .inl h
  · simp only [hw, Bool.false_eq_true, if_false]; exact h

theorem wpOp_grow (hS : S.Ok) {j : Nat} {oj : Oper} (hj : ops[j]? = some oj) (hg : growB S oj = true) (hC : ∀ w w', C w → Grown w w' → C w') {K : Act → World → Prop} {a : Act} {w : World} (hw : C w) (h : wpOp S.P ops Q j K a w) :
    wpOp S.P ops Q j (fun a' w' => C w' ∧ K a' w') a w := by
  unfold wpOp at *
  simp only [hj] at *
  split
  · rename_i hwant
    simp only [hwant, if_true] at h
    rcases h with h | h
    case inr => exact .inr h
    refine .inl ?_
    unfold Oper.wp at *
    cases hr : (execOp a.eval oj).run S.P w with
    | ok n w' =>
      obtain ⟨⟨u, rfl⟩, hgr⟩ := grow_ok hS hg hr
      rw [hr] at h
      exact ⟨hC w w' hw hgr, h⟩
    | halt x w' => rw [hr] at h; cases x <;> simp only [Oper.upon] at h ⊢ <;> exact h
  · rename_i hwant
    simp only [hwant] at h
    exact ⟨hw, h⟩

theorem wpOp_early (hS : S.Ok) {j : Nat} {oi oj : Oper} {v : Value} (hj : ops[j]? = some oj) (hap : oi.apart ops oj = true) (hsi : ∀ cs b, oi.op ≠ .select cs b) (hsj : ∀ cs b, oj.op ≠ .select cs b)
    (hQ : ∀ c a w a' w', Q (.panic c) a w → Q (.panic c) a' w') (hg : growB S oj = true) {K : Act → World → Prop} {a : Act} {w : World} (hy : Stays S.P ops C oi v a) (h : wpOp S.P ops Q j K (a.put oi.dst v) w) :
    wpOp S.P ops Q j (fun a' w' => Stays S.P ops C oi v a' ∧ K (a'.put oi.dst v) w') a w := by
  obtain ⟨h1, h2, h3⟩ := Oper.apart_spec hap
  have keep : ∀ (a : Act), Stays S.P ops C oi v a → ∀ u, Stays S.P ops C oi v (a.put oj.dst u) := fun a hy u =>
    hy.of_same (execOp_put oi hsi a oj.dst u h3) (wanted_put oi a oj.dst u h3)
  unfold wpOp at *
  simp only [hj] at *
  rw [wanted_put oj a oi.dst v h1] at h
  split
  · rename_i hw
    simp only [hw, if_true] at h
    rcases h with h | ⟨hasks, hlets⟩
    case inr => exact .inr ⟨by unfold Oper.asks at *; rw [execOp_put oj hsj a oi.dst v h1] at hasks; exact hasks, hlets⟩
    refine .inl ?_
    unfold Oper.wp at *
    rw [execOp_put oj hsj a oi.dst v h1] at h
    cases hr : (execOp a.eval oj).run S.P w with
    | ok n w' =>
      obtain ⟨⟨u, rfl⟩, hgr⟩ := grow_ok hS hg hr
      rw [hr] at h
      exact ⟨keep a hy u, by rw [← Act.put_comm a v u h2]; exact h⟩
    | halt x w' =>
      rw [hr] at h
      cases x <;> simp only [Oper.upon] at h ⊢
      case panic u => exact hQ _ _ _ _ _ h
  · rename_i hw
    simp only [hw] at h
    exact ⟨keep a hy _, by rw [← Act.put_comm a v undef h2]; exact h⟩

/-- Whatever comes up now is of H and only reads, or makes memory; or all of H has come up. -/
def wpAnyM (S : Sig) (ops : Array Oper) (C : World → Prop) (Q : Exit → Act → World → Prop) (H : List Nat) : Nat → Array Bool → Act → World → Prop
  | 0, listed, a, w => Region.ready .any ops listed = [] ∧ Q .normal a w
  | f + 1, listed, a, w => (Region.ready .any ops listed = [] → Q .normal a w) ∧ ∀ j ∈ Region.ready .any ops listed,
      (j ∈ H ∧ ∃ o v, ops[j]? = some o ∧ Stays S.P ops C o v a ∧ wpAnyM S ops C Q H f (listed.setIfInBounds j true) (a.put o.dst v) w) ∨
      ((∃ o, ops[j]? = some o ∧ growB S o = true) ∧ wpOp S.P ops Q j (fun a' w' => wpAnyM S ops C Q H f (listed.setIfInBounds j true) a' w') a w) ∨
      ((∀ h ∈ H, listed.getD h false = true) ∧ wpOp S.P ops Q j (wpAny S.P .any ops Q f (listed.setIfInBounds j true)) a w)

theorem wpAnyM.any (hS : S.Ok) (hC : ∀ w w', C w → Grown w w' → C w') : ∀ (f : Nat) (listed : Array Bool) (a : Act) (w : World), C w → wpAnyM S ops C Q H f listed a w → wpAny S.P .any ops Q f listed a w
  | 0, _, _, _, _, h => h
  | f + 1, listed, a, w, hw, h => by
    refine ⟨h.1, fun j hj => ?_⟩
    rcases h.2 j hj with ⟨_, o, v, ho, hy, h⟩ | ⟨⟨o, ho, hg⟩, h⟩ | ⟨_, h⟩
    · exact hy.wpOp ho hw (wpAnyM.any hS hC f _ _ _ hw h)
    · exact wpOp_mono (fun a' w' ⟨hw', h'⟩ => wpAnyM.any hS hC f _ a' w' hw' h') (wpOp_grow hS ho hg hC hw h)
    · exact h

theorem wpAnyM.of_any {f : Nat} {listed : Array Bool} {a : Act} {w : World} (hall : ∀ h ∈ H, listed.getD h false = true) (h : wpAny S.P .any ops Q f listed a w) : wpAnyM S ops C Q H f listed a w := by
  cases f with
  | zero => exact h
  | succ f => exact ⟨h.1, fun j hj => .inr (.inr ⟨hall, h.2 j hj⟩)⟩

theorem wpAnyM.first (hS : S.Ok) {i : Nat} {oi : Oper} {v : Value} (hi : ops[i]? = some oi) (hsel : ∀ (j : Nat) (o : Oper) cs b, ops[j]? = some o → o.op ≠ .select cs b)
    (hQ : ∀ c a w a' w', Q (.panic c) a w → Q (.panic c) a' w') (hiH : i ∈ H) (Inv : Array Bool → Prop) (hInv : ∀ listed j, Inv listed → j ∈ Region.ready .any ops listed → Inv (listed.setIfInBounds j true))
    (hanc : ∀ j oj, j ∉ H → ops[j]? = some oj → growB S oj = false → ∀ listed, Inv listed → j ∈ Region.ready .any ops listed → listed.getD i false = true) :
    ∀ (f : Nat) (listed : Array Bool) (a : Act) (w : World), Inv listed →
      (∀ j oj, ops[j]? = some oj → j ≠ i → listed.getD j true = false → (∀ e ∈ oj.after, Region.binds .any e = true → e.on ≠ i) → oi.apart ops oj = true) →
      i ∈ Region.ready .any ops listed → Stays S.P ops C oi v a → wpAnyM S ops C Q H f (listed.setIfInBounds i true) (a.put oi.dst v) w → wpAnyM S ops C Q H (f + 1) listed a w := by
  intro f
  induction f with
  | zero =>
    intro listed a w inv _ hr hy H0
    refine ⟨fun h => (by rw [h] at hr; cases hr), fun j hj => ?_⟩
    by_cases hji : j = i
    · subst hji; exact .inl ⟨hiH, oi, v, hi, hy, H0⟩
    · have := ready_mono hj hji
      rw [H0.1] at this
      cases this
  | succ f ih =>
    intro listed a w inv hfree hr hy H0
    have hun := (mem_ready.1 hr).1
    refine ⟨fun h => (by rw [h] at hr; cases hr), fun j hj => ?_⟩
    by_cases hji : j = i
    · subst hji; exact .inl ⟨hiH, oi, v, hi, hy, H0⟩
    · obtain ⟨hjun, oj, hoj, hall⟩ := mem_ready.1 hj
      have hunf : listed.getD i false = false := by
        by_cases hi' : i < listed.size
        · simpa [hi'] using hun
        · simp [hi']
      have hnot : ∀ e ∈ oj.after, Region.binds .any e = true → e.on ≠ i := fun e he hb heq => by
        have h1 := hall e he hb
        rw [heq, hunf] at h1
        cases h1
      have hap := hfree j oj hoj hji hjun hnot
      have hfree' : ∀ k ok, ops[k]? = some ok → k ≠ i → (listed.setIfInBounds j true).getD k true = false →
          (∀ e ∈ ok.after, Region.binds .any e = true → e.on ≠ i) → oi.apart ops ok = true := fun k ok hk hki hunk hno => by
        refine hfree k ok hk hki ?_ hno
        by_cases hjk : j = k
        · subst hjk; exact hjun
        · rw [getD_set_ne true hjk] at hunk; exact hunk
      have step : ∀ a' w', Stays S.P ops C oi v a' → wpAnyM S ops C Q H f ((listed.setIfInBounds i true).setIfInBounds j true) (a'.put oi.dst v) w' → wpAnyM S ops C Q H (f + 1) (listed.setIfInBounds j true) a' w' := by
        intro a' w' hy' h'
        refine ih (listed.setIfInBounds j true) a' w' (hInv _ _ inv hj) hfree' (ready_mono hr (Ne.symm hji)) hy' ?_
        rw [Array.setIfInBounds_comm _ _ hji]
        exact h'
      obtain ⟨p1, p2, p3⟩ := Oper.apart_spec hap
      rcases H0.2 j (ready_mono hj hji) with ⟨hjH, o, u, ho, hyj, h⟩ | ⟨⟨o, ho, hg⟩, h⟩ | ⟨hH, h⟩
      · have : o = oj := Option.some.inj (ho.symm.trans hoj)
        subst this
        refine .inl ⟨hjH, o, u, hoj, ?_, step _ w ?_ ?_⟩
        · exact hyj.of_same (execOp_put o (fun cs b => hsel j o cs b hoj) a oi.dst v p1).symm (wanted_put o a oi.dst v p1).symm
        · exact hy.of_same (execOp_put oi (fun cs b => hsel i oi cs b hi) a o.dst u p3) (wanted_put oi a o.dst u p3)
        · rw [← Act.put_comm a v u p2]; exact h
      · have : o = oj := Option.some.inj (ho.symm.trans hoj)
        subst this
        exact .inr (.inl ⟨⟨o, hoj, hg⟩, wpOp_mono (fun a' w' ⟨hy', h'⟩ => step a' w' hy' h') (wpOp_early hS hoj hap (fun cs b => hsel i oi cs b hi) (fun cs b => hsel j o cs b hoj) hQ hg hy h)⟩)
      · by_cases hjH : j ∈ H
        · have := hH j hjH
          rw [getD_set_ne false (Ne.symm hji)] at this
          by_cases hj' : j < listed.size
          · simp [hj'] at hjun this; rw [hjun] at this; cases this
          · simp [hj'] at this
        · cases hg : growB S oj with
          | false =>
            have := hanc j oj hjH hoj hg listed inv hj
            rw [hunf] at this; cases this
          | true =>
            exact .inr (.inl ⟨⟨oj, hoj, hg⟩, wpOp_mono (fun a' w' ⟨hy', h'⟩ => step a' w' hy' (wpAnyM.of_any (fun h hh => getD_set_true (hH h hh)) h')) (wpOp_early hS hoj hap (fun cs b => hsel i oi cs b hi) (fun cs b => hsel j oj cs b hoj) hQ hg hy h)⟩)

/-- The operations of a list, each in the frame that those ahead of it have left. -/
def sWalk (P : Program) (ops : Array Oper) (C : World → Prop) (R : Act → Prop) : List Nat → Act → Prop
  | [], a => R a
  | i :: r, a => ∃ o v, ops[i]? = some o ∧ Stays P ops C o v a ∧ sWalk P ops C R r (a.put o.dst v)

end
end Go.Proofs.Ytloknkdomgeolaa.She
