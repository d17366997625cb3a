/- Part of a small program logic: what the evaluator says of operations that leave the heap alone is so. -/
import Derived.Test.YtloknkdomgeolaaSheB
namespace Go.Proofs.Ytloknkdomgeolaa.She
set_option linter.all false
open Go

structure FrOk (f : Fr) (a : Act) : Prop where
  defers : a.defers = []
  size : f.length = a.tmps.size
  slot : ∀ i v, getF f i = some v → a.tmps[i]? = some v

theorem rd_ok {f : Fr} {a : Act} (hf : FrOk f a) {x : Operand} {k : Value → Prop} (h : rd f x k) : k (a.eval x) := by
  cases x with
  | tmp t =>
    simp only [rd] at h
    cases hg : getF f t with
    | none => rw [hg] at h; exact h.elim
    | some v =>
      rw [hg] at h
      have := hf.slot t v hg
      simpa [Act.eval, this] using h
  | const v => simp only [rd, force_eq] at h; exact h
  | global g => exact h
  | func g => exact h

theorem rdL_ok {f : Fr} {a : Act} (hf : FrOk f a) : ∀ {l : List Operand} {k : List Value → Prop}, rdL f l k → k (l.map a.eval)
  | [], _, h => h
  | x :: r, k, h => by
    have := rd_ok hf h
    have := rdL_ok hf (l := r) this
    exact this

theorem rdP_ok {f : Fr} {a : Act} (hf : FrOk f a) : ∀ {l : List (Nat × Operand)} {k : List (Nat × Value) → Prop}, rdP f l k → k (l.map fun x => (x.1, a.eval x.2))
  | [], _, h => h
  | (i, x) :: r, k, h => by
    have := rd_ok hf h
    have := rdP_ok hf (l := r) this
    exact this

theorem rdO_ok {f : Fr} {a : Act} (hf : FrOk f a) {x : Option Operand} {k : Option Value → Prop} (h : rdO f x k) : k (x.map a.eval) := by
  cases x with
  | none => exact h
  | some x => exact rd_ok hf h

theorem EvNum.ok {kd : IntKind} {x : Int} {k : Int → Prop} (h : EvNum kd x k) : k (kd.wrap x) := by
  cases h with
  | wrap h => exact h
  | fit n hn hw h => subst hn; rw [hw]; exact h

theorem EvVal.ok {α : Type} {x : α} {k : α → Prop} (h : EvVal x k) : k x := by
  cases h with
  | rfl h => exact h
  | eq y hy h => rw [hy]; exact h

theorem EvIte.ok {α : Type} {g : Bool} {x y : α} {k : α → Prop} (h : EvIte g x y k) : k (if g then x else y) := by
  cases h with
  | t hg h => simpa [hg] using h
  | f hg h => simpa [hg] using h

theorem und_ty {P : Program} {t : Nat} {d : TypeDesc} (h : P.underlying t = some d) (w : World) : (underlying t).run P w = .ok d w := run_underlying h w

theorem size_ok {S : Sig} (hS : S.Ok) {t : Nat} {i : TI} (h : S.T t = some i) (w : World) : (sizeOf t).run S.P w = .ok i.size w := by
  obtain ⟨j, z, h1, h2, _⟩ := (hS t i h).info
  simp [sizeOf, typeInfo, h1, h2]

theorem bytes_ok {S : Sig} (hS : S.Ok) {t : Nat} {i : TI} (h : S.T t = some i) : ∃ j, S.P.info? t = some j ∧ j.bytes = i.bytes := by
  obtain ⟨j, z, h1, h2, h3, _⟩ := (hS t i h).info
  exact ⟨j, h1, h3⟩

theorem zero_ok {S : Sig} (hS : S.Ok) {t : Nat} {i : TI} (h : S.T t = some i) (w : World) : ∃ z, (zeroValue t).run S.P w = .ok z w ∧ z.cells = ⟨i.zero⟩ ∧ (i.ty.agg = true → z = .agg ⟨i.zero⟩) := by
  obtain ⟨j, z, h1, h2, h3, h4, h5, h6, _⟩ := (hS t i h).info
  exact ⟨z, by simp [zeroValue, typeInfo, h1, h4], h5, h6⟩

theorem isAgg_ok {S : Sig} (hS : S.Ok) {t : Nat} {i : TI} (h : S.T t = some i) (w : World) : (isAgg t).run S.P w = .ok i.ty.agg w := by
  have ht := (hS t i h).ty
  cases hi : i.ty <;> rw [hi] at ht <;> simp only [tyIs] at ht
  case struct fs => obtain ⟨F, hF, _⟩ := ht; simp [isAgg, run_underlying hF, Ty.agg]
  case func => obtain ⟨p, r, v, hF⟩ := ht; simp [isAgg, run_underlying hF, Ty.agg]
  case iface => obtain ⟨m, hF⟩ := ht; simp [isAgg, run_underlying hF, Ty.agg]
  all_goals simp [isAgg, run_underlying ht, Ty.agg]

theorem Addr.add_mk (b o n : Nat) : Addr.add ⟨b, o, none⟩ n = ⟨b, o + n, none⟩ := Addr.add_lit b o n
theorem addO_eq (n off : Nat) : addO n off = off + n := by cases n <;> simp [addO, Nat.add_comm]


/-- In every world in which L holds the operation yields v, and leaves that world. -/
def Gives (P : Program) (a : Act) (o : Oper) (L : SH) (v : Value) : Prop := ∀ w, Holds w L → (execOp a.eval o).run P w = .ok (.value v) w

theorem Gives.of_run {P : Program} {a : Act} {o : Oper} {L : SH} {v : Value} {m : Sem Value} (he : execOp a.eval o = (do pure (.value (← m)))) (h : ∀ w, Holds w L → m.run P w = .ok v w) : Gives P a o L v := by
  intro w hw
  rw [he]
  simp [h w hw]

theorem beq_eq_decide (a b : List UInt8) : (a == b) = decide (a = b) := by
  rw [Bool.eq_iff_iff]; simp

theorem equal_bool {P : Program} {t : Nat} (hu : P.underlying t = some .bool) (a b : Bool) (w : World) : (Op.equal t (.bool a) (.bool b)).run P w = .ok (a == b) w := by
  rw [Op.equal, show Op.maxDepth = 9999 + 1 from rfl, Op.equalIn]
  simp [run_underlying hu]

theorem binK_ok {S : Sig} (hS : S.Ok) {op : BinOp} {t : Nat} {x y : Value} {k : Value → Prop} (h : binK S op t x y k) :
    ∃ v, k v ∧ ∀ (ox oy : Operand) (w : World), (do eqGuard op t ox oy x y; binOp op t x y : Sem Value).run S.P w = .ok v w := by
  unfold binK at h
  split at h
  · rename_i kx a ky b
    cases op <;> simp only at h
    case shl =>
      obtain ⟨c, ⟨hc0, hc⟩, h⟩ := h
      refine ⟨_, h.ok, fun ox oy w => ?_⟩
      simp [eqGuard_shl, binOp, Op.shift, show ¬ b < 0 by omega, hc]
    case shr =>
      obtain ⟨c, ⟨hc0, hc⟩, h⟩ := h
      refine ⟨_, h.ok, fun ox oy w => ?_⟩
      have hp : (0 : Int) ≤ 2 ^ min b.toNat kx.bits := Int.pow_nonneg (by decide)
      simp [eqGuard_shr, binOp, Op.shift, show ¬ b < 0 by omega, hc, Int.fdiv_eq_ediv_of_nonneg _ hp]
    case quo =>
      obtain ⟨rfl, hb, h⟩ := h
      refine ⟨_, h.ok, fun ox oy w => ?_⟩
      simp [eqGuard_quo, binOp, Op.intDiv, hb]
    case rem =>
      obtain ⟨rfl, hb, h⟩ := h
      refine ⟨_, h.ok, fun ox oy w => ?_⟩
      simp [eqGuard_rem, binOp, Op.intDiv, hb]
    case eql => obtain ⟨rfl, h⟩ := h; exact ⟨_, h, fun ox oy w => by simp [eqGuard_at_int, binOp, Op.intCmp]; rfl⟩
    case neq => obtain ⟨rfl, h⟩ := h; exact ⟨_, h, fun ox oy w => by simp [eqGuard_at_int, binOp, Op.intCmp, bne]; rfl⟩
    case lss => obtain ⟨rfl, h⟩ := h; exact ⟨_, h, fun ox oy w => by simp [eqGuard_lss, binOp, Op.intCmp]⟩
    case leq => obtain ⟨rfl, h⟩ := h; exact ⟨_, h, fun ox oy w => by simp [eqGuard_leq, binOp, Op.intCmp]⟩
    case gtr => obtain ⟨rfl, h⟩ := h; exact ⟨_, h, fun ox oy w => by simp [eqGuard_gtr, binOp, Op.intCmp]⟩
    case geq => obtain ⟨rfl, h⟩ := h; exact ⟨_, h, fun ox oy w => by simp [eqGuard_geq, binOp, Op.intCmp]⟩
    all_goals
      obtain ⟨rfl, h⟩ := h
      refine ⟨_, h.ok, fun ox oy w => ?_⟩
      simp [eqGuard_at_int, binOp, Op.intArith, Op.intBits, bitsI]
  · rename_i a b
    cases op <;> simp only at h <;> first | exact h.elim | skip
    case add =>
      obtain ⟨h1, h⟩ := h
      refine ⟨_, h, fun ox oy w => ?_⟩
      have hs : ¬ ((((⟨⟨a⟩⟩ : ByteArray).size + (⟨⟨b⟩⟩ : ByteArray).size : Nat) : Int) > IntKind.i64.max) := by
        simp [ByteArray.size]; omega
      simp only [eqGuard_add, binOp, Op.stringOp, Sem.run_bind, Sem.run_pure, Result.andThen_ok, if_neg hs]
      rfl
    all_goals
      refine ⟨_, h, fun ox oy w => ?_⟩
      simp [eqGuard_at_string, binOp, Op.stringOp, beq_eq_decide]
  · rename_i kx a ky b
    obtain ⟨rfl, h⟩ := h
    unfold fltCmp at h
    cases op <;> simp only at h <;> first | exact h.elim | (refine ⟨_, h, fun ox oy w => ?_⟩; simp [eqGuard_at_float, binOp, Op.floatCmp])
  · rename_i a b
    split at h
    · rename_i ht
      have hu := (hS _ _ ht).ty
      exact ⟨_, h, fun ox oy w => by rw [eqGuard_at_bool, show binOp .eql t (.bool a) (.bool b) = (do pure (.bool (← Op.equal t (.bool a) (.bool b)))) from rfl]; simp [equal_bool hu]⟩
    · rename_i ht
      have hu := (hS _ _ ht).ty
      exact ⟨_, h, fun ox oy w => by rw [eqGuard_at_bool, show binOp .neq t (.bool a) (.bool b) = (do pure (.bool (!(← Op.equal t (.bool a) (.bool b))))) from rfl]; simp [equal_bool hu]⟩
    · exact h.elim
  · obtain ⟨v, hv, h⟩ := h
    rw [force_eq] at h
    exact ⟨v, h, hv⟩
  · exact h.elim

theorem eqNilK_ok {S : Sig} (hS : S.Ok) {op : BinOp} {t : Nat} {x y : Value} {k : Value → Prop} (h : eqNilK S op t x y k) :
    ∃ v, k v ∧ ∀ (ox oy : Operand) (w : World), (do eqGuard op t ox oy x y; binOp op t x y : Sem Value).run S.P w = .ok v w := by
  have eq1 : ∀ w, ∀ g : Bool, (Op.equal t x y).run S.P w = .ok g w → (do pure (.bool (← Op.equal t x y)) : Sem Value).run S.P w = .ok (.bool g) w := fun w g hg => by simp [hg]
  have ne1 : ∀ w, ∀ g : Bool, (Op.equal t x y).run S.P w = .ok g w → (do pure (.bool (!(← Op.equal t x y))) : Sem Value).run S.P w = .ok (.bool (!g)) w := fun w g hg => by simp [hg]
  unfold eqNilK at h
  split at h
  · rename_i e _ a ht
    have hu := (hS _ _ ht).ty
    have he : ∀ w, (Op.equal t (.pointer a) (.pointer none)).run S.P w = .ok a.isNone w := fun w => by
      rw [Op.equal, show Op.maxDepth = 9999 + 1 from rfl, Op.equalIn]
      cases a <;> simp [run_underlying hu]
    cases op <;> simp only at h <;> first | exact h.elim | skip
    · exact ⟨_, h, fun ox oy w => by rw [eqGuard_at_pointer]; exact eq1 w _ (he w)⟩
    · exact ⟨_, h, fun ox oy w => by rw [eqGuard_at_pointer]; exact ne1 w _ (he w)⟩
  · rename_i b _ ht
    have hu := (hS _ _ ht).ty
    have he : ∀ w, (Op.equal t (.pointer none) (.pointer b)).run S.P w = .ok b.isNone w := fun w => by
      rw [Op.equal, show Op.maxDepth = 9999 + 1 from rfl, Op.equalIn]
      cases b <;> simp [run_underlying hu]
    cases op <;> simp only at h <;> first | exact h.elim | skip
    · exact ⟨_, h, fun ox oy w => by rw [eqGuard_at_pointer]; exact eq1 w _ (he w)⟩
    · exact ⟨_, h, fun ox oy w => by rw [eqGuard_at_pointer]; exact ne1 w _ (he w)⟩
  · rename_i e _ a n1 c1 n2 c2 ht
    have hu := (hS _ _ ht).ty
    have he : ∀ w, (Op.equal t (.slice a n1 c1) (.slice none n2 c2)).run S.P w = .ok a.isNone w := fun w => by
      rw [Op.equal, show Op.maxDepth = 9999 + 1 from rfl, Op.equalIn]
      cases a <;> simp [run_underlying hu]
    cases op <;> simp only at h <;> first | exact h.elim | skip
    · exact ⟨_, h, fun ox oy w => by rw [eqGuard_at_slice]; exact eq1 w _ (he w)⟩
    · exact ⟨_, h, fun ox oy w => by rw [eqGuard_at_slice]; exact ne1 w _ (he w)⟩
  · rename_i ht
    obtain ⟨p, r, v, hu⟩ := (hS _ _ ht).ty
    have he : ∀ w, (Op.equal t .nilFunc .nilFunc).run S.P w = .ok true w := fun w => by
      rw [Op.equal, show Op.maxDepth = 9999 + 1 from rfl, Op.equalIn]
      simp [run_underlying hu]
    cases op <;> simp only at h <;> first | exact h.elim | skip
    · exact ⟨_, h, fun ox oy w => by rw [eqGuard_at_nilFunc]; exact eq1 w _ (he w)⟩
    · exact ⟨_, h, fun ox oy w => by rw [eqGuard_at_nilFunc]; exact ne1 w _ (he w)⟩
  · rename_i f p q ht
    obtain ⟨p', r, v, hu⟩ := (hS _ _ ht).ty
    have he : ∀ w, (Op.equal t (.func f p q) .nilFunc).run S.P w = .ok false w := fun w => by
      rw [Op.equal, show Op.maxDepth = 9999 + 1 from rfl, Op.equalIn]
      simp [run_underlying hu]
    cases op <;> simp only at h <;> first | exact h.elim | skip
    · exact ⟨_, h, fun ox oy w => by rw [eqGuard_at_func]; exact eq1 w _ (he w)⟩
    · exact ⟨_, h, fun ox oy w => by rw [eqGuard_at_func]; exact ne1 w _ (he w)⟩
  · exact h.elim

/-! ### Cells laid over cells -/
theorem setCells_length : ∀ (vs xs : List Value) (off : Nat), (setCells xs off vs).length = xs.length
  | [], _, _ => rfl
  | v :: vs, xs, off => by simp [setCells, setCells_length vs]

theorem setCells_cons_succ (x : Value) : ∀ (vs r : List Value) (n : Nat), setCells (x :: r) (n + 1) vs = x :: setCells r n vs
  | [], _, _ => rfl
  | v :: vs, r, n => by simp only [setCells, List.set_cons_succ]; exact setCells_cons_succ x vs _ _

theorem overK_ok : ∀ {xs vs : List Value} {k : List Value → Prop}, overK xs vs k → vs.length ≤ xs.length ∧ k (setCells xs 0 vs)
  | xs, [], _, h => by
    cases xs <;> exact ⟨Nat.zero_le _, h⟩
  | [], _ :: _, _, h => h.elim
  | x :: r, v :: vs, k, h => by
    obtain ⟨h1, h2⟩ := overK_ok (xs := r) (vs := vs) h
    refine ⟨by simp; exact h1, ?_⟩
    simp only [setCells, List.set_cons_zero, Nat.zero_add]
    rw [setCells_cons_succ]; exact h2

theorem storeK_ok : ∀ {xs : List Value} {off : Nat} {vs : List Value} {k : List Value → Prop}, storeK xs off vs k → off + vs.length ≤ xs.length ∧ k (setCells xs off vs)
  | xs, 0, vs, k, h => by
    have h' : overK xs vs k := by cases xs <;> exact h
    have := overK_ok h'
    exact ⟨by simpa using this.1, this.2⟩
  | [], _ + 1, _, _, h => h.elim
  | x :: r, n + 1, vs, k, h => by
    obtain ⟨h1, h2⟩ := storeK_ok (xs := r) (off := n) h
    refine ⟨by simp; omega, ?_⟩
    rw [setCells_cons_succ]; exact h2

theorem fold_setCells : ∀ (vs : List Value) (cs : List Value) (off j : Nat),
    (vs.zipIdx j).foldl (fun (acc : Array Value) (x : Value × Nat) => acc.setIfInBounds (off + x.2) x.1) (⟨cs⟩ : Array Value) = ⟨setCells cs (off + j) vs⟩
  | [], cs, off, j => rfl
  | v :: vs, cs, off, j => by
    simp only [List.zipIdx_cons, List.foldl_cons, setCells]
    have : (⟨cs⟩ : Array Value).setIfInBounds (off + j) v = ⟨cs.set (off + j) v⟩ := by
      simp only [Array.setIfInBounds]
      split
      · rfl
      · rename_i h; rw [List.set_eq_of_length_le (by simpa using h)]
    rw [this, fold_setCells vs _ off (j + 1)]
    rfl

theorem fill_step {place : Nat → Option (Nat × Nat)} {i off size : Nat} {v : Value} {cs : List Value} {rest : List (Nat × Value)} (hp : place i = some (off, size)) (hs : v.cells.size = size)
    (hfit : off + v.cells.size ≤ cs.length) : Instr.fill place (⟨cs⟩ : Array Value) ((i, v) :: rest) = Instr.fill place ⟨setCells cs off v.cells.toList⟩ rest := by
  rw [Instr.fill]
  simp only [hp]
  rw [if_neg (by simp [hs]; rw [← hs]; simpa using hfit)]
  congr 1
  have := fold_setCells v.cells.toList cs off 0
  rw [Nat.add_zero] at this
  rw [← this, ← Array.foldl_toList]
  congr 1
  simp

theorem fillK_ok {place : Nat → Option (Nat × Nat)} : ∀ {ps : List (Nat × Value)} {cs : List Value} {k : List Value → Prop}, fillK place ps cs k →
    ∃ out, k out ∧ Instr.fill place (⟨cs⟩ : Array Value) ps = some ⟨out⟩
  | [], cs, k, h => ⟨cs, h, rfl⟩
  | (i, v) :: r, cs, k, h => by
    simp only [fillK] at h
    split at h
    · exact h.elim
    · rename_i off size hp
      split at h
      · rename_i vs
        obtain ⟨hl, h⟩ := h
        obtain ⟨hfit, h⟩ := storeK_ok h
        obtain ⟨out, h1, h2⟩ := fillK_ok h
        refine ⟨out, h1, ?_⟩
        rw [fill_step hp (by simpa [Value.cells] using hl) (by simpa [Value.cells] using hfit)]
        exact h2
      · rename_i hv
        cases hb : Nat.beq size 1 with
        | false => rw [hb] at h; exact h.elim
        | true =>
          rw [hb] at h
          have h1 := Nat.eq_of_beq_eq_true hb
          subst h1
          simp only [cond_true] at h
          obtain ⟨hfit, h⟩ := storeK_ok h
          obtain ⟨out, h1, h2⟩ := fillK_ok h
          have hc : v.cells = #[v] := by
            cases v with
            | agg c => obtain ⟨c⟩ := c; exact (hv c rfl).elim
            | _ => rfl
          refine ⟨out, h1, ?_⟩
          rw [fill_step hp (by rw [hc]; rfl) (by rw [hc]; simpa using hfit), hc]
          exact h2

theorem partK_ok {S : Sig} (hS : S.Ok) {t : Nat} {cs : List Value} {off : Nat} {k : Value → Prop} (h : partK S t cs off k) : ∃ v, k v ∧ ∀ w, (part t (⟨cs⟩ : Array Value) off).run S.P w = .ok v w := by
  unfold partK at h
  split at h
  · rename_i i hi
    cases ha : i.ty.agg with
    | true =>
      rw [ha] at h
      simp only [cond_true] at h
      obtain ⟨hl, h⟩ := takeK_eq _ _ _ h
      refine ⟨_, h, fun w => ?_⟩
      simp [part, isAgg_ok hS hi, size_ok hS hi, ha, dropL_eq]
    | false =>
      rw [ha] at h
      simp only [cond_false] at h
      split at h
      · rename_i v hv
        rw [nthL_eq] at hv
        refine ⟨_, h, fun w => ?_⟩
        simp [part, isAgg_ok hS hi, ha, hv]
      · exact h.elim
  · exact h.elim

theorem allT_mem {S : Sig} : ∀ (F : List Field), allT S (F.map fun x => (x.offset, x.type)) = true → ∀ f ∈ F, (S.T f.type).isSome = true
  | [], _, _, h => by cases h
  | g :: r, h, f, hf => by
    simp only [List.map_cons, allT, Bool.and_eq_true] at h
    cases hf with
    | head => exact h.1
    | tail _ hm => exact allT_mem r h.2 f hm

theorem mapM_sizes {S : Sig} (hS : S.Ok) (w : World) : ∀ (F : List Field), allT S (F.map fun x => (x.offset, x.type)) = true →
    (F.mapM fun f => (do pure (f.offset, ← sizeOf f.type) : Sem (Nat × Nat))).run S.P w = .ok (F.map fun f => (f.offset, (((S.T f.type).map TI.size).getD 0))) w
  | [], _ => by simp
  | f :: r, h => by
    simp only [List.map_cons, allT, Bool.and_eq_true] at h
    obtain ⟨i, hi⟩ := Option.isSome_iff_exists.1 h.1
    have ih := mapM_sizes hS w r h.2
    rw [List.mapM_cons]
    simp only [Sem.run_bind, Sem.run_pure, Result.andThen_ok, size_ok hS hi, ih]
    simp [hi]

theorem buildK_ok {S : Sig} (hS : S.Ok) {t : Nat} {ps : List (Nat × Value)} {k : Value → Prop} (h : buildK S t ps k) : ∃ v, k v ∧ ∀ w, (Instr.build t ps.toArray).run S.P w = .ok v w := by
  unfold buildK at h
  split at h
  · rename_i i hi
    split at h
    · rename_i fs hty
      have ht := (hS _ _ hi).ty
      rw [hty] at ht
      obtain ⟨F, hF, hfs⟩ := ht
      cases hall : allT S fs with
      | false => rw [hall] at h; exact h.elim
      | true =>
        rw [hall] at h
        simp only [cond_true] at h
        obtain ⟨out, h1, h2⟩ := fillK_ok h
        refine ⟨_, h1, fun w => ?_⟩
        obtain ⟨z, hz1, hz2, hz3⟩ := zero_ok hS hi w
        have hm := mapM_sizes hS w F.toList (by rw [hfs]; exact hall)
        have hma : (F.mapM fun f => (do pure (f.offset, ← sizeOf f.type) : Sem (Nat × Nat))).run S.P w = .ok (F.toList.map fun f => (f.offset, (((S.T f.type).map TI.size).getD 0))).toArray w := by
          rw [Array.mapM_eq_mapM_toList]
          simp only [Sem.run_map]
          rw [hm]
          simp
        have hplace : (fun j => (F.toList.map fun f => (f.offset, (((S.T f.type).map TI.size).getD 0)))[j]?) = structPlace S fs := by
          funext j
          unfold structPlace
          rw [nthL_eq, ← hfs]
          simp only [List.getElem?_map]
          cases hj : F.toList[j]? with
          | none => simp
          | some f =>
            simp only [Option.map_some]
            have : (S.T f.type).isSome = true := allT_mem F.toList (by rw [hfs]; exact hall) f (List.mem_of_getElem? hj)
            obtain ⟨q, hq⟩ := Option.isSome_iff_exists.1 this
            simp [hq]
        simp only [Instr.build, Sem.run_bind, hz1, Result.andThen_ok, run_underlying hF, hma]
        simp only [hz2, List.getElem?_toArray]
        rw [hplace, h2]
        rfl
    · rename_i n e hty
      split at h
      · rename_i j hj
        have ht := (hS _ _ hi).ty
        rw [hty] at ht
        obtain ⟨out, h1, h2⟩ := fillK_ok h
        refine ⟨_, h1, fun w => ?_⟩
        obtain ⟨z, hz1, hz2, hz3⟩ := zero_ok hS hi w
        simp only [Instr.build, Sem.run_bind, hz1, Result.andThen_ok, run_underlying ht, size_ok hS hj]
        simp only [hz2]
        rw [h2]
        rfl
      · exact h.elim
    · exact h.elim
  · exact h.elim

end Go.Proofs.Ytloknkdomgeolaa.She
