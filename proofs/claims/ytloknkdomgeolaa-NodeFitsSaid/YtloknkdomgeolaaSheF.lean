/- Part of a small program logic: append, copy, make, conversions; what each says of a run. -/
import Derived.Test.YtloknkdomgeolaaSheE
import Derived.Deep.AppendSrc
namespace Go.Proofs.Ytloknkdomgeolaa.She
set_option linter.all false
open Go

/-! ### What is appended or copied -/
def bytesV (l : List UInt8) : List Value := l.map fun b => .int .u8 b.toNat

@[simp] theorem bytesV_length (l : List UInt8) : (bytesV l).length = l.length := by simp [bytesV]
theorem allOne_bytesV : ∀ (l : List UInt8), allOne (bytesV l) = true
  | [] => rfl
  | b :: l => by simp only [bytesV, List.map_cons, allOne, oneB, Bool.true_and]; exact allOne_bytesV l

theorem allOne_append {xs ys : List Value} : allOne (xs ++ ys) = (allOne xs && allOne ys) := by
  induction xs with
  | nil => rfl
  | cons x r ih => simp only [List.cons_append, allOne, ih, Bool.and_assoc]
theorem allOne_of {xs : List Value} (h : ∀ v ∈ xs, oneB v = true) : allOne xs = true := by
  induction xs with
  | nil => rfl
  | cons x r ih => simp only [allOne, h x (.head _), ih (fun v hv => h v (.tail _ hv)), Bool.and_self]
theorem allOne_take {xs : List Value} (h : allOne xs = true) (n : Nat) : allOne (xs.take n) = true := allOne_of fun v hv => allOne_mem h v (List.mem_of_mem_take hv)
theorem allOne_drop {xs : List Value} (h : allOne xs = true) (n : Nat) : allOne (xs.drop n) = true := allOne_of fun v hv => allOne_mem h v (List.mem_of_mem_drop hv)

/-- Of m elements, whose cells are ys, x is the source. -/
structure SrcOk (S : Sig) (tx size : Nat) (x : Value) (L : SH) (m : Nat) (ys : List Value) : Prop where
  kind : (∃ e', S.P.underlying tx = some (.slice e')) ∨ S.P.underlying tx = some .string
  len : ∀ w' : World, (Builtin.lenOf x).run S.P w' = .ok m w'
  cells : ∀ w, Holds w L → ∀ q, q ≤ m → (Builtin.firstCells size q x).run S.P w = .ok (ys.take (q * size)).toArray w
  newsLen : ys.length = m * size
  one : allOne ys = true

theorem SrcOk.src {S : Sig} {tx size : Nat} {x : Value} {L : SH} {m : Nat} {ys : List Value} (h : SrcOk S tx size x L m ys) (w : World) (hw : Holds w L) : Src S.P size tx x m ys w := by
  have hfull : ys.take (m * size) = ys := by rw [← h.newsLen, List.take_length]
  refine ⟨h.kind, h.len, ?_, ?_, h.newsLen, fun u hu => oneB_cell (allOne_mem h.one u hu)⟩
  · have := h.cells w hw m (Nat.le_refl _); rwa [hfull] at this
  · have := h.cells w.drew (holds_congr hw fun _ _ => rfl) m (Nat.le_refl _); rwa [hfull] at this

theorem src_sub {S : Sig} (hS : S.Ok) {tx size e : Nat} {ti : TI} (ht : S.T tx = some ti) (hty : ti.ty = .slice e) (hsz : 0 < size) {L : SH} {ao : Option Addr} {zs : List Value} [hsl : HasSl L ao zs] (d m c : Nat) (full : Bool) (hfull : full = true → m = 0) (ys : List Value) (hy : (zs.drop d).take (m * size) = ys)
    (hl : d + m * size ≤ zs.length) (ho : allOne ys = true) : SrcOk S tx size (.slice (subA ao d full) m c) L m ys := by
  have hu := (hS _ _ ht).ty
  rw [hty] at hu
  have hlen : ys.length = m * size := by rw [← hy, List.length_take, List.length_drop]; omega
  refine ⟨.inl ⟨e, hu⟩, fun _ => rfl, fun w hw q hq => ?_, hlen, ho⟩
  by_cases hq0 : q * size = 0
  · have hq00 : q = 0 := by rcases Nat.mul_eq_zero.1 hq0 with h | h <;> omega
    subst hq00
    cases hs : subA ao d full with
    | none => simpa using run_firstCells_none (P := S.P) w size 0 m c
    | some a => simpa using run_firstCells_some (P := S.P) w size 0 a m c [] (by simp) (fun i v hv => by simp at hv)
  · have hm0 : m ≠ 0 := by
      intro h
      have hq00 : q = 0 := by omega
      rw [hq00] at hq0
      simp at hq0
    have hf : full = false := by cases full with | true => exact absurd (hfull rfl) hm0 | false => rfl
    have hpos : 0 < m * size := Nat.mul_pos (by omega) hsz
    have hne : zs ≠ [] := fun h => by rw [h] at hl; simp at hl; omega
    obtain ⟨a, rfl, hsp, hoff, hblk⟩ := hsl.addr w hw hne
    have hsub : subA (some a) d full = some (a.add d) := by simp [subA, hf]
    rw [hsub]
    have hqm : q * size ≤ m * size := Nat.mul_le_mul_right _ hq
    refine run_firstCells_some (P := S.P) w size q (a.add d) m c _ (by rw [List.length_take, hlen]; omega) (fun i v hv => ?_)
    rw [List.getElem?_take] at hv
    split at hv
    · rw [← hy, List.getElem?_take] at hv
      split at hv
      · rw [List.getElem?_drop] at hv
        have := hsl.cell w hw (d + i) v hv
        obtain ⟨b, o, s⟩ := a
        simp only at hsp
        subst hsp
        rw [Addr.add_mk, Addr.add_mk]
        have e1 : o + d + i = d + i + o := by omega
        rw [e1]; exact this
      · cases hv
    · cases hv

theorem src_sl {S : Sig} (hS : S.Ok) {tx size e : Nat} {ti : TI} (ht : S.T tx = some ti) (hty : ti.ty = .slice e) (hsz : 0 < size) {L : SH} {ao : Option Addr} {zs : List Value} [hsl : HasSl L ao zs] (m c : Nat) (ys : List Value) (hy : zs.take (m * size) = ys)
    (hl : m * size ≤ zs.length) (ho : allOne ys = true) : SrcOk S tx size (.slice ao m c) L m ys := by
  by_cases hm : m = 0
  · have := src_sub hS ht hty hsz (L := L) (ao := ao) (zs := zs) 0 m c true (fun _ => hm) ys (by simpa using hy) (by simpa using hl) ho
    simpa [subA] using this
  · have := src_sub hS ht hty hsz (L := L) (ao := ao) (zs := zs) 0 m c false (fun h => by cases h) ys (by simpa using hy) (by simpa using hl) ho
    cases ao with
    | none => simpa [subA] using this
    | some a => simpa [subA, Addr.add] using this

theorem src_nil {S : Sig} (hS : S.Ok) {tx size e : Nat} {ti : TI} (ht : S.T tx = some ti) (hty : ti.ty = .slice e) (L : SH) (c : Nat) : SrcOk S tx size (.slice none 0 c) L 0 [] := by
  have hu := (hS _ _ ht).ty
  rw [hty] at hu
  refine ⟨.inl ⟨e, hu⟩, fun _ => rfl, fun w hw q hq => ?_, by simp, rfl⟩
  have : q = 0 := by omega
  subst this
  simpa using run_firstCells_none (P := S.P) w size 0 0 c

theorem src_str {S : Sig} (hS : S.Ok) {tx : Nat} {ti : TI} (ht : S.T tx = some ti) (hty : ti.ty = .str) (L : SH) (l : List UInt8) : SrcOk S tx 1 (.string ⟨⟨l⟩⟩) L l.length (bytesV l) := by
  have hu := (hS _ _ ht).ty
  rw [hty] at hu
  refine ⟨.inr hu, fun _ => rfl, fun w hw q hq => ?_, by simp, allOne_bytesV l⟩
  simp only [Builtin.firstCells, extract_mk, List.drop_zero, Sem.run_pure, Nat.mul_one]
  congr 1
  apply Array.ext'
  simp [bytesV, List.map_take]

theorem row_cap {w : World} {ao : Option Addr} {cap e k : Nat} {xs : List Value} (h : (Item.row ao cap e k xs).holds w) {q : Nat} (hq : xs.length = q * k) (hk : 0 < k) : q ≤ cap := by
  rcases h with ⟨_, h2, h3⟩ | ⟨a, sp, fr, h0, h1, h2, h3, h4, h5⟩
  · rw [h2] at hq
    rcases Nat.mul_eq_zero.1 hq.symm with h | h <;> omega
  · rw [List.length_append, hq] at h5
    exact Nat.le_of_mul_le_mul_right (by omega : q * k ≤ cap * k) hk

/-- n zero elements. -/
def zerosV (z : List Value) : Nat → List Value
  | 0 => []
  | n + 1 => z ++ zerosV z n
theorem zerosV_length (z : List Value) : ∀ n, (zerosV z n).length = n * z.length
  | 0 => by simp [zerosV]
  | n + 1 => by simp [zerosV, zerosV_length z n, Nat.succ_mul, Nat.add_comm]
theorem zerosV_add (z : List Value) : ∀ a b, zerosV z (a + b) = zerosV z a ++ zerosV z b
  | 0, b => by simp [zerosV]
  | a + 1, b => by rw [Nat.add_right_comm]; simp [zerosV, zerosV_add z a b]

theorem allOne_zerosV {z : List Value} (h : allOne z = true) : ∀ n, allOne (zerosV z n) = true
  | 0 => rfl
  | n + 1 => by simp only [zerosV, allOne_append, h, allOne_zerosV h n, Bool.and_self]

/-- The first n elements of a row are cleared. -/
inductive EvClear (sz : Nat) (zero : List Value) (ao : Option Addr) (n : Nat) (L : SH) (k : SH → Prop) : Prop
  | own {xs : List Value} {upd : List Value → SH} (b off : Nat) [HasOwn L b xs upd] (ha : ao = some ⟨b, off, none⟩) (ho : allOne zero = true) (hl : off + n * sz ≤ xs.length) (zs : List Value) (hz : setCells xs off (zerosV zero n) = zs) (h : listK (upd zs) k)
  | zero (hn : ao = none ∨ n = 0) (h : k L)

inductive EvSrc (S : Sig) (tx size : Nat) (x : Value) (L : SH) (k : Nat → List Value → Prop) : Prop
  | mk (m : Nat) (ys : List Value) (h : SrcOk S tx size x L m ys) (hk : k m ys)

class TakeRow (L : SH) (ao : Option Addr) (cap : outParam Nat) (e : outParam TypeId) (k : outParam Nat) (xs : outParam (List Value)) (upd : outParam (Item → SH)) : Prop where
  ok : ∃ A B, L = A ++ .row ao cap e k xs :: B ∧ ∀ it, upd it = A ++ it :: B

instance TakeRow.here (ao : Option Addr) (cap : Nat) (e : TypeId) (k : Nat) (xs : List Value) (L : SH) : TakeRow (.row ao cap e k xs :: L) ao cap e k xs (fun it => it :: L) :=
  ⟨[], L, rfl, fun _ => rfl⟩
instance (priority := low) TakeRow.tail (x : Item) (L : SH) (ao : Option Addr) (cap : Nat) (e : TypeId) (k : Nat) (xs : List Value) (upd : Item → SH) [h : TakeRow L ao cap e k xs upd] : TakeRow (x :: L) ao cap e k xs (fun it => x :: upd it) := by
  obtain ⟨A, B, h1, h2⟩ := h.ok
  exact ⟨x :: A, B, by rw [h1]; rfl, fun it => by rw [h2]; rfl⟩

inductive EvApp (sz bs : Nat) (e : Nat) (ao : Option Addr) (n c : Nat) (L : SH) (m : Nat) (ys : List Value) (k : Value → SH → Prop) : Prop
  | own {cap e' kk : Nat} {xs : List Value} {upd : Item → SH} [TakeRow L ao cap e' kk xs upd] (hi : cap = c ∧ e' = e ∧ kk = sz ∧ 0 < kk) (hn : xs.length = n * sz) (ho : allOne ys = true)
      (hb : (n + m) * bs ≤ 140737488355328 ∧ n + m ≤ 9223372036854775807) (q : Nat) (hq : q = n + m) (h : ∀ ao' cap', q ≤ cap' → listK (upd (.row ao' cap' e sz (xs ++ ys))) fun L' => k (.slice ao' q cap') L')
  | nil (ha : ao = none ∧ n = 0 ∧ c = 0) (hz : 0 < sz) (hb : m * bs ≤ 140737488355328 ∧ m ≤ 9223372036854775807) (h : ∀ ao' cap', m ≤ cap' → k (.slice ao' m cap') (.row ao' cap' e sz ys :: L))
  | same (hm : m = 0 ∧ n ≤ c) (h : k (.slice ao n c) L)
  | copy {zs : List Value} [HasSl L ao zs] (hc : c < n + m) (hn : n * sz ≤ zs.length ∧ 0 < sz) (hb : (n + m) * bs ≤ 140737488355328 ∧ n + m ≤ 9223372036854775807) (q : Nat) (hq : q = n + m) (xs : List Value) (hx : zs.take (n * sz) = xs)
      (h : ∀ ao' cap', q ≤ cap' → k (.slice ao' q cap') (.row ao' cap' e sz (xs ++ ys) :: L))

inductive EvCopy (ad : Option Addr) (n size : Nat) (L : SH) (m : Nat) (ys : List Value) (k : Value → SH → Prop) : Prop
  | own {xs : List Value} {upd : List Value → SH} (b off : Nat) [HasOwn L b xs upd] (ha : ad = some ⟨b, off, none⟩) (q : Nat) (hq : q = min m n) (ho : allOne ys = true) (hl : off + q * size ≤ xs.length) (zs : List Value) (hz : setCells xs off (ys.take (q * size)) = zs)
      (h : listK (upd zs) fun L' => k (.int .i64 (q : Nat)) L')
  | zero (hq : min m n = 0) (h : k (.int .i64 0) L)

inductive EvMake (sz bs : Nat) (zero : List Value) (e : Nat) (l c : Int) (L : SH) (k : Value → SH → Prop) : Prop
  | mk (hl : 0 ≤ l ∧ l ≤ c) (hb : (bs : Int) * c ≤ 281474976710656) (hc : c ≤ 9223372036854775807) (hz : 0 < sz) (n m : Nat) (hn : n = l.toNat) (hm : m = c.toNat) (h : ∀ b, k (.slice (some ⟨b, 0, none⟩) n m) (.row (some ⟨b, 0, none⟩) m e sz (zerosV zero n) :: L))

def toCells : Value → List Value
  | .agg ⟨vs⟩ => vs
  | v => [v]

theorem toCells_eq (v : Value) : (⟨toCells v⟩ : Array Value) = v.cells := by
  cases v <;> first | rfl | (rename_i c; cases c; rfl)

/-- The cells of n zero elements (n a literal), for a fill. -/
def effK (S : Sig) (o : Oper) (f : Fr) (L : SH) (k : Value → SH → Prop) : Prop :=
  match o.op with
  | .alloc t => match S.T t with
    | some i => EvNew fun b => k (.pointer (some ⟨b, 0, none⟩)) (.blk b t i.zero :: L)
    | none => False
  | .box t x => rd f x fun v => EvNew fun b => match v with
    | .agg ⟨vs⟩ => k (.pointer (some ⟨b, 0, none⟩)) (.blk b t vs :: L)
    | v => k (.pointer (some ⟨b, 0, none⟩)) (.blk b t [v] :: L)
  | .buildSlice t n ps => rdP f ps.toList fun ps => match S.T t with
    | some { ty := .slice e, .. } => match S.T e with
      | some j => tjK j fun sz _ zero => EvNow (n * sz ≤ 16777216 ∧ 0 < sz) (listK (zerosV zero n) fun zs => fillK (fun i => some (i * sz, sz)) ps zs fun cs => EvNew fun b => k (.slice (some ⟨b, 0, none⟩) n n) (.row (some ⟨b, 0, none⟩) n e sz cs :: L))
      | none => False
    | _ => False
  | .store t a x => rd f a fun va => rd f x fun vx => match va with
    | .pointer (some ⟨b, off, none⟩) => match S.T t with
      | some i => tiK i fun sz => match vx with
        | .agg ⟨vs⟩ => EvStore L b off vs sz fun L' => k undef L'
        | v => EvStore L b off [v] sz fun L' => k undef L'
      | none => False
    | _ => False
  | .makeSlice t l c => rd f l fun vl => rd f c fun vc => match S.T t with
    | some { ty := .slice e, .. } => match S.T e with
      | some j => match vl, vc with
        | .int _ l, .int _ c => tjK j fun sz bs zero => EvMake sz bs zero e l c L k
        | _, _ => False
      | none => False
    | _ => False
  | .convert src dst x => rd f x fun v => match S.T src, S.T dst with
    | some { ty := .str, .. }, some { ty := .slice e, .. } => match S.T e with
      | some { ty := .int .u8, .. } => match v with
        | .string ⟨⟨l⟩⟩ => ∀ b cap, l.length ≤ cap → k (.slice (some ⟨b, 0, none⟩) l.length cap) (.row (some ⟨b, 0, none⟩) cap e 1 (bytesV l) :: L)
        | _ => False
      | _ => False
    | _, _ => convK S src dst v L fun v => k v L
  | .call c => match c.callee with
    | .value g => rd f g fun
      | .func (.func fn) ⟨p⟩ ⟨q⟩ => rdL f c.args.toList fun xs => appK p xs fun px => appK px q fun args => EvCall S fn args L k
      | _ => False
    | .builtin .append => match c.argTypes.toList with
      | [t, tx] => rdL f c.args.toList fun
        | [.slice ao n cp, x] => match S.T t with
          | some { ty := .slice e, .. } => match S.T e with
            | some j => tjK j fun sz bs _ => EvSrc S tx sz x L fun m ys => EvApp sz bs e ao n cp L m ys k
            | none => False
          | _ => False
        | _ => False
      | _ => False
    | .builtin .copy => match c.argTypes.toList with
      | [t, tx] => rdL f c.args.toList fun
        | [.slice ao n _, x] => match S.T t with
          | some { ty := .slice e, .. } => match S.T e with
            | some j => tiK j fun sz => EvSrc S tx sz x L fun m ys => EvCopy ao n sz L m ys k
            | none => False
          | _ => False
        | _ => False
      | _ => False
    | .builtin .clear => match c.argTypes.toList with
      | [t] => rdL f c.args.toList fun
        | [.slice ao n _] => match S.T t with
          | some { ty := .slice e, .. } => match S.T e with
            | some j => tjK j fun sz _ zero => EvClear sz zero ao n L fun L' => k (.tuple #[]) L'
            | none => False
          | _ => False
        | _ => False
      | _ => False
    | .builtin b => rdL f c.args.toList fun xs => builtinK S b c.argTypes.toList xs fun v => k v L
    | _ => False
  | _ => pureK S o f L fun v => k v L

/-- In every world in which L is good, the operation ends, in a world in which what k says is good. -/
def Does (S : Sig) (Γ : Ctx) (a : Act) (o : Oper) (L : SH) (k : Value → SH → Prop) : Prop :=
  ∀ w, Good Γ L w → ∀ (K : Act → World → Prop) (Q : Exit → Act → World → Prop), (∀ v L' w', k v L' → Good Γ L' w' → K (a.put o.dst v) w') → o.wp S.P a w K Q

theorem Does.value {S : Sig} {Γ : Ctx} {a : Act} {o : Oper} {L : SH} {k : Value → SH → Prop} (h : ∀ w, Good Γ L w → ∃ v L' w', (execOp a.eval o).run S.P w = .ok (.value v) w' ∧ k v L' ∧ Good Γ L' w') : Does S Γ a o L k := by
  intro w hg K Q hK
  obtain ⟨v, L', w', hr, hk, hg'⟩ := h w hg
  unfold Oper.wp
  rw [hr]
  exact hK v L' w' hk hg'

theorem Does.of_gives {S : Sig} {Γ : Ctx} {a : Act} {o : Oper} {L : SH} {k : Value → SH → Prop} (h : ∃ v, k v L ∧ Gives S.P a o L v) : Does S Γ a o L k := by
  obtain ⟨v, hk, hv⟩ := h
  exact Does.value fun w hg => ⟨v, L, w, hv w hg.holds, hk, hg⟩

theorem heap_push_new (w : World) (o : Obj) : ({ w with heap := w.heap.push o } : World).heap[w.heap.size]? = some o := by
  show (w.heap.push o)[w.heap.size]? = _
  simp

theorem Good.newBlk {Γ : Ctx} {L : SH} {w : World} (h : Good Γ L w) (e : TypeId) (vs : List Value) : Good Γ (.blk w.heap.size e vs :: L) { w with heap := w.heap.push (.cells ⟨vs⟩ e) } :=
  h.new _ _ _ rfl rfl rfl ⟨(0, 0), heap_push_new w _, Free.zero _⟩

theorem Good.newRow {Γ : Ctx} {L : SH} {w w' : World} (h : Good Γ L w) (e : TypeId) (k cap : Nat) (xs sp : List Value) (fr : Nat × Nat) (hw : w' = { w with heap := w.heap.push (.cells ⟨xs ++ sp⟩ e fr) }) (hf : Free fr (xs ++ sp).length) (hl : (xs ++ sp).length = cap * k) :
    Good Γ (.row (some ⟨w.heap.size, 0, none⟩) cap e k xs :: L) w' :=
  h.new _ _ _ hw rfl rfl (.inr ⟨⟨w.heap.size, 0, none⟩, sp, fr, rfl, rfl, rfl, by rw [hw]; exact heap_push_new w _, hf, hl⟩)

theorem Good.drew {Γ : Ctx} {L : SH} {w : World} (h : Good Γ L w) : Good Γ L w.drew := h.same rfl rfl rfl rfl

end Go.Proofs.Ytloknkdomgeolaa.She
