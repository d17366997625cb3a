/- Helpers of a small program logic: numbers as natural numbers, lists of bytes and of texts as cells, views. -/
import Derived.Test.YtloknkdomgeolaaSheI
namespace Go.Proofs.Ytloknkdomgeolaa.She
set_option linter.all false
open Go

/-! ### Types -/
theorem info_of_run {P : Program} {t : TypeId} {j : TypeInfo} (h : ∀ w, (typeInfo t).run P w = .ok j w) : P.info? t = some j := by
  have h1 := h default
  unfold typeInfo at h1
  simp only [Sem.run_bind, run_program, Result.andThen_ok] at h1
  cases hi : P.info? t with
  | none => rw [hi] at h1; cases h1
  | some i =>
    rw [hi] at h1
    simp only [Sem.run_pure, Result.ok.injEq, and_true] at h1
    rw [h1]

/-- A table of types, as a tree. -/
inductive TT where
  | no
  | one (t : Nat) (i : TI)
  | node (k : Nat) (l r : TT)
def TT.look : TT → Nat → Option TI
  | .no, _ => none
  | .one t i, n => bif Nat.beq n t then some i else none
  | .node k l r, n => bif Nat.ble n k then l.look n else r.look n
def TT.Ok (P : Program) : TT → Prop
  | .no => True
  | .one t i => TOk P t i
  | .node _ l r => l.Ok P ∧ r.Ok P
theorem TT.ok {P : Program} : ∀ (T : TT), T.Ok P → ∀ t i, T.look t = some i → TOk P t i
  | .no, _, _, _, h => by cases h
  | .one u j, hT, t, i, h => by
    simp only [TT.look] at h
    cases hb : Nat.beq t u with
    | true => rw [hb] at h; simp at h; subst h; have := Nat.eq_of_beq_eq_true hb; subst this; exact hT
    | false => rw [hb] at h; cases h
  | .node k l r, hT, t, i, h => by
    simp only [TT.look] at h
    cases hb : Nat.ble t k with
    | true => rw [hb] at h; exact TT.ok l hT.1 t i h
    | false => rw [hb] at h; exact TT.ok r hT.2 t i h

/-! ### Numbers -/
theorem fit_i64 {n : Int} (h : -9223372036854775808 ≤ n) (h2 : n < 9223372036854775808) : IntKind.wrap .i64 n = n := IntWalk.i64_in _ (by omega)
theorem fit_u8 {n : Int} (h : 0 ≤ n) (h2 : n < 256) : IntKind.wrap .u8 n = n := IntWalk.u8_in _ (by omega)
theorem fit_u32 {n : Int} (h : 0 ≤ n) (h2 : n < 4294967296) : IntKind.wrap .u32 n = n := IntWalk.u32_in _ (by omega)
theorem fit_u64 {n : Int} (h : 0 ≤ n) (h2 : n < 18446744073709551616) : IntKind.wrap .u64 n = n := IntWalk.u64_in _ (by omega)

/-- A number that is a natural one. -/
class IsN (x : Int) (n : outParam Nat) : Prop where
  eq : x = (n : Int)
instance IsN.cast (n : Nat) : IsN (n : Int) n := ⟨rfl⟩
instance (priority := low) IsN.lit (n : Nat) : IsN (no_index (@OfNat.ofNat Int n (@instOfNat n))) (@OfNat.ofNat Nat n (instOfNatNat n)) := ⟨rfl⟩
instance IsN.add (x y : Int) (a b : Nat) [ha : IsN x a] [hb : IsN y b] : IsN (x + y) (a + b) := ⟨by rw [ha.eq, hb.eq]; omega⟩
instance IsN.mul (x y : Int) (a b : Nat) [ha : IsN x a] [hb : IsN y b] : IsN (x * y) (a * b) := ⟨by rw [ha.eq, hb.eq]; simp⟩
instance IsN.div (x y : Int) (a b : Nat) [ha : IsN x a] [hb : IsN y b] : IsN (x / y) (a / b) := ⟨by rw [ha.eq, hb.eq]; simp⟩
instance IsN.tdiv (x y : Int) (a b : Nat) [ha : IsN x a] [hb : IsN y b] : IsN (x.tdiv y) (a / b) := ⟨by rw [ha.eq, hb.eq, Int.tdiv_eq_ediv_of_nonneg (by omega)]; simp⟩
instance IsN.tmod (x y : Int) (a b : Nat) [ha : IsN x a] [hb : IsN y b] : IsN (x.tmod y) (a % b) := ⟨by rw [ha.eq, hb.eq, Int.tmod_eq_emod_of_nonneg (by omega)]; simp⟩

/-- Byte i of a text, as a number. -/
def nb (l : List UInt8) (i : Nat) : Nat := (l.getD i 0).toNat
theorem nb_lt (l : List UInt8) (i : Nat) : nb l i < 256 := (l.getD i 0).toNat_lt
instance IsN.bt (l : List UInt8) (i : Nat) : IsN (bt l i) (nb l i) := ⟨rfl⟩

theorem EvNum.nat {kd : IntKind} {x : Int} {n : Nat} [h : IsN x n] {k : Int → Prop} (hw : kd.wrap (n : Int) = n) (hk : k (n : Int)) : EvNum kd x k := .fit (n : Int) h.eq.symm hw hk
theorem EvNum.to {kd : IntKind} {x : Int} {k : Int → Prop} (n : Int) (hw : kd.wrap x = n) (hk : k n) : EvNum kd x k := .wrap (hw.symm ▸ hk)
theorem EvVal.ofN {x : Int} {n : Nat} [h : IsN x n] {k : Nat → Prop} (hk : k n) : EvVal x.toNat k := .eq n (by rw [h.eq]; rfl) hk
theorem EvVal.nat {x : Int} {n : Nat} [h : IsN x n] {k : Int → Prop} (hk : k (n : Int)) : EvVal x k := .eq (n : Int) h.eq hk

theorem wrap_u8 (n : Nat) : IntKind.wrap .u8 (n : Int) = (((UInt8.ofNat n).toNat : Nat) : Int) := by
  rw [IntKind.wrap_u8]; simp

/-! ### Steps of a walk -/
theorem nowA {p k : Prop} (h : k) (hp : p := by first | rfl | exact fun _ => rfl | exact (fun h => nomatch h) | exact ⟨rfl, by decide⟩ | omega | decide) : EvNow p k := ⟨hp, h⟩
theorem numN {kd : IntKind} {x : Int} {n : Nat} [h : IsN x n] {k : Int → Prop} (hk : k (n : Int)) (hw : kd.wrap (n : Int) = n := by first | exact fit_i64 (by omega) (by omega) | exact fit_u8 (by omega) (by omega) | exact fit_u64 (by omega) (by omega) | exact fit_u32 (by omega) (by omega)) : EvNum kd x k := .nat hw hk
theorem numI {kd : IntKind} {x : Int} {k : Int → Prop} (hk : k x) (hw : kd.wrap x = x := by first | exact fit_i64 (by omega) (by omega) | exact fit_u8 (by omega) (by omega) | exact fit_u64 (by omega) (by omega) | exact fit_u32 (by omega) (by omega)) : EvNum kd x k := .fit x rfl hw hk
def hasN : List Value → Nat → Bool
  | _, 0 => true
  | [], _ + 1 => false
  | _ :: r, n + 1 => hasN r n
theorem loadNA {L : SH} {b off n : Nat} {k : List Value → Prop} {base : Nat} {xs : List Value} [HasCells L b base xs] {j : Nat} (h : takeK (dropL xs j) n k) (hj : off = j + base := by rfl) (hl : hasN (dropL xs j) n = true := by rfl) : EvLoadN L b off n k := .lit j hj h
theorem divA {b : Int} {k : Prop} (h : k) (hb : b ≠ 0 := by omega) : EvDiv b k := ⟨hb, h⟩
theorem brT {g : Bool} {p q : Prop} (hp : p) (h : g = true := by first | rfl | exact decide_eq_true rfl | exact decide_eq_true (by assumption)) : EvBr g p q := .t h hp
theorem brF {g : Bool} {p q : Prop} (hq : q) (h : g = false := by first | rfl | exact decide_eq_false (by assumption) | exact decide_eq_false (fun h => h rfl)) : EvBr g p q := .f h hq
theorem iteT {α : Type} {g : Bool} {x y : α} {k : α → Prop} (h : k x) (hg : g = true := by first | rfl | exact decide_eq_true rfl | exact decide_eq_true (by assumption)) : EvIte g x y k := .t hg h
theorem iteF {α : Type} {g : Bool} {x y : α} {k : α → Prop} (h : k y) (hg : g = false := by first | rfl | exact decide_eq_false (by assumption) | exact decide_eq_false (fun h => h rfl)) : EvIte g x y k := .f hg h
theorem brD {c : Prop} {d : Decidable c} {p q : Prop} (hp : c → p) (hq : ¬ c → q) : EvBr (@decide c d) p q := .dec c d rfl hp hq

/-! ### Cells -/
def strV (l : List (List UInt8)) : List Value := l.map fun s => .string ⟨⟨s⟩⟩
def natV (l : List Nat) : List Value := l.map fun (n : Nat) => .int .i64 (n : Int)
def intV (l : List Int) : List Value := l.map fun n => .int .i64 n

@[simp] theorem strV_length (l : List (List UInt8)) : (strV l).length = l.length := by simp [strV]
@[simp] theorem natV_length (l : List Nat) : (natV l).length = l.length := by simp [natV]
@[simp] theorem intV_length (l : List Int) : (intV l).length = l.length := by simp [intV]
theorem bytesV_get {l : List UInt8} {i : Nat} (h : i < l.length) : (bytesV l)[i]? = some (.int .u8 (nb l i : Int)) := by
  simp [bytesV, nb, List.getD, h]
theorem strV_get {l : List (List UInt8)} {i : Nat} (h : i < l.length) : (strV l)[i]? = some (.string ⟨⟨l.getD i []⟩⟩) := by
  simp [strV, List.getD, h]
theorem natV_get {l : List Nat} {i : Nat} (h : i < l.length) : (natV l)[i]? = some (.int .i64 (l.getD i 0 : Nat)) := by
  simp [natV, List.getD, h]
theorem intV_get {l : List Int} {i : Nat} (h : i < l.length) : (intV l)[i]? = some (.int .i64 (l.getD i 0)) := by
  simp [intV, List.getD, h]
theorem bytesV_set (l : List UInt8) (i : Nat) (b : UInt8) : (bytesV l).set i (.int .u8 (b.toNat : Int)) = bytesV (l.set i b) := by simp [bytesV, List.map_set]
theorem natV_set (l : List Nat) (i b : Nat) : (natV l).set i (.int .i64 (b : Int)) = natV (l.set i b) := by simp [natV, List.map_set]
theorem bytesV_append (a b : List UInt8) : bytesV (a ++ b) = bytesV a ++ bytesV b := by simp [bytesV]
theorem strV_append (a b : List (List UInt8)) : strV (a ++ b) = strV a ++ strV b := by simp [strV]
theorem natV_append (a b : List Nat) : natV (a ++ b) = natV a ++ natV b := by simp [natV]
theorem intV_append (a b : List Int) : intV (a ++ b) = intV a ++ intV b := by simp [intV]
theorem bytesV_take (a : List UInt8) (n : Nat) : (bytesV a).take n = bytesV (a.take n) := by simp [bytesV, List.map_take]
theorem bytesV_drop (a : List UInt8) (n : Nat) : (bytesV a).drop n = bytesV (a.drop n) := by simp [bytesV, List.map_drop]
theorem strV_take (a : List (List UInt8)) (n : Nat) : (strV a).take n = strV (a.take n) := by simp [strV, List.map_take]
theorem strV_drop (a : List (List UInt8)) (n : Nat) : (strV a).drop n = strV (a.drop n) := by simp [strV, List.map_drop]
theorem zerosV_u8 (n : Nat) : zerosV [.int .u8 0] n = bytesV (List.replicate n 0) := by
  induction n with
  | zero => rfl
  | succ n ih => simp only [zerosV, ih, List.replicate_succ, bytesV, List.map_cons]; rfl
theorem zerosV_i64 (n : Nat) : zerosV [.int .i64 0] n = natV (List.replicate n 0) := by
  induction n with
  | zero => rfl
  | succ n ih => simp only [zerosV, ih, List.replicate_succ, natV, List.map_cons]; rfl
theorem allOne_strV (l : List (List UInt8)) : allOne (strV l) = true := allOne_of fun v hv => by
  obtain ⟨s, _, rfl⟩ := List.mem_map.1 hv; rfl
theorem allOne_natV (l : List Nat) : allOne (natV l) = true := allOne_of fun v hv => by
  obtain ⟨s, _, rfl⟩ := List.mem_map.1 hv; rfl
theorem allOne_intV (l : List Int) : allOne (intV l) = true := allOne_of fun v hv => by
  obtain ⟨s, _, rfl⟩ := List.mem_map.1 hv; rfl

theorem bytesV_take_all {l : List UInt8} {n : Nat} (h : l.length = n) : (bytesV l).take n = l.map fun b => .int .u8 b.toNat := by
  subst h; rw [bytesV_take, List.take_length]; rfl

/-- Bytes laid over others. -/
def over (l : List UInt8) (off : Nat) (s : List UInt8) : List UInt8 := l.take off ++ s ++ l.drop (off + s.length)
theorem over_length {l : List UInt8} {off : Nat} {s : List UInt8} (h : off + s.length ≤ l.length) : (over l off s).length = l.length := by
  simp [over]; omega
theorem setCells_bytesV : ∀ (s l : List UInt8) (off : Nat), off + s.length ≤ l.length → setCells (bytesV l) off (bytesV s) = bytesV (over l off s)
  | [], l, off, _ => by simp [bytesV, setCells, over]
  | b :: s, l, off, h => by
    have e : setCells (bytesV l) off (bytesV (b :: s)) = setCells (bytesV (l.set off b)) (off + 1) (bytesV s) := by
      rw [← bytesV_set]; rfl
    simp only [List.length_cons] at h
    rw [e, setCells_bytesV s _ _ (by simp; omega)]
    congr 1
    unfold over
    have h0 : off < l.length := by omega
    rw [List.take_set, List.take_succ_eq_append_getElem h0, List.set_append_right _ _ (by simp; omega), List.length_take, Nat.min_eq_left (by omega), Nat.sub_self, List.set_cons_zero, List.drop_set]
    simp only [List.length_cons, List.append_assoc, List.cons_append, List.nil_append, List.set_nil]
    rw [if_pos (by omega), show off + (s.length + 1) = off + 1 + s.length by omega]

/-! ### Parts of blocks -/
instance HasSl.blk (b off : Nat) (e : TypeId) (xs : List Value) (L : SH) : HasSl (.blk b e xs :: L) (some ⟨b, off, none⟩) (xs.drop off) :=
  ⟨fun _ _ _ => ⟨_, rfl, rfl, rfl, rfl⟩, fun w hw j v hv => by
    rw [List.getElem?_drop] at hv
    have := (HasCells.blk b e xs L).cell w hw (off + j) v hv
    rw [Nat.add_zero] at this
    show w.cell? ⟨b, j + off, none⟩ = _
    rw [Nat.add_comm]; exact this⟩

theorem src_at {S : Sig} (hS : S.Ok) {tx size e : Nat} {ti : TI} (ht : S.T tx = some ti) (hty : ti.ty = .slice e) {L : SH} {b off base : Nat} {zs : List Value} [hc : HasCells L b base zs] (j m c : Nat) (hj : off = j + base) (ys : List Value) (hy : (zs.drop j).take (m * size) = ys)
    (hl : j + m * size ≤ zs.length) (ho : allOne ys = true) : SrcOk S tx size (.slice (some ⟨b, off, none⟩) m c) L m ys := by
  have hu := (hS _ _ ht).ty
  rw [hty] at hu
  have hlen : ys.length = m * size := by rw [← hy, List.length_take, List.length_drop]; omega
  refine ⟨.inl ⟨e, hu⟩, fun _ => rfl, fun w hw q hq => ?_, hlen, ho⟩
  have hqm : q * size ≤ m * size := Nat.mul_le_mul_right _ hq
  refine run_firstCells_some (P := S.P) w size q ⟨b, off, none⟩ m c _ (by rw [List.length_take, hlen]; omega) (fun i v hv => ?_)
  rw [List.getElem?_take] at hv
  split at hv
  · rw [← hy, List.getElem?_take] at hv
    split at hv
    · rw [List.getElem?_drop] at hv
      have := hc.cell w hw _ v hv
      rw [Addr.add_mk, hj, show j + base + i = j + i + base by omega]; exact this
    · cases hv
  · cases hv

/-! ### Views of what is there -/
class HasVw (L : SH) (ao : Option Addr) (e : outParam TypeId) (xs : outParam (List Value)) : Prop where
  see : ∀ w, Holds w L → (Item.view ao e xs).holds w ∧ ∀ b, b ∈ (Item.view ao e xs).shared → b ∈ owned L ∨ b ∈ shared L

instance HasVw.row (ao : Option Addr) (cap : Nat) (e : TypeId) (k : Nat) (xs : List Value) (L : SH) : HasVw (.row ao cap e k xs :: L) ao e xs := by
  refine ⟨fun w hw => ⟨?_, fun b hb => ?_⟩⟩
  · rcases hw _ (.head _) with ⟨_, h2, _⟩ | ⟨a, sp, fr, h0, h1, h2, h3, h4, h5⟩
    · exact .inl h2
    · exact .inr ⟨a, _, (e, fr), h0, h2, h3, by rw [h1]; simp⟩
  · simp only [Item.shared] at hb
    split at hb
    · cases hb
    · exact .inl (by simp [Item.owned, hb])
instance HasVw.view (ao : Option Addr) (e : TypeId) (xs : List Value) (L : SH) : HasVw (.view ao e xs :: L) ao e xs :=
  ⟨fun w hw => ⟨hw _ (.head _), fun b hb => .inr (by simp only [shared_cons, List.mem_append]; exact .inl hb)⟩⟩
instance (priority := low) HasVw.tail (it : Item) (L : SH) (ao : Option Addr) (e : TypeId) (xs : List Value) [h : HasVw L ao e xs] : HasVw (it :: L) ao e xs :=
  ⟨fun w hw => ⟨(h.see w fun x hx => hw x (.tail _ hx)).1, fun b hb => by
    rcases (h.see w fun x hx => hw x (.tail _ hx)).2 b hb with h | h
    · exact .inl (by simp [h])
    · exact .inr (by simp [h])⟩⟩

theorem sees_all {L : SH} {ao : Option Addr} {e : TypeId} {xs : List Value} [h : HasVw L ao e xs] : Sees L (.view ao e xs) := ⟨rfl, h.see⟩

/-- Part of what is there. -/
theorem sees_sub {L : SH} {ao : Option Addr} {e : TypeId} {xs : List Value} [h : HasVw L ao e xs] (d : Nat) (full : Bool) (ys : List Value) (hf : full = true → ys = []) (hy : (xs.drop d).take ys.length = ys) : Sees L (.view (subA ao d full) e ys) := by
  refine ⟨rfl, fun w hw => ?_⟩
  by_cases hys : ys = []
  · subst hys
    exact ⟨.inl rfl, fun b hb => by simp [Item.shared] at hb⟩
  have hff : full = false := by cases full with | true => exact absurd (hf rfl) hys | false => rfl
  subst hff
  obtain ⟨h1, h2⟩ := h.see w hw
  have hxs : xs ≠ [] := fun hx => by rw [hx] at hy; simp at hy; exact hys hy
  rcases h1 with h1 | ⟨a, c, fr, ha, hs, hb, hc⟩
  · exact absurd h1 hxs
  subst ha
  have hsub : subA (some a) d false = some (a.add d) := by simp [subA]
  rw [hsub]
  refine ⟨.inr ⟨a.add d, c, fr, rfl, ?_, ?_, ?_⟩, fun b hb => h2 b ?_⟩
  · obtain ⟨x, y, z⟩ := a; simp only at hs; subst hs; rw [Addr.add_mk]
  · obtain ⟨x, y, z⟩ := a; simp only at hs; subst hs; rw [Addr.add_mk]; exact hb
  · obtain ⟨x, y, z⟩ := a
    simp only at hs; subst hs
    rw [Addr.add_mk]
    show List.take ys.length (c.toList.drop (y + d)) = ys
    rw [← hc] at hy
    rw [List.drop_take, List.take_take, List.drop_drop] at hy
    have hl : ys.length ≤ xs.length - d := by
      have := congrArg List.length hy
      simp only [List.length_take] at this
      omega
    rw [Nat.min_eq_left hl] at hy
    exact hy
  · obtain ⟨x, y, z⟩ := a
    simp only at hs; subst hs
    simp only [Item.shared, if_neg hys, if_neg hxs, Addr.add_mk, blksOf] at hb ⊢
    exact hb

theorem sees_sub0 {L : SH} {ao : Option Addr} {e : TypeId} {xs : List Value} [h : HasVw L ao e xs] (ys : List Value) (hy : xs.take ys.length = ys) : Sees L (.view ao e ys) := by
  have := sees_sub (L := L) (ao := ao) (xs := xs) 0 false ys (fun h => by cases h) (by simpa using hy)
  cases ao with
  | none => simpa [subA] using this
  | some a => simpa [subA, Addr.add] using this

theorem sees_nil {L : SH} {ao : Option Addr} {e : TypeId} : Sees L (.view ao e []) := ⟨rfl, fun _ _ => ⟨.inl rfl, fun b hb => by simp [Item.shared] at hb⟩⟩

/-! ### Ends, calls, meeting points, with what is taken found -/
theorem Split.vw {L O Rest : SH} {ao : Option Addr} {e : TypeId} {xs : List Value} (h : Split L O Rest) (hs : Sees Rest (.view ao e xs)) : Split L (.view ao e xs :: O) Rest := .view h hs
theorem retA {L O' : SH} {v : Value} {post : Value → SH → Prop} (h : post v O') (ht : Takes L O' := by repeat (first | exact Takes.nil | refine Takes.cons .here ?_ | refine Takes.cons (.there .here) ?_ | refine Takes.cons (.there (.there .here)) ?_ | refine Takes.cons (.there (.there (.there .here))) ?_ | refine Takes.cons (.there (.there (.there (.there .here)))) ?_ | refine Takes.cons (.there (.there (.there (.there (.there .here))))) ?_ | refine Takes.cons (.there (.there (.there (.there (.there (.there .here)))))) ?_ | refine Takes.cons (.there (.there (.there (.there (.there (.there (.there .here))))))) ?_ | refine Takes.cons (.there (.there (.there (.there (.there (.there (.there (.there .here)))))))) ?_ | refine Takes.cons (.there (.there (.there (.there (.there (.there (.there (.there (.there .here))))))))) ?_ | refine Takes.cons (.there (.there (.there (.there (.there (.there (.there (.there (.there (.there .here)))))))))) ?_ | refine Takes.cons (.there (.there (.there (.there (.there (.there (.there (.there (.there (.there (.there .here))))))))))) ?_ | refine Takes.none ?_)) (hs : shared O' = [] := by rfl) : EvRet L v post := ⟨O', ht, hs, h⟩
theorem callA {S : Sig} {fn : Nat} {args : List Value} {L : SH} {k : Value → SH → Prop} {O Rest : SH} {post : Value → SH → Prop} (spec : Spec S.P fn args O post) (h : ∀ v O', post v O' → appK O' Rest fun L' => force v fun v' => k v' L')
    (sp : Split L O Rest := by repeat (first | exact Split.nil | exact sees_all | exact sees_nil | apply Split.vw | apply Split.own .here (by rfl) | apply Split.own (.there .here) (by rfl) | apply Split.own (.there (.there .here)) (by rfl) | apply Split.own (.there (.there (.there .here))) (by rfl) | apply Split.own (.there (.there (.there (.there .here)))) (by rfl) | apply Split.own (.there (.there (.there (.there (.there .here))))) (by rfl) | apply Split.own (.there (.there (.there (.there (.there (.there .here)))))) (by rfl) | apply Split.own (.there (.there (.there (.there (.there (.there (.there .here))))))) (by rfl) | apply Split.own (.there (.there (.there (.there (.there (.there (.there (.there .here)))))))) (by rfl) | apply Split.own (.there (.there (.there (.there (.there (.there (.there (.there (.there .here))))))))) (by rfl) | apply Split.own (.there (.there (.there (.there (.there (.there (.there (.there (.there (.there .here)))))))))) (by rfl) | apply Split.own (.there (.there (.there (.there (.there (.there (.there (.there (.there (.there (.there .here))))))))))) (by rfl) | apply Split.none)) : EvCall S fn args L k := .mk O Rest post spec sp h
theorem qcallA {S : Sig} {fn : Nat} {args : List Value} {L : SH} {k : Value → Prop} {O : SH} {v : Value} {post : Value → SH → Prop} (spec : Spec S.P fn args O post) (hp : ∀ u O', post u O' → u = v) (h : force v k)
    (sp : Split L O L := by repeat (first | exact Split.nil | exact sees_all | exact sees_nil | apply Split.vw | apply Split.own .here (by rfl) | apply Split.own (.there .here) (by rfl) | apply Split.own (.there (.there .here)) (by rfl) | apply Split.own (.there (.there (.there .here))) (by rfl) | apply Split.own (.there (.there (.there (.there .here)))) (by rfl) | apply Split.own (.there (.there (.there (.there (.there .here))))) (by rfl) | apply Split.own (.there (.there (.there (.there (.there (.there .here)))))) (by rfl) | apply Split.own (.there (.there (.there (.there (.there (.there (.there .here))))))) (by rfl) | apply Split.own (.there (.there (.there (.there (.there (.there (.there (.there .here)))))))) (by rfl) | apply Split.own (.there (.there (.there (.there (.there (.there (.there (.there (.there .here))))))))) (by rfl) | apply Split.own (.there (.there (.there (.there (.there (.there (.there (.there (.there (.there .here)))))))))) (by rfl) | apply Split.own (.there (.there (.there (.there (.there (.there (.there (.there (.there (.there (.there .here))))))))))) (by rfl) | apply Split.none)) : EvQCall S fn args L k := .mk O v (spec.mono fun u O' hu => hp u O' hu) sp h
theorem metA {ds : List Nat} {f : Fr} {α : Type} {inv : α → Prop} {fr : α → List (Nat × Value)} {sh : α → SH} {f' : Fr} {L' : SH} (x : α) (hi : inv x) (hm : MatchP f' (fr x) := by repeat (first | exact trivial | refine ⟨rfl, ?_⟩)) (hk : mask ds 0 f' = mask ds 0 f := by rfl)
    (ht : Takes L' (sh x) := by repeat (first | exact Takes.nil | refine Takes.cons .here ?_ | refine Takes.cons (.there .here) ?_ | refine Takes.cons (.there (.there .here)) ?_ | refine Takes.cons (.there (.there (.there .here))) ?_ | refine Takes.cons (.there (.there (.there (.there .here)))) ?_ | refine Takes.cons (.there (.there (.there (.there (.there .here))))) ?_ | refine Takes.cons (.there (.there (.there (.there (.there (.there .here)))))) ?_ | refine Takes.cons (.there (.there (.there (.there (.there (.there (.there .here))))))) ?_ | refine Takes.cons (.there (.there (.there (.there (.there (.there (.there (.there .here)))))))) ?_ | refine Takes.cons (.there (.there (.there (.there (.there (.there (.there (.there (.there .here))))))))) ?_ | refine Takes.cons (.there (.there (.there (.there (.there (.there (.there (.there (.there (.there .here)))))))))) ?_ | refine Takes.cons (.there (.there (.there (.there (.there (.there (.there (.there (.there (.there (.there .here))))))))))) ?_ | refine Takes.none ?_)) : Met ds f inv fr sh f' L' := ⟨x, hi, hm, hk, ht⟩

end Go.Proofs.Ytloknkdomgeolaa.She
