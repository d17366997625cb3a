/- Nodes: the order of texts, entries as cells, which nodes may be, records and how they are read; in plain lists. -/
import Derived.Test.YtloknkdomgeolaaSlM
import Derived.Lib.Bytealg
namespace Go.Proofs.Ytloknkdomgeolaa.She
set_option linter.all false
open Go

/-! ### The order of texts -/
theorem less_irrefl : ∀ a : List UInt8, Op.bytesLess a a = false
  | [] => rfl
  | x :: a => by simp [Op.bytesLess, less_irrefl a]
theorem less_trans : ∀ {a b c : List UInt8}, Op.bytesLess a b = true → Op.bytesLess b c = true → Op.bytesLess a c = true
  | _, [], _, h, _ => by simp [Op.bytesLess] at h
  | _, _ :: _, [], _, h => by simp [Op.bytesLess] at h
  | [], _ :: _, _ :: _, _, _ => rfl
  | x :: a, y :: b, z :: c, h, h' => by
    simp only [Op.bytesLess, Bool.or_eq_true, decide_eq_true_eq, Bool.and_eq_true, beq_iff_eq] at h h' ⊢
    rcases h with h | ⟨rfl, h⟩
    · rcases h' with h' | ⟨rfl, h'⟩
      · exact .inl (UInt8.lt_trans h h')
      · exact .inl h
    · rcases h' with h' | ⟨rfl, h'⟩
      · exact .inl h'
      · exact .inr ⟨rfl, less_trans h h'⟩
theorem less_tri : ∀ a b : List UInt8, Op.bytesLess a b = true ∨ a = b ∨ Op.bytesLess b a = true
  | [], [] => .inr (.inl rfl)
  | [], _ :: _ => .inl rfl
  | _ :: _, [] => .inr (.inr rfl)
  | x :: a, y :: b => by
    simp only [Op.bytesLess, Bool.or_eq_true, decide_eq_true_eq, Bool.and_eq_true, beq_iff_eq, List.cons.injEq]
    rcases Nat.lt_trichotomy x.toNat y.toNat with h | h | h
    · exact .inl (.inl h)
    · have hxy : x = y := UInt8.toNat_inj.1 h
      subst hxy
      rcases less_tri a b with h | h | h
      · exact .inl (.inr ⟨rfl, h⟩)
      · exact .inr (.inl ⟨rfl, h⟩)
      · exact .inr (.inr (.inr ⟨rfl, h⟩))
    · exact .inr (.inr (.inl h))
theorem less_asymm {a b : List UInt8} (h : Op.bytesLess a b = true) : Op.bytesLess b a = false := by
  cases h' : Op.bytesLess b a with
  | false => rfl
  | true => have := less_trans h h'; rw [less_irrefl] at this; cases this
theorem less_nil (a : List UInt8) : Op.bytesLess a [] = false := by cases a <;> rfl
theorem less_ne {a b : List UInt8} (h : Op.bytesLess a b = true) : a ≠ b := fun e => by rw [e, less_irrefl] at h; cases h
/-- Not greater, not less: the same. -/
theorem less_antisymm {a b : List UInt8} (h : Op.bytesLess a b = false) (h' : Op.bytesLess b a = false) : a = b := by
  rcases less_tri a b with h1 | h1 | h1
  · rw [h] at h1; cases h1
  · exact h1
  · rw [h'] at h1; cases h1
theorem leq_iff (a b : List UInt8) : (Op.bytesLess a b || decide (a = b)) = !(Op.bytesLess b a) := by
  rcases less_tri a b with h | rfl | h
  · rw [h, less_asymm h]; rfl
  · rw [less_irrefl]; simp
  · rw [h, less_asymm h, decide_eq_false (less_ne h).symm]; rfl
theorem less_of_less_of_nless {a b c : List UInt8} (h : Op.bytesLess a b = true) (h' : Op.bytesLess c b = false) : Op.bytesLess a c = true := by
  rcases less_tri b c with h1 | rfl | h1
  · exact less_trans h h1
  · exact h
  · rw [h'] at h1; cases h1
theorem less_of_nless_of_less {a b c : List UInt8} (h : Op.bytesLess b a = false) (h' : Op.bytesLess b c = true) : Op.bytesLess a c = true := by
  rcases less_tri a b with h1 | rfl | h1
  · exact less_trans h1 h'
  · exact h'
  · rw [h] at h1; cases h1
theorem nless_trans {a b c : List UInt8} (h : Op.bytesLess b a = false) (h' : Op.bytesLess c b = false) : Op.bytesLess c a = false := by
  cases h1 : Op.bytesLess c a with
  | false => rfl
  | true => have := less_of_less_of_nless h1 h; rw [h'] at this; cases this

theorem compare_less : ∀ (a b : List UInt8), Lib.compareBytes a b = if Op.bytesLess a b then -1 else if a = b then 0 else 1
  | [], [] => rfl
  | [], _ :: _ => rfl
  | _ :: _, [] => by simp [Lib.compareBytes, Op.bytesLess]
  | x :: a, y :: b => by
    have ih := compare_less a b
    simp only [Lib.compareBytes, Op.bytesLess, List.cons.injEq]
    by_cases h : x < y
    · simp [h]
    · by_cases h2 : y < x
      · have : x ≠ y := fun e => by rw [e] at h2; exact UInt8.lt_irrefl _ h2
        simp [h, h2, this]
      · have hxy : x = y := by
          have h1 := UInt8.not_lt.1 h
          have h3 := UInt8.not_lt.1 h2
          exact UInt8.le_antisymm h3 h1
        subst hxy
        simp [h, ih]

/-! ### Entries -/
structure En where
  key : List UInt8
  val : List UInt8
  far : Int

instance : DecidableEq En := fun a b => decidable_of_iff (a.key = b.key ∧ a.val = b.val ∧ a.far = b.far) (by cases a; cases b; simp)
def d0 : En := ⟨[], [], 0⟩

def enC (x : En) : List Value := [.string ⟨⟨x.key⟩⟩, .string ⟨⟨x.val⟩⟩, .int .i64 x.far]
def entV : List En → List Value
  | [] => []
  | x :: l => .string ⟨⟨x.key⟩⟩ :: .string ⟨⟨x.val⟩⟩ :: .int .i64 x.far :: entV l
theorem entV_length : ∀ l, (entV l).length = l.length * 3
  | [] => rfl
  | _ :: l => by simp only [entV, List.length_cons, entV_length l]; omega
theorem entV_append : ∀ a b, entV (a ++ b) = entV a ++ entV b
  | [], _ => rfl
  | x :: r, b => by simp [entV, entV_append r b]
theorem entV_drop : ∀ (l : List En) (n : Nat), (entV l).drop (n * 3) = entV (l.drop n)
  | l, 0 => by simp
  | [], n + 1 => by simp [entV]
  | _ :: l, n + 1 => by rw [Nat.succ_mul]; simp [entV, entV_drop l n]
theorem entV_take : ∀ (l : List En) (n : Nat), (entV l).take (n * 3) = entV (l.take n)
  | l, 0 => by simp [entV]
  | [], n + 1 => by simp [entV]
  | _ :: l, n + 1 => by rw [Nat.succ_mul]; simp [entV, entV_take l n]
theorem allOne_entV : ∀ l, allOne (entV l) = true
  | [] => rfl
  | _ :: l => by simp [entV, allOne, oneB, allOne_entV l]
theorem entV_get {l : List En} {i : Nat} (h : i < l.length) : ((entV l).drop (i * 3)).take 3 = enC (l.getD i d0) := by
  rw [entV_drop, List.drop_eq_getElem_cons h]
  simp [entV, enC, List.getD, h]
theorem entV_get0 {l : List En} {i : Nat} (h : i < l.length) : (entV l)[i * 3]? = some (.string ⟨⟨(l.getD i d0).key⟩⟩) := by
  have := entV_get h
  have h2 : (((entV l).drop (i * 3)).take 3)[0]? = some (.string ⟨⟨(l.getD i d0).key⟩⟩) := by rw [this]; rfl
  rw [List.getElem?_take_of_lt (by omega), List.getElem?_drop] at h2
  exact h2
theorem entV_get1 {l : List En} {i : Nat} (h : i < l.length) : (entV l)[i * 3 + 1]? = some (.string ⟨⟨(l.getD i d0).val⟩⟩) := by
  have := entV_get h
  have h2 : (((entV l).drop (i * 3)).take 3)[1]? = some (.string ⟨⟨(l.getD i d0).val⟩⟩) := by rw [this]; rfl
  rw [List.getElem?_take_of_lt (by omega), List.getElem?_drop] at h2
  exact h2
theorem entV_get2 {l : List En} {i : Nat} (h : i < l.length) : (entV l)[i * 3 + 2]? = some (.int .i64 (l.getD i d0).far) := by
  have := entV_get h
  have h2 : (((entV l).drop (i * 3)).take 3)[2]? = some (.int .i64 (l.getD i d0).far) := by rw [this]; rfl
  rw [List.getElem?_take_of_lt (by omega), List.getElem?_drop] at h2
  exact h2
theorem entV_sub (l : List En) (d m : Nat) : ((entV l).drop (d * 3)).take (m * 3) = entV ((l.drop d).take m) := by rw [entV_drop, entV_take]
theorem getD_mem {l : List En} {i : Nat} (h : i < l.length) : l.getD i d0 ∈ l := by
  rw [List.getD_eq_getElem?_getD, List.getElem?_eq_getElem h]; exact List.getElem_mem _
theorem getD_get {l : List En} {i : Nat} (h : i < l.length) : l.getD i d0 = l[i] := by simp [List.getD, h]

/-! ### Which nodes may be -/
def OkE (leaf : Bool) (x : En) : Prop := x.key.length ≤ 32 ∧ x.val.length ≤ 40 ∧ (if leaf then -1 else 0) ≤ x.far ∧ x.far < 512 ∧ (x.far < 0 ∨ x.val.length = 0)
instance (leaf : Bool) (x : En) : Decidable (OkE leaf x) := by unfold OkE; exact inferInstance
/-- The keys rise. -/
def Srt (l : List En) : Prop := l.Pairwise fun x y => Op.bytesLess x.key y.key = true
def okJ (leaf : Bool) (l : List En) (j : Nat) : Bool := decide (OkE leaf (l.getD j d0)) && (decide (j = 0) || Op.bytesLess (l.getD (j - 1) d0).key (l.getD j d0).key)
def okN (leaf : Bool) (l : List En) : Bool := (List.range l.length).all (okJ leaf l)
theorem okN_true {leaf : Bool} {l : List En} (h : ∀ j, j < l.length → okJ leaf l j = true) : okN leaf l = true := by
  simp only [okN, List.all_eq_true, List.mem_range]; exact h
theorem okN_false {leaf : Bool} {l : List En} {j : Nat} (hj : j < l.length) (h : okJ leaf l j = false) : okN leaf l = false := by
  cases h' : okN leaf l with
  | false => rfl
  | true =>
    simp only [okN, List.all_eq_true, List.mem_range] at h'
    rw [h' j hj] at h; cases h
theorem okN_iff {leaf : Bool} {l : List En} : okN leaf l = true ↔ (∀ x ∈ l, OkE leaf x) ∧ Srt l := by
  simp only [okN, List.all_eq_true, List.mem_range, okJ, Bool.and_eq_true, decide_eq_true_eq, Bool.or_eq_true]
  constructor
  · intro h
    refine ⟨fun x hx => ?_, ?_⟩
    · obtain ⟨i, hi, rfl⟩ := List.mem_iff_getElem.1 hx
      have := (h i hi).1
      rwa [getD_get hi] at this
    · have step : ∀ d i, (hi : i + (d + 1) < l.length) → Op.bytesLess l[i].key l[i + (d + 1)].key = true := by
        intro d
        induction d with
        | zero =>
          intro i hi
          have := (h (i + 1) hi).2
          rcases this with h1 | h1
          · omega
          · rwa [getD_get hi, show i + 1 - 1 = i by omega, getD_get (by omega)] at h1
        | succ d ih =>
          intro i hi
          have h1 := ih i (by omega)
          have := (h (i + (d + 1 + 1)) hi).2
          rcases this with h2 | h2
          · omega
          · rw [getD_get hi, show i + (d + 1 + 1) - 1 = i + (d + 1) by omega, getD_get (by omega)] at h2
            exact less_trans h1 h2
      refine List.pairwise_iff_getElem.2 fun i j hi hj hij => ?_
      have := step (j - i - 1) i (by omega)
      have e : i + (j - i - 1 + 1) = j := by omega
      simp only [e] at this
      exact this
  · rintro ⟨h1, h2⟩ j hj
    refine ⟨h1 _ (getD_mem hj), ?_⟩
    by_cases hj0 : j = 0
    · exact .inl hj0
    · right
      have := List.pairwise_iff_getElem.1 h2 (j - 1) j (by omega) hj (by omega)
      rwa [getD_get hj, getD_get (by omega)]
theorem okN_nil (leaf : Bool) : okN leaf [] = true := rfl
theorem Srt.nil : Srt [] := List.Pairwise.nil
theorem Srt.take {l : List En} (h : Srt l) (n : Nat) : Srt (l.take n) := List.Pairwise.sublist (List.take_sublist n l) h
theorem Srt.drop {l : List En} (h : Srt l) (n : Nat) : Srt (l.drop n) := List.Pairwise.sublist (List.drop_sublist n l) h
theorem Srt.get {l : List En} (h : Srt l) {i j : Nat} (hij : i < j) (hj : j < l.length) : Op.bytesLess (l.getD i d0).key (l.getD j d0).key = true := by
  rw [getD_get hj, getD_get (by omega)]; exact List.pairwise_iff_getElem.1 h i j (by omega) hj hij

/-! ### Records -/
def twoI (n : Int) : List UInt8 := twoB n.toNat
def recE (x : En) : List UInt8 := [UInt8.ofNat x.key.length] ++ x.key ++ twoB (x.far + 1).toNat ++ x.val
def kindB (leaf : Bool) : List UInt8 := if leaf then [1] else [2]
def recsN (leaf : Bool) (l : List En) : List (List UInt8) := kindB leaf :: l.map recE
def OkP (s : List UInt8) : Prop := s ≠ [] ∧ 3 + nb s 0 ≤ s.length
instance (s : List UInt8) : Decidable (OkP s) := by unfold OkP; exact inferInstance
def parE (s : List UInt8) : En := ⟨(s.take (1 + nb s 0)).drop 1, s.drop (1 + nb s 0 + 2), (tw s (1 + nb s 0) : Int) - 1⟩
def readB (rs : List (List UInt8)) : Bool :=
  decide (0 < rs.length) && (decide (rs.getD 0 [] = [1]) || decide (rs.getD 0 [] = [2])) && rs.tail.all (fun s => decide (OkP s)) && okN (decide (rs.getD 0 [] = [1])) (rs.tail.map parE)

theorem recE_length (x : En) : (recE x).length = x.key.length + x.val.length + 3 := by simp [recE, twoB]; omega
theorem recE_ok {leaf : Bool} {x : En} (h : OkE leaf x) : OkP (recE x) ∧ parE (recE x) = x := by
  obtain ⟨h1, h2, h3, h4, h5⟩ := h
  have hfar : 0 ≤ x.far + 1 ∧ x.far + 1 ≤ 512 := by split at h3 <;> omega
  have hn : nb (recE x) 0 = x.key.length := by
    have e : recE x = UInt8.ofNat x.key.length :: (x.key ++ twoB (x.far + 1).toNat ++ x.val) := by simp [recE]
    rw [e]
    simp only [nb, List.getD_cons_zero, UInt8.toNat_ofNat']
    omega
  have e : recE x = UInt8.ofNat x.key.length :: (x.key ++ twoB (x.far + 1).toNat ++ x.val) := by simp [recE]
  refine ⟨⟨by rw [e]; simp, by rw [hn, recE_length]; omega⟩, ?_⟩
  have htw : tw (recE x) (1 + x.key.length) = (x.far + 1).toNat := by
    have g1 : nb (recE x) (1 + x.key.length) = (UInt8.ofNat ((x.far + 1).toNat / 256)).toNat := by
      rw [e]; simp only [nb, List.getD, Nat.add_comm 1, List.getElem?_cons_succ]
      rw [List.append_assoc, List.getElem?_append_right (Nat.le_refl _)]
      simp [twoB]
    have g2 : nb (recE x) (1 + x.key.length + 1) = (UInt8.ofNat (x.far + 1).toNat).toNat := by
      rw [e]; simp only [nb, List.getD, show 1 + x.key.length + 1 = (x.key.length + 1) + 1 by omega, List.getElem?_cons_succ]
      rw [List.append_assoc, List.getElem?_append_right (by omega)]
      simp [twoB]
    unfold tw
    rw [g1, g2, UInt8.toNat_ofNat', UInt8.toNat_ofNat']
    omega
  have hk : ((recE x).take (1 + x.key.length)).drop 1 = x.key := by
    rw [e, Nat.add_comm, List.take_succ_cons, List.drop_succ_cons, List.drop_zero, List.append_assoc, List.take_left']
    rfl
  have hv : (recE x).drop (1 + x.key.length + 2) = x.val := by
    have : recE x = ([UInt8.ofNat x.key.length] ++ x.key ++ twoB (x.far + 1).toNat) ++ x.val := rfl
    rw [this, List.drop_left']
    simp [twoB]; omega
  unfold parE
  rw [hn, htw, hk, hv]
  have : (((x.far + 1).toNat : Nat) : Int) - 1 = x.far := by omega
  rw [this]

theorem readB_recsN {leaf : Bool} {l : List En} (h : okN leaf l = true) : readB (recsN leaf l) = true ∧ decide ((recsN leaf l).getD 0 [] = [1]) = leaf ∧ (recsN leaf l).tail.map parE = l := by
  have h' := (okN_iff.1 h).1
  have e1 : decide ((recsN leaf l).getD 0 [] = [1]) = leaf := by cases leaf <;> rfl
  have e2 : (recsN leaf l).tail.map parE = l := by
    show (l.map recE).map parE = l
    rw [List.map_map]
    conv => rhs; rw [← List.map_id l]
    exact List.map_congr_left fun x hx => (recE_ok (h' x hx)).2
  refine ⟨?_, e1, e2⟩
  unfold readB
  rw [e1, e2, h]
  have e3 : (recsN leaf l).tail.all (fun s => decide (OkP s)) = true := by
    show (l.map recE).all _ = true
    rw [List.all_eq_true]
    intro s hs
    obtain ⟨x, hx, rfl⟩ := List.mem_map.1 hs
    exact decide_eq_true (recE_ok (h' x hx)).1
  rw [e3]
  cases leaf <;> rfl

/-! ### Places -/
/-- How many keys are less, up to the first that is not. -/
def lowB (l : List En) (k : List UInt8) : Nat := (l.takeWhile fun x => Op.bytesLess x.key k).length
def hasB (l : List En) (k : List UInt8) : Bool := decide (lowB l k < l.length) && decide ((l.getD (lowB l k) d0).key = k)
def belB (l : List En) (k : List UInt8) : Nat := if hasB l k then lowB l k else lowB l k - 1
theorem lowB_le (l : List En) (k : List UInt8) : lowB l k ≤ l.length := by
  unfold lowB; exact (List.takeWhile_sublist _).length_le
theorem lowB_eq : ∀ {l : List En} {k : List UInt8} {i : Nat}, i ≤ l.length → (∀ p, p < i → Op.bytesLess (l.getD p d0).key k = true) → (i < l.length → Op.bytesLess (l.getD i d0).key k = false) → lowB l k = i
  | [], k, i, hi, _, _ => by simp [lowB] at *; omega
  | x :: l, k, 0, _, _, h2 => by
    have := h2 (by simp)
    simp only [List.getD_cons_zero] at this
    simp [lowB, this]
  | x :: l, k, i + 1, hi, h1, h2 => by
    have hx := h1 0 (by omega)
    simp only [List.getD_cons_zero] at hx
    have ih := lowB_eq (l := l) (k := k) (i := i) (by simpa using hi) (fun p hp => by have := h1 (p + 1) (by omega); simpa using this) (fun h => by have := h2 (by simpa using h); simpa using this)
    unfold lowB at ih ⊢
    rw [List.takeWhile_cons, hx]
    simp [ih]
theorem lowB_lt : ∀ {l : List En} {k : List UInt8} {p : Nat}, p < lowB l k → Op.bytesLess (l.getD p d0).key k = true
  | [], k, p, h => by simp [lowB] at h
  | x :: l, k, p, h => by
    unfold lowB at h
    rw [List.takeWhile_cons] at h
    cases hx : Op.bytesLess x.key k with
    | false => rw [hx] at h; simp at h
    | true =>
      rw [hx] at h
      cases p with
      | zero => simpa using hx
      | succ p => simp at h; simpa using lowB_lt (l := l) (k := k) (p := p) h
theorem lowB_not : ∀ {l : List En} {k : List UInt8}, lowB l k < l.length → Op.bytesLess (l.getD (lowB l k) d0).key k = false
  | [], k, h => by simp at h
  | x :: l, k, h => by
    unfold lowB at h ⊢
    rw [List.takeWhile_cons] at h ⊢
    cases hx : Op.bytesLess x.key k with
    | false => simpa using hx
    | true =>
      rw [hx] at h
      simp at h ⊢
      exact lowB_not (l := l) (k := k) h
theorem Srt.low {l : List En} (h : Srt l) {k : List UInt8} {p : Nat} (hp : lowB l k ≤ p) (hl : p < l.length) : Op.bytesLess (l.getD p d0).key k = false := by
  by_cases he : p = lowB l k
  · subst he; exact lowB_not hl
  · have h1 := h.get (i := lowB l k) (j := p) (by omega) hl
    have h2 := lowB_not (l := l) (k := k) (by omega)
    cases h3 : Op.bytesLess (l.getD p d0).key k with
    | false => rfl
    | true => have := less_trans h1 h3; rw [h2] at this; cases this

/-! ### Halves -/
def bytE (x : En) : Nat := x.key.length + x.val.length + 7
def bytL (l : List En) : Nat := sumL (l.map bytE)
end Go.Proofs.Ytloknkdomgeolaa.She
