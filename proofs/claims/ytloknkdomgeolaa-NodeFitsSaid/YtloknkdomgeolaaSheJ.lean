/- Part of a small program logic: orders of operations, guards, frames. -/
import Derived.Test.YtloknkdomgeolaaSheK
namespace Go.Proofs.Ytloknkdomgeolaa.She
set_option linter.all false
open Go

/-! ### Orders -/
section
variable {P : Program} {ops : Array Oper}

theorem getD_both {l : Array Bool} {i : Nat} (h : l.getD i true = false) : l.getD i false = false := by
  by_cases hi : i < l.size
  · simpa [hi] using h
  · simp [hi]

/-- j waits for i, at once or through others. -/
def ancB (ops : Array Oper) : Nat → Nat → Nat → Bool
  | 0, _, _ => false
  | n + 1, j, i => match ops[j]? with
    | some o => o.after.any fun e => Region.binds .any e && (e.on == i || ancB ops n e.on i)
    | none => false

def Closed (ops : Array Oper) (listed : Array Bool) : Prop :=
  listed.size = ops.size ∧ ∀ j oj, ops[j]? = some oj → listed.getD j false = true → ∀ e ∈ oj.after, Region.binds .any e = true → listed.getD e.on false = true

theorem Closed.set {i : Nat} {listed : Array Bool} (inv : Closed ops listed) (hi : i ∈ Region.ready .any ops listed) : Closed ops (listed.setIfInBounds i true) := by
  obtain ⟨_, oi, hoi, hall⟩ := mem_ready.1 hi
  refine ⟨by simp [inv.1], fun j oj hj hl e he hb => ?_⟩
  by_cases hij : i = j
  · subst hij
    have : oj = oi := Option.some.inj (hj.symm.trans hoi)
    subst this
    exact getD_set_true (hall e he hb)
  · rw [getD_set_ne false hij] at hl
    exact getD_set_true (inv.2 j oj hj hl e he hb)

theorem anc_listed {listed : Array Bool} (inv : Closed ops listed) {i : Nat} : ∀ (n j : Nat), ancB ops n j i = true → (∀ oj, ops[j]? = some oj → ∀ e ∈ oj.after, Region.binds .any e = true → listed.getD e.on false = true) → listed.getD i false = true
  | 0, _, h, _ => by simp [ancB] at h
  | n + 1, j, h, hr => by
    simp only [ancB] at h
    split at h
    · rename_i o ho
      obtain ⟨e, he, hb⟩ := Array.any_eq_true'.1 h
      simp only [Bool.and_eq_true, Bool.or_eq_true, beq_iff_eq] at hb
      have hl := hr o ho e he hb.1
      rcases hb.2 with h2 | h2
      · rw [← h2]; exact hl
      · exact anc_listed inv n e.on h2 (fun oj hoj e' he' hb' => inv.2 e.on oj hoj hl e' he' hb')
    · cases h

/-- Closed, and at least what was listed at first. -/
def ClosedX (ops : Array Oper) (l0 listed : Array Bool) : Prop := Closed ops listed ∧ ∀ k, l0.getD k false = true → listed.getD k false = true

theorem ClosedX.set {l0 : Array Bool} {i : Nat} {listed : Array Bool} (inv : ClosedX ops l0 listed) (hi : i ∈ Region.ready .any ops listed) : ClosedX ops l0 (listed.setIfInBounds i true) :=
  ⟨inv.1.set hi, fun k hk => getD_set_true (inv.2 k hk)⟩

/-- Whatever comes up now is of a group, and is quiet. -/
def wpAnyH (P : Program) (ops : Array Oper) (C : World → Prop) (H : List Nat) (L : Array Bool → Act → Prop) : Nat → Array Bool → Act → Prop
  | 0, listed, a => L listed a
  | f + 1, listed, a => Region.ready .any ops listed ≠ [] ∧ ∀ i ∈ Region.ready .any ops listed, i ∈ H ∧ qOp P ops C i (wpAnyH P ops C H L f (listed.setIfInBounds i true)) a

theorem wpAny_of_group {C : World → Prop} {H : List Nat} {g : Nat} {L : Array Bool → Act → Prop} {Q : Exit → Act → World → Prop} (hL : ∀ listed a w, L listed a → C w → wpAny P .any ops Q g listed a w) :
    ∀ (f : Nat) (listed : Array Bool) (a : Act) (w : World), C w → wpAnyH P ops C H L f listed a → wpAny P .any ops Q (f + g) listed a w
  | 0, listed, a, w, hC, h => by rw [Nat.zero_add]; exact hL _ _ _ h hC
  | f + 1, listed, a, w, hC, h => by
    rw [show f + 1 + g = (f + g) + 1 by omega]
    exact ⟨fun h0 => absurd h0 h.1, fun i hi => wpOp_of_qOp hC (fun a' w' hw' h' => wpAny_of_group hL f _ a' w' hw' h') (h.2 i hi).2⟩

theorem wpAnyH_first {l0 : Array Bool} {C : World → Prop} {H : List Nat} {i : Nat} {oi : Oper} {v : Value} {L : Array Bool → Act → Prop} (hi : ops[i]? = some oi) (hsel : ∀ (j : Nat) (o : Oper) cs b, ops[j]? = some o → o.op ≠ .select cs b)
    (hiH : i ∈ H) (hanc : ∀ j, j ∉ H → (∃ oj, ops[j]? = some oj) → ∀ listed, ClosedX ops l0 listed → listed.getD j true = false → j ∈ Region.ready .any ops listed → listed.getD i false = true) :
    ∀ (f : Nat) (listed : Array Bool) (a : Act), ClosedX ops l0 listed → (∀ listed a, L listed a → ∀ j, j ∈ H → j ∉ Region.ready .any ops listed) →
      (∀ j oj, ops[j]? = some oj → j ≠ i → listed.getD j true = false → (∀ e ∈ oj.after, Region.binds .any e = true → e.on ≠ i) → oi.apart ops oj = true) →
      i ∈ Region.ready .any ops listed → YieldsIn P ops C oi v a →
      wpAnyH P ops C H L f (listed.setIfInBounds i true) (a.put oi.dst v) → wpAnyH P ops C H L (f + 1) listed a := by
  have inH : ∀ (listed : Array Bool) (j : Nat), ClosedX ops l0 listed → listed.getD i true = false → j ∈ Region.ready .any ops listed → j ∈ H := by
    intro listed j inv hun hj
    by_cases hjH : j ∈ H
    · exact hjH
    · obtain ⟨hjun, oj, hoj, _⟩ := mem_ready.1 hj
      have := hanc j hjH ⟨oj, hoj⟩ listed inv hjun hj
      rw [getD_both hun] at this
      cases this
  intro f
  induction f with
  | zero =>
    intro listed a inv hL _ hr hy H0
    have hun := (mem_ready.1 hr).1
    refine ⟨fun h => (by rw [h] at hr; cases hr), fun j hj => ⟨inH listed j inv hun hj, ?_⟩⟩
    by_cases hji : j = i
    · subst hji; exact hy.qOp hi H0
    · exact absurd (ready_mono hj hji) (hL _ _ H0 j (inH listed j inv hun hj))
  | succ f ih =>
    intro listed a inv hL hfree hr hy H0
    have hun := (mem_ready.1 hr).1
    refine ⟨fun h => (by rw [h] at hr; cases hr), fun j hj => ⟨inH listed j inv hun hj, ?_⟩⟩
    by_cases hji : j = i
    · subst hji; exact hy.qOp hi H0
    · have h1 := (H0.2 j (ready_mono hj hji)).2
      obtain ⟨hjun, oj, hoj, hall⟩ := mem_ready.1 hj
      have hnot : ∀ e ∈ oj.after, Region.binds .any e = true → e.on ≠ i := fun e he hb heq => by
        have h1 := hall e he hb
        rw [heq, getD_both hun] at h1
        cases h1
      have h2 := qOp_put hoj (hfree j oj hoj hji hjun hnot) (fun cs b => hsel i oi cs b hi) (fun cs b => hsel j oj cs b hoj) hy h1
      have hfree' : ∀ k ok, ops[k]? = some ok → k ≠ i → (listed.setIfInBounds j true).getD k true = false →
          (∀ e ∈ ok.after, Region.binds .any e = true → e.on ≠ i) → oi.apart ops ok = true := fun k ok hk hki hunk hno => by
        refine hfree k ok hk hki ?_ hno
        by_cases hjk : j = k
        · subst hjk; exact hjun
        · rw [getD_set_ne true hjk] at hunk; exact hunk
      refine qOp_mono (fun a' h3 => ih (listed.setIfInBounds j true) a' (inv.set hj) hL hfree' (ready_mono hr (Ne.symm hji)) h3.1 ?_) h2
      rw [Array.setIfInBounds_comm _ _ hji]
      exact h3.2

/-- The group H in the order of its list: each may come up, and is apart from what does not wait for it. -/
def groupB (ops : Array Oper) : List Nat → Array Bool → Bool
  | [], _ => true
  | i :: r, listed => (Region.ready .any ops listed).contains i && Region.free .any ops listed i && groupB ops r (listed.setIfInBounds i true)

def setAll : List Nat → Array Bool → Array Bool
  | [], l => l
  | i :: r, l => setAll r (l.setIfInBounds i true)

def qWalk (P : Program) (ops : Array Oper) (C : World → Prop) (Q : Act → Prop) : List Nat → Act → Prop
  | [], a => Q a
  | i :: r, a => qOp P ops C i (qWalk P ops C Q r) a

theorem wpAnyH_walk {l0 : Array Bool} {C : World → Prop} {H : List Nat} {Q : Act → Prop} (hs : Region.noSelect ops = true) (hanc : ∀ i ∈ H, ∀ j, j ∉ H → (∃ oj, ops[j]? = some oj) → ∀ listed, ClosedX ops l0 listed → listed.getD j true = false → j ∈ Region.ready .any ops listed → listed.getD i false = true) :
    ∀ (l : List Nat) (listed : Array Bool) (a : Act), (∀ i ∈ l, i ∈ H) → ClosedX ops l0 listed → (∀ j ∈ H, j ∉ Region.ready .any ops (setAll l listed)) → groupB ops l listed = true → qWalk P ops C Q l a →
      wpAnyH P ops C H (fun listed' a' => listed' = setAll l listed ∧ Q a') l.length listed a
  | [], listed, a, _, _, _, _, h => ⟨rfl, h⟩
  | i :: r, listed, a, hl, inv, hend, hB, h => by
    simp only [groupB, Bool.and_eq_true] at hB
    obtain ⟨⟨hr, hf⟩, hB'⟩ := hB
    have hr' : i ∈ Region.ready .any ops listed := by simpa using hr
    obtain ⟨_, oi, hoi, _⟩ := mem_ready.1 hr'
    obtain ⟨v, hy, hK⟩ := yieldsIn_of_qOp hoi h
    refine wpAnyH_first hoi (Region.noSelect_spec hs) (hl i (.head _)) (hanc i (hl i (.head _))) r.length listed a inv ?_ (Region.free_spec hoi hf) hr' hy
      (wpAnyH_walk hs hanc r _ _ (fun j hj => hl j (.tail _ hj)) (inv.set hr') hend hB' hK)
    rintro listed' a' ⟨rfl, _⟩ j hj
    exact hend j hj

end

inductive EvBr (g : Bool) (p q : Prop) : Prop
  | t (h : g = true) (hp : p)
  | f (h : g = false) (hq : q)
  | both (hp : g = true → p) (hq : g = false → q)
  | dec (c : Prop) (d : Decidable c) (h : g = decide c) (hp : c → p) (hq : ¬ c → q)
  | ndec (c : Prop) (d : Decidable c) (h : g = !decide c) (hp : ¬ c → p) (hq : c → q)

theorem EvBr.ok {g : Bool} {p q : Prop} (h : EvBr g p q) : (g = true → p) ∧ (g = false → q) := by
  cases h with
  | t h hp => exact ⟨fun _ => hp, fun h' => by rw [h] at h'; cases h'⟩
  | f h hq => exact ⟨fun h' => (by rw [h] at h'; cases h'), fun _ => hq⟩
  | both hp hq => exact ⟨hp, hq⟩
  | dec c d h hp hq => subst h; exact ⟨fun h => hp (of_decide_eq_true h), fun h => hq (of_decide_eq_false h)⟩
  | ndec c d h hp hq =>
    subst h
    refine ⟨fun h => hp fun hc => ?_, fun h => hq ?_⟩
    · simp [hc] at h
    · simpa using h

/-- An operation behind its guard. -/
def guardK (ops : Array Oper) (o : Oper) (f : Fr) (yes no : Prop) : Prop :=
  match o.guard with
  | none => yes
  | some (j, want) => match nthL ops.toList j with
    | some og => match og.dst with
      | some d => rd f (.tmp d) fun
        | .bool g => match want with
          | true => EvBr g yes no
          | false => EvBr g no yes
        | _ => no
      | none => False
    | none => False

/-! ### Frames and puts -/
theorem setF_length : ∀ (f : Fr) (n : Nat) (v : Option Value), (setF f n v).length = f.length
  | [], _, _ => rfl
  | _ :: _, 0, _ => rfl
  | x :: r, n + 1, v => by simp [setF, setF_length r n v]

theorem getF_setF : ∀ (f : Fr) (n i : Nat) (v : Option Value), getF (setF f n v) i = if i = n ∧ n < f.length then v else getF f i
  | [], n, i, v => by simp [setF, getF]
  | x :: r, 0, 0, v => by simp [setF, getF]
  | x :: r, 0, i + 1, v => by simp [setF, getF]
  | x :: r, n + 1, 0, v => by simp [setF, getF]
  | x :: r, n + 1, i + 1, v => by simp [setF, getF, getF_setF r n i v]

theorem FrOk.put {f : Fr} {a : Act} (hf : FrOk f a) (dst : Option Tmp) (v : Value) : FrOk (putF f dst (some v)) (a.put dst v) := by
  cases dst with
  | none => exact hf
  | some d =>
    refine ⟨hf.defers, by simp [putF, Act.put, setF_length, hf.size], fun i u h => ?_⟩
    simp only [putF, getF_setF] at h
    simp only [Act.put]
    split at h
    · rename_i hc
      obtain ⟨rfl, hlt⟩ := hc
      cases h
      rw [Array.getElem?_setIfInBounds_self]
      rw [if_pos (by rw [← hf.size]; exact hlt)]
    · rename_i hc
      have := hf.slot i u h
      by_cases hid : i = d
      · subst hid
        have hlt : i < a.tmps.size := (Array.getElem?_eq_some_iff.1 this).1
        exact absurd ⟨rfl, by rw [hf.size]; exact hlt⟩ hc
      · rw [Array.getElem?_setIfInBounds_ne (fun e => hid e.symm)]; exact this

theorem FrOk.skip {f : Fr} {a : Act} (hf : FrOk f a) (dst : Option Tmp) : FrOk (putF f dst (some undef)) (a.put dst undef) := hf.put dst undef

theorem guardK_ok {ops : Array Oper} {o : Oper} {f : Fr} {a : Act} (hf : FrOk f a) {yes no : Prop} (h : guardK ops o f yes no) :
    (Region.wanted o (yielded ops a.tmps) = true → yes) ∧ (Region.wanted o (yielded ops a.tmps) = false → no) := by
  unfold guardK at h
  split at h
  · rename_i hg
    exact ⟨fun _ => h, fun hw => by simp [Region.wanted, hg] at hw⟩
  · rename_i j want hg
    split at h
    · rename_i og hog
      rw [nthL_eq] at hog
      have hog' : ops[j]? = some og := by simpa using hog
      split at h
      · rename_i d hd
        simp only [rd] at h
        split at h
        · rename_i v hv
          have hs := hf.slot d v hv
          split at h
          · rename_i g
            have hy : yielded ops a.tmps j = some g := by
              unfold yielded
              rw [hog']
              simp only [Option.bind_some, hd, hs]
            cases want with
            | true =>
              have h := h.ok
              cases g with
              | true => exact ⟨fun _ => h.1 rfl, fun hw => by simp [Region.wanted, hg, hy] at hw⟩
              | false => exact ⟨fun hw => by simp [Region.wanted, hg, hy] at hw, fun _ => h.2 rfl⟩
            | false =>
              have h := h.ok
              cases g with
              | true => exact ⟨fun hw => by simp [Region.wanted, hg, hy] at hw, fun _ => h.1 rfl⟩
              | false => exact ⟨fun _ => h.2 rfl, fun hw => by simp [Region.wanted, hg, hy] at hw⟩
          · rename_i hnb
            have hy : yielded ops a.tmps j = none := by
              unfold yielded
              rw [hog']
              simp only [Option.bind_some, hd, hs]
              split
              · rename_i b hb
                exact absurd (Option.some.inj hb) (hnb b)
              · rfl
            exact ⟨fun hw => by simp [Region.wanted, hg, hy] at hw, fun _ => h⟩
        · exact h.elim
      · exact h.elim
    · exact h.elim

theorem pure_yields {S : Sig} (hS : S.Ok) {ops : Array Oper} {o : Oper} {f : Fr} {L : SH} {a : Act} (hf : FrOk f a) {w0 : World} (h0 : Holds w0 L) (hp : isPure S o = true) {k : Fr → Prop}
    (h : guardK ops o f (pureK S o f L fun v => putK f o.dst v k) (skipK f o.dst k)) : ∃ v f', Yields S.P ops o v a ∧ FrOk f' (a.put o.dst v) ∧ k f' := by
  obtain ⟨h1, h2⟩ := guardK_ok hf h
  cases hw : Region.wanted o (yielded ops a.tmps) with
  | true =>
    obtain ⟨v, hv, hr⟩ := pureK_ok hS hf h0 (h1 hw)
    rw [putK_eq] at hv
    exact ⟨v, _, .inl ⟨hw, fun w => hr w (.inl hp)⟩, hf.put _ _, hv⟩
  | false =>
    have := h2 hw
    rw [skipK_eq] at this
    exact ⟨undef, _, .inr ⟨hw, rfl⟩, hf.skip _, this⟩

end Go.Proofs.Ytloknkdomgeolaa.She
