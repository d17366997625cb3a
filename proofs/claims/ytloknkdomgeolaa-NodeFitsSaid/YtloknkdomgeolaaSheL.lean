/- Part of a small program logic: operations in threads: each may come at any time, beside what keeps all that they read. -/
import Derived.Test.YtloknkdomgeolaaSheJ
namespace Go.Proofs.Ytloknkdomgeolaa.She
set_option linter.all false
open Go

/-! ### Parts of a heap -/
theorem Good.part {Γ : Ctx} {F R : SH} {w : World} (h : Good Γ (F ++ R) w) : Good ⟨w, owned F⟩ F w :=
  have h' := h.sub (List.sublist_append_left F R)
  ⟨Keep.refl _ _, h'.holds, h'.nodup, h'.apart, fun _ hb => .inl hb⟩

theorem Good.frame {Γ : Ctx} {F R F' : SH} {w w' : World} (h : Good Γ (F ++ R) w) (h' : Good ⟨w, owned F⟩ F' w') (hs : ∀ b, b ∈ shared F' → b ∉ owned R) : Good Γ (F' ++ R) w' := by
  have hnd := h.nodup
  simp only [owned_append] at hnd
  obtain ⟨n1, n2, n3⟩ := List.nodup_append.1 hnd
  have hlt := h.lt
  simp only [owned_append, shared_append, List.mem_append] at hlt
  have hap := h.apart
  simp only [owned_append, shared_append, List.mem_append, not_or] at hap
  have hRF : ∀ b, b ∈ owned R → b ∉ owned F := fun b hb hf => n3 b hf b hb rfl
  have hSF : ∀ b, b ∈ shared R → b ∉ owned F := fun b hb => (hap b (.inr hb)).1
  refine ⟨h.keep.trans h'.keep (fun k hk => h.own k (by simp only [owned_append, List.mem_append]; exact .inl hk)), ?_, ?_, ?_, ?_⟩
  · intro x hx
    simp only [List.mem_append] at hx
    rcases hx with hx | hx
    · exact h'.holds x hx
    · have hxm : x ∈ F ++ R := List.mem_append.2 (.inr hx)
      refine Item.holds_congr (h.holds x hxm) fun b hb => h'.keep.block b (Item.lt (h.holds x hxm) b hb) ?_
      rcases hb with hb | hb
      · exact hRF b (List.mem_flatMap.2 ⟨x, hx, hb⟩)
      · exact hSF b (List.mem_flatMap.2 ⟨x, hx, hb⟩)
  · simp only [owned_append]
    refine List.nodup_append.2 ⟨h'.nodup, n2, ?_⟩
    rintro x hx y hy rfl
    rcases h'.own x hx with h1 | h1
    · exact hRF x hy h1
    · have := hlt x (.inl (.inr hy)); simp only at h1; omega
  · intro b hb
    simp only [owned_append, shared_append, List.mem_append, not_or] at hb ⊢
    rcases hb with hb | hb
    · exact ⟨h'.apart b hb, hs b hb⟩
    · refine ⟨fun ho => ?_, (hap b (.inr hb)).2⟩
      rcases h'.own b ho with h1 | h1
      · exact hSF b hb h1
      · have := hlt b (.inr (.inr hb)); simp only at h1; omega
  · intro b hb
    simp only [owned_append, List.mem_append] at hb
    rcases hb with hb | hb
    · rcases h'.own b hb with h1 | h1
      · exact h.own b (by simp only [owned_append, List.mem_append]; exact .inl h1)
      · exact .inr (Nat.le_trans h.keep.size h1)
    · exact h.own b (by simp only [owned_append, List.mem_append]; exact .inr hb)

/-- L has all of L0, and beside it J, whose items are no views. -/
inductive Keeps : SH → SH → SH → Prop
  | nil : Keeps [] [] []
  | keep {x : Item} {L0 L J : SH} (h : Keeps L0 L J) : Keeps (x :: L0) (x :: L) J
  | junk {x : Item} {L0 L J : SH} (hs : x.shared = []) (h : Keeps L0 L J) : Keeps L0 (x :: L) (x :: J)

theorem Keeps.refl : ∀ L : SH, Keeps L L []
  | [] => .nil
  | _ :: L => .keep (Keeps.refl L)
theorem Keeps.perm {L0 L J : SH} (h : Keeps L0 L J) : List.Perm L (J ++ L0) := by
  induction h with
  | nil => exact .nil
  | keep _ ih => exact (ih.cons _).trans List.perm_middle.symm
  | junk _ _ ih => exact ih.cons _
theorem Keeps.sh {L0 L J : SH} (h : Keeps L0 L J) : shared J = [] := by
  induction h with
  | nil => rfl
  | keep _ ih => exact ih
  | junk hs _ ih => simp [hs, ih]
theorem Keeps.shared {L0 L J : SH} (h : Keeps L0 L J) (b : Nat) : b ∈ She.shared L ↔ b ∈ She.shared L0 := by
  have h1 := (h.perm.flatMap_right Item.shared).mem_iff (a := b)
  have h2 : She.shared (J ++ L0) = She.shared L0 := by simp [h.sh]
  rw [← h2]
  exact h1

theorem Keeps.app {L0 L J : SH} (h : Keeps L0 L J) : ∀ (A : SH), She.shared A = [] → Keeps L0 (A ++ L) (A ++ J)
  | [], _ => h
  | x :: A, hs => by
    simp only [shared_cons, List.append_eq_nil_iff] at hs
    exact .junk hs.1 (Keeps.app h A hs.2)

inductive EvKeep (L0 L : SH) (p : Prop) : Prop
  | mk (J : SH) (hk : Keeps L0 L J) (h : p)
inductive EvKeepJ (L0 L : SH) (p : SH → Prop) : Prop
  | mk (J : SH) (hk : Keeps L0 L J) (h : p J)

/-! ### Threads -/
inductive Step where
  | push (T : List Nat)
  | eff (i : Nat)
  | late (T : List Nat)
  | pull (i : Nat)

def stepsOps : List Step → List Nat
  | [] => []
  | .push T :: s => T ++ stepsOps s
  | .eff i :: s => i :: stepsOps s
  | .late T :: s => T ++ stepsOps s
  | .pull _ :: s => stepsOps s
def pushed : List Step → List Nat
  | [] => []
  | .push T :: s => T ++ pushed s
  | .eff _ :: s => pushed s
  | .late T :: s => T ++ pushed s
  | .pull _ :: s => pushed s
def lastOf : List Nat → Nat
  | [] => 0
  | [i] => i
  | _ :: j :: r => lastOf (j :: r)
def initOf : List Nat → List Nat
  | [] => []
  | [_] => []
  | i :: j :: r => i :: initOf (j :: r)
def lasts : List Step → List Nat
  | [] => []
  | .push T :: s => lastOf T :: lasts s
  | .eff _ :: s => lasts s
  | .late _ :: s => lasts s
  | .pull _ :: s => lasts s
theorem lastOf_mem : ∀ {l : List Nat}, l ≠ [] → lastOf l ∈ l
  | [], h => absurd rfl h
  | [_], _ => .head _
  | _ :: j :: r, _ => .tail _ (lastOf_mem (l := j :: r) (by simp))
theorem initOf_sub : ∀ {l : List Nat} {i : Nat}, i ∈ initOf l → i ∈ l
  | [], _, h => h
  | [_], _, h => by cases h
  | _ :: j :: r, i, h => by
    cases h with
    | head => exact .head _
    | tail _ h => exact .tail _ (initOf_sub (l := j :: r) h)
theorem lastOf_not_init : ∀ {l : List Nat}, l.Nodup → lastOf l ∉ initOf l
  | [], _, h => by cases h
  | [_], _, h => by cases h
  | i :: j :: r, hn, h => by
    have hn' := List.nodup_cons.1 hn
    have hm := lastOf_mem (l := j :: r) (by simp)
    rcases List.mem_cons.1 h with h | h
    · have h2 : lastOf (j :: r) = i := h
      rw [h2] at hm; exact hn'.1 hm
    · exact lastOf_not_init hn'.2 h

def dstAt (ops : Array Oper) (i : Nat) : Option Tmp :=
  match nthL ops.toList i with
  | some o => o.dst
  | none => none
theorem dstAt_eq {ops : Array Oper} {i : Nat} {o : Oper} (h : ops[i]? = some o) : dstAt ops i = o.dst := by
  unfold dstAt
  have h2 : nthL ops.toList i = some o := by rw [nthL_eq]; simpa using h
  rw [h2]
theorem dstAt_some {ops : Array Oper} {i d : Nat} (h : dstAt ops i = some d) : ∃ o, ops[i]? = some o ∧ o.dst = some d := by
  unfold dstAt at h
  split at h
  · rename_i o ho
    rw [nthL_eq] at ho
    exact ⟨o, by simpa using ho, h⟩
  · cases h

def evT (S : Sig) (ops : Array Oper) (L0 : SH) (K : Value → SH → Prop) : List Nat → Fr → SH → Prop
  | [], _, _ => False
  | [i], f, L => match nthL ops.toList i with
    | some o => guardK ops o f (effK S o f L fun v L' => EvKeepJ L0 L' fun J => K v J) (K undef [])
    | none => False
  | i :: j :: r, f, L => match nthL ops.toList i with
    | some o => guardK ops o f (effK S o f L fun v L' => EvKeep L0 L' (putK f o.dst v fun f' => evT S ops L0 K (j :: r) f' L')) (skipK f o.dst fun f' => evT S ops L0 K (j :: r) f' L)
    | none => False

inductive EvPush (h k : Value → Prop) : Prop
  | mk (val : Value) (hv : h val) (hk : k val)

abbrev Posts := List (Nat × (Value → SH → Prop))
def lookP : Posts → Nat → Option (Value → SH → Prop)
  | [], _ => none
  | (j, p) :: r, i => match Nat.beq i j with
    | true => some p
    | false => lookP r i
def dropP : Posts → Nat → Posts
  | [], _ => []
  | (j, p) :: r, i => match Nat.beq i j with
    | true => dropP r i
    | false => (j, p) :: dropP r i
theorem lookP_dropP : ∀ (ps : Posts) (i k : Nat), lookP (dropP ps i) k = if k = i then none else lookP ps k
  | [], i, k => by simp [dropP, lookP]
  | (j, p) :: r, i, k => by
    simp only [dropP, lookP]
    cases h : Nat.beq i j with
    | true =>
      have := Nat.eq_of_beq_eq_true h
      subst this
      simp only
      rw [lookP_dropP r i k]
      by_cases hk : k = i
      · simp [hk]
      · have : Nat.beq k i = false := by cases h2 : Nat.beq k i with | true => exact absurd (Nat.eq_of_beq_eq_true h2) hk | false => rfl
        simp [hk, this]
    | false =>
      simp only [lookP]
      rw [lookP_dropP r i k]
      cases h2 : Nat.beq k j with
      | true =>
        have := Nat.eq_of_beq_eq_true h2
        subst this
        have : ¬ k = i := fun e => by subst e; simp at h
        simp [this]
      | false => rfl

/-- Threads whose answers are told when they are asked for. -/
inductive EvLate (h k : (Value → SH → Prop) → Prop) : Prop
  | mk (post : Value → SH → Prop) (hv : h post) (hk : k post)

def evA (S : Sig) (ops : Array Oper) (L0 : SH) : List Step → Posts → Fr → SH → (Fr → SH → Prop) → Prop
  | [], _, f, L, K => K f L
  | .push T :: s, ps, f, L, K => EvPush (fun val => evT S ops L0 (fun v _ => v = val) T f L0) (fun val => putK f (dstAt ops (lastOf T)) val fun f' => evA S ops L0 s ps f' L K)
  | .eff i :: s, ps, f, L, K => match nthL ops.toList i with
    | some o => guardK ops o f (effK S o f L fun v L' => EvKeep L0 L' (putK f o.dst v fun f' => evA S ops L0 s ps f' L' K)) (skipK f o.dst fun f' => evA S ops L0 s ps f' L K)
    | none => False
  | .late T :: s, ps, f, L, K => EvLate (fun post => evT S ops L0 post T f L0) (fun post => evA S ops L0 s ((lastOf T, post) :: ps) f L K)
  | .pull i :: s, ps, f, L, K => match lookP ps i with
    | some post => ∀ v J, post v J → putK f (dstAt ops i) v fun f' => appK J L fun L' => evA S ops L0 s (dropP ps i) f' L' K
    | none => False

def setN : Fr → Nat → (Fr → Prop) → Prop
  | [], _, k => k []
  | _ :: r, 0, k => k (none :: r)
  | x :: r, n + 1, k => setN r n fun r' => k (x :: r')
theorem setN_eq : ∀ (f : Fr) (n : Nat) (k : Fr → Prop), setN f n k = k (setF f n none)
  | [], _, _ => rfl
  | _ :: _, 0, _ => rfl
  | x :: r, n + 1, k => by simp only [setN, setN_eq r n, setF]
/-- What the operations of a list will set is forgotten. -/
def wipeK (ops : Array Oper) : List Nat → Fr → (Fr → Prop) → Prop
  | [], f, k => k f
  | i :: r, f, k => match dstAt ops i with
    | some d => setN f d fun f' => wipeK ops r f' k
    | none => wipeK ops r f k
def wipe (ops : Array Oper) : List Nat → Fr → Fr
  | [], f => f
  | i :: r, f => match dstAt ops i with
    | some d => wipe ops r (setF f d none)
    | none => wipe ops r f
theorem wipeK_eq (ops : Array Oper) : ∀ (l : List Nat) (f : Fr) (k : Fr → Prop), wipeK ops l f k = k (wipe ops l f)
  | [], _, _ => rfl
  | i :: r, f, k => by
    simp only [wipeK, wipe]
    split
    · rw [setN_eq, wipeK_eq ops r]
    · exact wipeK_eq ops r f k
theorem FrOk.wipe {ops : Array Oper} {a : Act} : ∀ (l : List Nat) (f : Fr), FrOk f a → FrOk (wipe ops l f) a
  | [], _, h => h
  | i :: r, f, h => by
    simp only [She.wipe]
    split
    · rename_i d _
      refine FrOk.wipe r _ ⟨h.defers, by rw [setF_length]; exact h.size, fun j v hj => ?_⟩
      rw [getF_setF] at hj
      split at hj
      · cases hj
      · exact h.slot j v hj
    · exact FrOk.wipe r f h

def Clr (ops : Array Oper) (f : Fr) (U : List Nat) : Prop := ∀ i ∈ U, ∀ d, dstAt ops i = some d → getF f d = none
theorem getF_len : ∀ (f : Fr) (d : Nat), ¬ d < f.length → getF f d = none
  | [], d, _ => by cases d <;> rfl
  | x :: r, 0, h => absurd (by simp) h
  | x :: r, d + 1, h => getF_len r d (by simpa using h)
theorem wipe_keep {ops : Array Oper} {d : Nat} : ∀ (l : List Nat) (f : Fr), getF f d = none → getF (wipe ops l f) d = none
  | [], _, h => h
  | i :: r, f, h => by
    simp only [wipe]
    split
    · refine wipe_keep r _ ?_
      rw [getF_setF]; split
      · rfl
      · exact h
    · exact wipe_keep r f h
theorem Clr.wipe (ops : Array Oper) : ∀ (l : List Nat) (f : Fr), Clr ops (wipe ops l f) l
  | [], _ => fun _ h => by cases h
  | i :: r, f => by
    intro j hj d hd
    cases hj with
    | head =>
      simp only [She.wipe, hd]
      refine wipe_keep r _ ?_
      rw [getF_setF]
      split
      · rfl
      · rename_i hn
        exact getF_len _ _ (fun h => hn ⟨rfl, h⟩)
    | tail _ hj =>
      simp only [She.wipe]
      split
      · exact Clr.wipe ops r _ j hj d hd
      · exact Clr.wipe ops r _ j hj d hd
theorem Clr.mono {ops : Array Oper} {f : Fr} {U V : List Nat} (h : Clr ops f U) (hs : ∀ i ∈ V, i ∈ U) : Clr ops f V := fun i hi => h i (hs i hi)

/-! ### What is put ahead of its time -/
def puts (l : List (Option Tmp × Value)) (a : Act) : Act := l.foldr (fun x a => a.put x.1 x.2) a
theorem put_size (a : Act) (d : Option Tmp) (v : Value) : (a.put d v).tmps.size = a.tmps.size := by cases d <;> simp [Act.put]
theorem put_defers (a : Act) (d : Option Tmp) (v : Value) : (a.put d v).defers = a.defers := by cases d <;> rfl
theorem puts_size : ∀ (l : List (Option Tmp × Value)) (a : Act), (puts l a).tmps.size = a.tmps.size
  | [], _ => rfl
  | x :: l, a => (put_size (puts l a) x.1 x.2).trans (puts_size l a)
theorem puts_defers : ∀ (l : List (Option Tmp × Value)) (a : Act), (puts l a).defers = a.defers
  | [], _ => rfl
  | x :: l, a => (put_defers (puts l a) x.1 x.2).trans (puts_defers l a)
theorem puts_exec {ops : Array Oper} (o : Oper) (hs : ∀ cs b, o.op ≠ .select cs b) : ∀ (l : List (Option Tmp × Value)) (a : Act), (∀ x ∈ l, ∀ d, x.1 = some d → d ∉ o.looksAt ops) → execOp (puts l a).eval o = execOp a.eval o
  | [], _, _ => rfl
  | x :: l, a, h => (execOp_put o hs (puts l a) x.1 x.2 (h x (.head _))).trans (puts_exec o hs l a fun y hy => h y (.tail _ hy))
theorem puts_wanted {ops : Array Oper} (o : Oper) : ∀ (l : List (Option Tmp × Value)) (a : Act), (∀ x ∈ l, ∀ d, x.1 = some d → d ∉ o.looksAt ops) → Region.wanted o (yielded ops (puts l a).tmps) = Region.wanted o (yielded ops a.tmps)
  | [], _, _ => rfl
  | x :: l, a, h => (wanted_put o (puts l a) x.1 x.2 (h x (.head _))).trans (puts_wanted o l a fun y hy => h y (.tail _ hy))
theorem puts_put (od : Option Tmp) (u : Value) : ∀ (l : List (Option Tmp × Value)) (a : Act), (∀ x ∈ l, ∀ d, x.1 = some d → od ≠ some d) → (puts l a).put od u = puts l (a.put od u)
  | [], _, _ => rfl
  | x :: l, a, h => by
    show ((puts l a).put x.1 x.2).put od u = (puts l (a.put od u)).put x.1 x.2
    rw [Act.put_comm _ _ _ (h x (.head _)), puts_put od u l a fun y hy => h y (.tail _ hy)]
theorem puts_mid (y : Option Tmp) (v : Value) : ∀ (l1 l2 : List (Option Tmp × Value)) (a : Act), (∀ x ∈ l2, ∀ d, x.1 = some d → y ≠ some d) → puts (l1 ++ (y, v) :: l2) a = puts (l1 ++ l2) (a.put y v)
  | [], l2, a, h => puts_put y v l2 a h
  | x :: l1, l2, a, h => congrArg (fun z : Act => z.put x.1 x.2) (puts_mid y v l1 l2 a h)

theorem put_transfer {a ap : Act} {d : Option Tmp} {u v : Value} (hsz : ap.tmps.size = a.tmps.size) (h : ap.put d u = ap.put d v) : a.put d u = a.put d v := by
  cases d with
  | none => rfl
  | some d =>
    by_cases hd : d < a.tmps.size
    · have := congrArg (fun x : Act => x.tmps[d]?) h
      simp [Act.put, hsz, hd] at this
      rw [this]
    · simp [Act.put, Array.setIfInBounds, hd]

theorem wp_over {P : Program} {o : Oper} {a ap : Act} {w : World} {Q : Exit → Act → World → Prop} {Kv : Value → World → Prop} (he : execOp ap.eval o = execOp a.eval o) (hsz : ap.tmps.size = a.tmps.size)
    (h : o.wp P ap w (fun a' w' => ∃ v, a' = ap.put o.dst v ∧ Kv v w') (fun _ _ _ => False)) : o.wp P a w (fun a' w' => ∃ v, a' = a.put o.dst v ∧ Kv v w') Q := by
  unfold Oper.wp at *
  rw [he] at h
  have tr : ∀ u w', (∃ v, ap.put o.dst u = ap.put o.dst v ∧ Kv v w') → ∃ v, a.put o.dst u = a.put o.dst v ∧ Kv v w' := fun u w' ⟨v, hv, hk⟩ => ⟨v, put_transfer hsz hv, hk⟩
  cases hr : (execOp a.eval o).run P w with
  | ok n w' =>
    rw [hr] at h
    cases n with
    | value u => exact tr u w' h
    | skip => exact tr undef w' h
    | defer d =>
      obtain ⟨v, hv, _⟩ := h
      have := congrArg (fun x : Act => x.defers.length) hv
      simp [put_defers] at this
    | enter f args =>
      simp only [Oper.upon] at h ⊢
      refine Calls.mono h fun e w'' he => ?_
      cases e with
      | returned u => exact tr u w'' he
      | panicked c => exact he.elim
      | outgrown => obtain ⟨_, _, hf⟩ := he; exact hf.elim
    | row r args =>
      simp only [Oper.upon] at h ⊢
      exact Rows.mono h fun u w'' he => tr u w'' he
    | _ => exact h.elim
  | halt x w' =>
    rw [hr] at h
    cases x <;> simp only [Oper.upon] at h

/-! ### What the plan asks of the region -/
def nodupB : List Nat → Bool
  | [] => true
  | i :: r => !r.contains i && nodupB r
theorem nodupB_spec : ∀ {l : List Nat}, nodupB l = true → l.Nodup
  | [], _ => List.nodup_nil
  | i :: r, h => by
    simp only [nodupB, Bool.and_eq_true, Bool.not_eq_true'] at h
    exact List.nodup_cons.2 ⟨by simpa using h.1, nodupB_spec h.2⟩
def chainB (ops : Array Oper) : List Nat → Bool
  | [] => true
  | [_] => true
  | i :: j :: r => ancB ops ops.size j i && chainB ops (j :: r)
def stepsB (ops : Array Oper) : List Step → Array Bool → Bool
  | [], _ => true
  | .push T :: s, LA => !T.isEmpty && chainB ops T && stepsB ops s (setAll T LA)
  | .eff i :: s, LA => decide (Region.ready .any ops LA = [i]) && stepsB ops s (LA.setIfInBounds i true)
  | .late T :: s, LA => !T.isEmpty && chainB ops T && stepsB ops s (setAll T LA)
  | .pull i :: s, LA => ((List.range ops.size).all fun j => LA.getD j false || ancB ops ops.size j i) && stepsB ops s LA
def sideB (ops : Array Oper) (e o : Nat) : Bool :=
  match ops[e]?, ops[o]? with
  | some eo, some oo => match eo.dst with
    | some d => !(oo.looksAt ops).contains d && (Nat.beq o e || oo.dst != some d)
    | none => true
  | _, _ => true
def distB (ops : Array Oper) (i j : Nat) : Bool :=
  match ops[i]?, ops[j]? with
  | some oi, some oj => match oi.dst with
    | some d => oj.dst != some d
    | none => true
  | _, _ => true
def aheadB (ops : Array Oper) (s : List Step) (l0 : Array Bool) : Bool :=
  Region.noSelect ops &&
  ((List.range ops.size).all fun j => match ops[j]? with
    | some o => o.after.all fun e => !Region.binds .any e || decide (e.on < j)
    | none => true) &&
  nodupB (stepsOps s) && ((stepsOps s).all fun i => decide (i < ops.size) && !l0.getD i false) &&
  ((lasts s).all fun e => (List.range ops.size).all fun o => l0.getD o false || ancB ops ops.size o e || sideB ops e o) &&
  ((stepsOps s).all fun i => (stepsOps s).all fun j => Nat.beq i j || distB ops i j) &&
  ((pushed s).all fun i => (List.range ops.size).all fun j => l0.getD j false || (stepsOps s).contains j || ancB ops ops.size j i) &&
  stepsB ops s l0

structure Static (ops : Array Oper) (l0 : Array Bool) (U E H : List Nat) : Prop where
  sel : ∀ (j : Nat) (o : Oper) cs b, ops[j]? = some o → o.op ≠ .select cs b
  down : ∀ j o, ops[j]? = some o → ∀ e ∈ o.after, Region.binds .any e = true → e.on < j
  uL : ∀ i ∈ U, i < ops.size ∧ l0.getD i false = false
  side : ∀ e ∈ E, ∀ eo, ops[e]? = some eo → ∀ o oo, ops[o]? = some oo → l0.getD o false = false → ancB ops ops.size o e = true ∨ (∀ d, eo.dst = some d → d ∉ oo.looksAt ops ∧ (o = e ∨ oo.dst ≠ some d))
  dist : ∀ i ∈ U, ∀ j ∈ U, i ≠ j → ∀ d, dstAt ops i = some d → dstAt ops j ≠ some d
  join : ∀ i ∈ H, ∀ j, j < ops.size → l0.getD j false = true ∨ j ∈ U ∨ ancB ops ops.size j i = true

theorem Static.of {ops : Array Oper} {s : List Step} {l0 : Array Bool} (h : aheadB ops s l0 = true) : Static ops l0 (stepsOps s) (lasts s) (pushed s) ∧ (stepsOps s).Nodup ∧ stepsB ops s l0 = true := by
  simp only [aheadB, Bool.and_eq_true] at h
  obtain ⟨⟨⟨⟨⟨⟨⟨h1, h2⟩, h3⟩, h4⟩, h5⟩, h6⟩, h7⟩, h8⟩ := h
  refine ⟨⟨Region.noSelect_spec h1, ?_, ?_, ?_, ?_, ?_⟩, nodupB_spec h3, h8⟩
  · intro j o ho e he hb
    have := List.all_eq_true.1 h2 j (List.mem_range.2 (Array.getElem?_eq_some_iff.1 ho).1)
    simp only [ho] at this
    have := Array.all_eq_true_iff_forall_mem.1 this e he
    simpa [hb] using this
  · intro i hi
    have := List.all_eq_true.1 h4 i hi
    simpa using this
  · intro e he eo heo o oo hoo hl
    have := List.all_eq_true.1 (List.all_eq_true.1 h5 e he) o (List.mem_range.2 (Array.getElem?_eq_some_iff.1 hoo).1)
    simp only [hl, Bool.false_or, Bool.or_eq_true] at this
    rcases this with this | this
    · exact .inl this
    · refine .inr fun d hd => ?_
      simp only [sideB, heo, hoo, hd, Bool.and_eq_true, Bool.or_eq_true, Bool.not_eq_true'] at this
      refine ⟨by simpa using this.1, this.2.imp (fun h => Nat.eq_of_beq_eq_true h) fun h => by simpa using h⟩
  · intro i hi j hj hij d hd
    have := List.all_eq_true.1 (List.all_eq_true.1 h6 i hi) j hj
    obtain ⟨oi, hoi, hdi⟩ := dstAt_some hd
    intro hd'
    obtain ⟨oj, hoj, hdj⟩ := dstAt_some hd'
    simp only [Bool.or_eq_true] at this
    rcases this with this | this
    · exact hij (Nat.eq_of_beq_eq_true this)
    · simp [distB, hoi, hoj, hdi, hdj] at this
  · intro i hi j hj
    have := List.all_eq_true.1 (List.all_eq_true.1 h7 i hi) j (List.mem_range.2 hj)
    simp only [Bool.or_eq_true] at this
    rcases this with (this | this) | this
    · exact .inl this
    · exact .inr (.inl (by simpa using this))
    · exact .inr (.inr this)

end Go.Proofs.Ytloknkdomgeolaa.She
