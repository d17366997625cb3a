/- Part of a small program logic: threads and steps: what is known while some of them have not come yet, and that every order ends so. -/
import Derived.Test.YtloknkdomgeolaaSheL
namespace Go.Proofs.Ytloknkdomgeolaa.She
set_option linter.all false
open Go

structure Thd where
  rem : List Nat
  f : Fr
  P : SH
  J : SH
  val : Option Value
  post : Value → SH → Prop

/-- A thread that has come to its end, and has not been asked yet. -/
structure Don where
  i : Nat
  v : Value
  J : SH
  post : Value → SH → Prop

def Thd.hid (t : Thd) : List Nat := match t.val with
  | some _ => initOf t.rem
  | none => t.rem
def Thd.put (ops : Array Oper) (t : Thd) : Option (Option Tmp × Value) := match t.val with
  | some v => some (dstAt ops (lastOf t.rem), v)
  | none => none
theorem Thd.hid_sub {t : Thd} {i : Nat} (h : i ∈ t.hid) : i ∈ t.rem := by
  unfold Thd.hid at h
  split at h
  · exact initOf_sub h
  · exact h
def rems (Ts : List Thd) : List Nat := Ts.flatMap (·.rem)
def inner (Ts : List Thd) : List Nat := Ts.flatMap Thd.hid
def pl (ops : Array Oper) (Ts : List Thd) : List (Option Tmp × Value) := Ts.filterMap (Thd.put ops)
def js (Ts : List Thd) : SH := Ts.flatMap (·.J)
def jd (Ds : List Don) : SH := Ds.flatMap (·.J)
theorem mem_pl {ops : Array Oper} {Ts : List Thd} {x : Option Tmp × Value} (h : x ∈ pl ops Ts) : ∃ t ∈ Ts, ∃ v, t.val = some v ∧ x = (dstAt ops (lastOf t.rem), v) := by
  obtain ⟨t, ht, h⟩ := List.mem_filterMap.1 h
  unfold Thd.put at h
  split at h
  · rename_i v hv; cases h; exact ⟨t, ht, v, hv, rfl⟩
  · cases h

structure ThOk (S : Sig) (ops : Array Oper) (L0 : SH) (E : List Nat) (t : Thd) : Prop where
  ev : evT S ops L0 t.post t.rem t.f t.P
  det : ∀ v0, t.val = some v0 → t.post = fun v _ => v = v0
  ks : Keeps L0 t.P t.J
  ch : chainB ops t.rem = true
  la : ∀ v0, t.val = some v0 → lastOf t.rem ∈ E

theorem ThOk.ne {S : Sig} {ops : Array Oper} {L0 : SH} {E : List Nat} {t : Thd} (h : ThOk S ops L0 E t) : t.rem ≠ [] := fun h0 => by
  have := h.ev
  rw [h0] at this
  exact this

structure Inv (S : Sig) (ops : Array Oper) (L0 : SH) (Γ : Ctx) (l0 : Array Bool) (U E H : List Nat) (s : List Step) (ps : Posts) (Ts : List Thd) (Ds : List Don) (f : Fr) (L : SH) (LA A : Array Bool) (a : Act) (w : World) : Prop where
  clo : Closed ops A
  szL : LA.size = ops.size
  lst : ∀ j, A.getD j false = true ↔ LA.getD j false = true ∧ j ∉ rems Ts
  l0A : ∀ j, l0.getD j false = true → A.getD j false = true
  uLA : ∀ j ∈ U, LA.getD j false = true ∨ j ∈ stepsOps s
  sN : (stepsOps s ++ rems Ts).Nodup
  sU : ∀ j ∈ stepsOps s, j ∈ U ∧ LA.getD j false = false
  rH : ∀ j ∈ rems Ts, j ∈ H ∧ j ∈ U ∧ LA.getD j false = true
  sH : (∀ j ∈ pushed s, j ∈ H) ∧ ∀ j ∈ lasts s, j ∈ E
  sB : stepsB ops s LA = true
  th : ∀ t ∈ Ts, ThOk S ops L0 E t
  clr : Clr ops f (stepsOps s ++ inner Ts)
  clrT : ∀ t ∈ Ts, Clr ops t.f (stepsOps s ++ inner Ts)
  fo : FrOk f (puts (pl ops Ts) a)
  foT : ∀ t ∈ Ts, FrOk t.f (puts (pl ops Ts) a)
  dn : ∀ d ∈ Ds, d.post d.v d.J ∧ shared d.J = [] ∧ d.i ∈ U ∧ d.i ∉ stepsOps s ++ rems Ts ∧ ∀ x, dstAt ops d.i = some x → x < a.tmps.size → (puts (pl ops Ts) a).tmps[x]? = some d.v
  pp : ∀ i post, lookP ps i = some post → (∃ t ∈ Ts, t.val = none ∧ lastOf t.rem = i ∧ t.post = post) ∨ ∃ X d Y, Ds = X ++ d :: Y ∧ d.i = i ∧ d.post = post
  kL : ∃ JL, Keeps L0 L JL
  good : Good Γ (js Ts ++ (jd Ds ++ L)) w

/-! ### The heap -/
theorem perm1 {a b c d e : SH} : List.Perm ((b ++ e) ++ (a ++ c ++ d)) ((a ++ (b ++ c)) ++ (d ++ e)) := by
  simp only [List.append_assoc]
  have h1 : List.Perm (a ++ (b ++ (c ++ (d ++ e)))) (b ++ (a ++ (c ++ (d ++ e)))) := List.perm_append_comm_assoc a b _
  have h2 : List.Perm (e ++ (a ++ (c ++ d))) (a ++ (c ++ (d ++ e))) := by
    have := List.perm_append_comm (l₁ := e) (l₂ := a ++ (c ++ d))
    simpa only [List.append_assoc] using this
  exact (h2.append_left b).trans h1.symm

theorem js_mid (X Y : List Thd) (t : Thd) : js (X ++ t :: Y) = js X ++ (t.J ++ js Y) := by simp [js]

theorem world_perm {X Y : List Thd} {t : Thd} {L L0 JL : SH} (hp : Keeps L0 t.P t.J) (hl : Keeps L0 L JL) : List.Perm (t.P ++ (js X ++ js Y ++ JL)) (js (X ++ t :: Y) ++ L) := by
  rw [js_mid]
  exact (hp.perm.append_right _).trans (perm1.trans (hl.perm.symm.append_left _))

theorem world_step {Γ : Ctx} {w w' : World} {L0 P P' J J' R : SH} (hg : Good Γ (P ++ R) w) (h' : Good ⟨w, owned P⟩ P' w') (hp : Keeps L0 P J) (hp' : Keeps L0 P' J') : Good Γ (P' ++ R) w' := by
  refine hg.frame h' fun b hb ho => ?_
  have hb' : b ∈ shared P := (hp.shared b).2 ((hp'.shared b).1 hb)
  exact hg.apart b (by simp [hb']) (by simp [ho])

/-! ### Orders -/
section
variable {S : Sig} {ops : Array Oper} {L0 : SH} {Γ : Ctx} {l0 : Array Bool} {U E H : List Nat} {s : List Step} {ps : Posts} {Ts : List Thd} {Ds : List Don} {f : Fr} {L : SH} {LA A : Array Bool} {a : Act} {w : World}

theorem deps_of {j : Nat} (hj : j ∈ Region.ready .any ops A) : ∀ oj, ops[j]? = some oj → ∀ e ∈ oj.after, Region.binds .any e = true → A.getD e.on false = true := by
  obtain ⟨_, o2, ho2, hall⟩ := mem_ready.1 hj
  intro oj hoj e he hb
  have := Option.some.inj (hoj.symm.trans ho2)
  subst this
  exact hall e he hb

theorem mem_rems {t : Thd} (ht : t ∈ Ts) {i : Nat} (hi : i ∈ t.rem) : i ∈ rems Ts := List.mem_flatMap.2 ⟨t, ht, hi⟩

theorem Inv.side (st : Static ops l0 U E H) (inv : Inv S ops L0 Γ l0 U E H s ps Ts Ds f L LA A a w) {j : Nat} {o : Oper} (hj : j ∈ Region.ready .any ops A) (ho : ops[j]? = some o) :
    ∀ t ∈ Ts, ∀ v, t.val = some v → ∀ d, dstAt ops (lastOf t.rem) = some d → d ∉ o.looksAt ops ∧ (j = lastOf t.rem ∨ o.dst ≠ some d) := by
  intro t ht v hv d hd
  obtain ⟨eo, heo, hde⟩ := dstAt_some hd
  have hth := inv.th t ht
  have hun : l0.getD j false = false := by
    cases h : l0.getD j false with
    | false => rfl
    | true =>
      have h1 := inv.l0A j h
      rw [getD_both (mem_ready.1 hj).1] at h1
      cases h1
  rcases st.side _ (hth.la v hv) eo heo j o ho hun with h | h
  · exact absurd (mem_rems ht (lastOf_mem hth.ne)) ((inv.lst _).1 (anc_listed inv.clo ops.size j h (deps_of hj))).2
  · exact h d hde

theorem chain_head : ∀ {l : List Nat} {j : Nat}, chainB ops l = true → j ∈ l → (∃ r, l = j :: r) ∨ ∃ p ∈ l, ancB ops ops.size j p = true
  | [], _, _, h => by cases h
  | [_], _, _, h => by
    cases h with
    | head => exact .inl ⟨_, rfl⟩
    | tail _ h => cases h
  | i :: k :: r, j, hc, h => by
    simp only [chainB, Bool.and_eq_true] at hc
    cases h with
    | head => exact .inl ⟨_, rfl⟩
    | tail _ h =>
      rcases chain_head (l := k :: r) hc.2 h with ⟨r', h1⟩ | ⟨p, hp, h1⟩
      · cases h1
        exact .inr ⟨i, .head _, hc.1⟩
      · exact .inr ⟨p, .tail _ hp, h1⟩

theorem Inv.cases (inv : Inv S ops L0 Γ l0 U E H s ps Ts Ds f L LA A a w) {j : Nat} (hj : j ∈ Region.ready .any ops A) :
    (∃ X t Y r, Ts = X ++ t :: Y ∧ t.rem = j :: r) ∨ (LA.getD j false = false ∧ j ∈ Region.ready .any ops LA) := by
  obtain ⟨hun, o, ho, hall⟩ := mem_ready.1 hj
  have hlt : j < ops.size := (Array.getElem?_eq_some_iff.1 ho).1
  cases hL : LA.getD j false with
  | false =>
    refine .inr ⟨rfl, mem_ready.2 ⟨?_, o, ho, fun e he hb => ((inv.lst _).1 (hall e he hb)).1⟩⟩
    simpa [inv.szL, hlt] using hL
  | true =>
    left
    have hjr : j ∈ rems Ts := by
      by_cases h : j ∈ rems Ts
      · exact h
      · have := (inv.lst j).2 ⟨hL, h⟩
        rw [getD_both hun] at this
        cases this
    obtain ⟨t, ht, hjt⟩ := List.mem_flatMap.1 hjr
    rcases chain_head (inv.th t ht).ch hjt with ⟨r, hr⟩ | ⟨p, hp, hanc⟩
    · obtain ⟨X, Y, hXY⟩ := List.append_of_mem ht
      exact ⟨X, t, Y, r, hXY, hr⟩
    · exact absurd (mem_rems ht hp) ((inv.lst _).1 (anc_listed inv.clo ops.size j hanc (deps_of hj))).2

theorem ready_ne (down : ∀ j o, ops[j]? = some o → ∀ e ∈ o.after, Region.binds .any e = true → e.on < j) (hs : A.size = ops.size) : ∀ (j : Nat), j < ops.size → A.getD j false = false → Region.ready .any ops A ≠ [] := by
  intro j
  induction j using Nat.strongRecOn with
  | _ j ih =>
    intro hlt hun h0
    have ho : ops[j]? = some ops[j] := by simp [hlt]
    by_cases hall : ∀ e ∈ ops[j].after, Region.binds .any e = true → A.getD e.on false = true
    · have : j ∈ Region.ready .any ops A := mem_ready.2 ⟨by simpa [hs, hlt] using hun, _, ho, hall⟩
      rw [h0] at this
      cases this
    · have : ∃ e ∈ ops[j].after, Region.binds .any e = true ∧ A.getD e.on false = false := by
        apply Classical.byContradiction
        intro hn
        refine hall fun e he hb => ?_
        cases hg : A.getD e.on false with
        | true => rfl
        | false => exact absurd ⟨e, he, hb, hg⟩ hn
      obtain ⟨e, he, hb, hg⟩ := this
      have hlt2 := down j _ ho e he hb
      exact ih e.on hlt2 (Nat.lt_trans hlt2 hlt) hg h0

/-- The listing behind a thread's first operation. -/
theorem Inv.lst1 (inv : Inv S ops L0 Γ l0 U E H s ps Ts Ds f L LA A a w) {X Y : List Thd} {t : Thd} {j : Nat} {r : List Nat} (hTs : Ts = X ++ t :: Y) (hr : t.rem = j :: r) :
    (rems Ts = rems X ++ (j :: (r ++ rems Y))) ∧ j ∉ rems X ++ (r ++ rems Y) ∧ (stepsOps s ++ (rems X ++ (r ++ rems Y))).Nodup ∧
    (∀ i, (A.setIfInBounds j true).getD i false = true ↔ LA.getD i false = true ∧ i ∉ rems X ++ (r ++ rems Y)) := by
  have e : rems Ts = rems X ++ (j :: (r ++ rems Y)) := by subst hTs; simp [rems, hr]
  have hn := inv.sN
  rw [e] at hn
  have hperm : List.Perm (stepsOps s ++ (rems X ++ (j :: (r ++ rems Y)))) (j :: (stepsOps s ++ (rems X ++ (r ++ rems Y)))) := by
    have := List.perm_middle (a := j) (l₁ := stepsOps s ++ rems X) (l₂ := r ++ rems Y)
    simpa only [List.append_assoc] using this
  have hn2 := List.nodup_cons.1 (hperm.nodup_iff.1 hn)
  have hjn : j ∉ rems X ++ (r ++ rems Y) := fun h => hn2.1 (List.mem_append.2 (.inr h))
  refine ⟨e, hjn, hn2.2, fun i => ?_⟩
  have hjr : j ∈ rems Ts := by rw [e]; simp
  by_cases hij : j = i
  · subst hij
    have hsz : j < A.size := by
      have := inv.rH j hjr
      rw [inv.clo.1]
      rcases Nat.lt_or_ge j ops.size with h | h
      · exact h
      · have h3 := this.2.2
        rw [← inv.szL] at h
        simp [Array.getElem?_eq_none h] at h3
    constructor
    · intro _; exact ⟨(inv.rH j hjr).2.2, hjn⟩
    · intro _; simp [hsz]
  · rw [getD_set_ne false hij, inv.lst i, e]
    constructor
    · rintro ⟨h1, h2⟩
      exact ⟨h1, fun h => h2 (by simp only [List.mem_append, List.mem_cons] at h ⊢; rcases h with h | h | h; (all_goals first | exact .inl h | exact .inr (.inr (.inl h)) | exact .inr (.inr (.inr h))))⟩
    · rintro ⟨h1, h2⟩
      refine ⟨h1, fun h => h2 ?_⟩
      simp only [List.mem_append, List.mem_cons] at h ⊢
      rcases h with h | h | h | h
      · exact .inl h
      · exact absurd h.symm hij
      · exact .inr (.inl h)
      · exact .inr (.inr h)

theorem FrOk.put_none {f : Fr} {a : Act} (hf : FrOk f a) {dst : Option Tmp} (h : ∀ d, dst = some d → getF f d = none) (v : Value) : FrOk f (a.put dst v) := by
  cases dst with
  | none => exact hf
  | some d =>
    refine ⟨hf.defers, by rw [put_size]; exact hf.size, fun i u hu => ?_⟩
    have hne : d ≠ i := fun e => by subst e; rw [h d rfl] at hu; cases hu
    simp only [Act.put, Array.getElem?_setIfInBounds_ne hne]
    exact hf.slot i u hu

theorem Clr.put {f : Fr} {V : List Nat} {d : Option Tmp} (h : Clr ops f V) (hd : ∀ i ∈ V, ∀ e, dstAt ops i = some e → d ≠ some e) (v : Option Value) : Clr ops (putF f d v) V := by
  cases d with
  | none => exact h
  | some d =>
    intro i hi e he
    simp only [putF, getF_setF]
    have := hd i hi e he
    rw [if_neg (fun hc => this (by rw [hc.1]))]
    exact h i hi e he

theorem Inv.world (inv : Inv S ops L0 Γ l0 U E H s ps Ts Ds f L LA A a w) : ∃ JL, Keeps L0 (jd Ds ++ L) JL := by
  obtain ⟨JL, hJL⟩ := inv.kL
  refine ⟨_, hJL.app (jd Ds) ?_⟩
  have : ∀ D : List Don, (∀ d ∈ D, shared d.J = []) → shared (jd D) = [] := by
    intro D
    induction D with
    | nil => intro _; rfl
    | cons d D ih =>
      intro h
      have : jd (d :: D) = d.J ++ jd D := by simp [jd]
      rw [this, shared_append, h d (.head _), ih fun x hx => h x (.tail _ hx)]; rfl
  exact this Ds fun d hd => (inv.dn d hd).2.1

theorem tmps_put_ne {a : Act} {d : Option Tmp} {v : Value} {x : Nat} (h : d ≠ some x) : (a.put d v).tmps[x]? = a.tmps[x]? := by
  cases d with
  | none => rfl
  | some d => simp only [Act.put]; exact Array.getElem?_setIfInBounds_ne (fun e => h (by rw [e]))

theorem inner_rems {i : Nat} (h : i ∈ inner Ts) : i ∈ rems Ts := by
  obtain ⟨x, hx, h⟩ := List.mem_flatMap.1 h
  exact mem_rems hx (Thd.hid_sub h)

/-- A thread that is told at once has come to its end. -/
theorem Inv.fin1 (st : Static ops l0 U E H) (inv : Inv S ops L0 Γ l0 U E H s ps Ts Ds f L LA A a w) {X Y : List Thd} {t : Thd} {j : Nat} {o : Oper} (hTs : Ts = X ++ t :: Y) (hr : t.rem = [j]) (hj : j ∈ Region.ready .any ops A) (ho : ops[j]? = some o)
    {v0 : Value} (hv0 : t.val = some v0) {P' J' : SH} {w' : World} (hk : Keeps L0 P' J') (hg : Good ⟨w, owned t.P⟩ P' w') : Inv S ops L0 Γ l0 U E H s ps (X ++ Y) Ds f L LA (A.setIfInBounds j true) (a.put o.dst v0) w' := by
  obtain ⟨e, hjn, hnd, hlst⟩ := inv.lst1 hTs hr
  have er : rems (X ++ Y) = rems X ++ ([] ++ rems Y) := by simp [rems]
  have ht : t ∈ Ts := by rw [hTs]; simp
  have hsub : ∀ x ∈ X ++ Y, x ∈ Ts := by
    intro x hx; rw [hTs]
    simp only [List.mem_append, List.mem_cons] at hx ⊢
    exact hx.imp id .inr
  have hin : ∀ i ∈ stepsOps s ++ inner (X ++ Y), i ∈ stepsOps s ++ inner Ts := by
    intro i hi
    simp only [List.mem_append] at hi ⊢
    rcases hi with hi | hi
    · exact .inl hi
    · obtain ⟨x, hx, hi⟩ := List.mem_flatMap.1 hi
      exact .inr (List.mem_flatMap.2 ⟨x, hsub x hx, hi⟩)
  have hputs : puts (pl ops (X ++ Y)) (a.put o.dst v0) = puts (pl ops Ts) a := by
    have h1 := puts_mid o.dst v0 (pl ops X) (pl ops Y) a (by
      intro x hx d hd
      obtain ⟨y, hy, v, hv, rfl⟩ := mem_pl hx
      have hyT : y ∈ Ts := by rw [hTs]; simp [hy]
      have hs := (inv.side st hj ho y hyT v hv d hd).2
      rcases hs with hs | hs
      · exfalso
        have : j ∈ rems Y := mem_rems hy (by rw [hs]; exact lastOf_mem (inv.th y hyT).ne)
        exact hjn (by simp [this])
      · exact hs)
    have e2 : pl ops Ts = pl ops X ++ (o.dst, v0) :: pl ops Y := by
      subst hTs
      have : Thd.put ops t = some (o.dst, v0) := by unfold Thd.put; rw [hv0]; simp only [hr, lastOf, dstAt_eq ho]
      simp only [pl, List.filterMap_append, List.filterMap_cons, this]
    have e3 : pl ops (X ++ Y) = pl ops X ++ pl ops Y := by simp [pl]
    rw [e2, e3, h1]
  obtain ⟨JL, hJL⟩ := inv.world
  have hrs : ∀ i ∈ rems (X ++ Y), i ∈ rems Ts := by
    intro i hi
    rw [e]
    rw [er] at hi
    simp only [List.mem_append, List.mem_cons] at hi ⊢
    rcases hi with h | h | h
    · exact .inl h
    · exact absurd h (by simp)
    · exact .inr (.inr (.inr h))
  refine ⟨inv.clo.set hj, inv.szL, by rw [er]; exact hlst, fun i hi => getD_set_true (inv.l0A i hi), inv.uLA, by rw [er]; exact hnd, inv.sU, fun i hi => inv.rH i (hrs i hi), inv.sH, inv.sB, fun x hx => inv.th x (hsub x hx), inv.clr.mono hin,
    fun x hx => (inv.clrT x (hsub x hx)).mono hin, by rw [hputs]; exact inv.fo, fun x hx => by rw [hputs]; exact inv.foT x (hsub x hx), fun d hd => ?_, fun i post hp => ?_, inv.kL, ?_⟩
  · obtain ⟨d1, d2, d3, d4, d5⟩ := inv.dn d hd
    refine ⟨d1, d2, d3, fun h => d4 ?_, fun x hx hlt => ?_⟩
    · simp only [List.mem_append] at h ⊢
      exact h.imp id (hrs d.i)
    · rw [hputs]; exact d5 x hx (by rw [put_size] at hlt; exact hlt)
  · rcases inv.pp i post hp with ⟨t', ht', h1, h2, h3⟩ | h
    · left
      refine ⟨t', ?_, h1, h2, h3⟩
      rw [hTs] at ht'
      simp only [List.mem_append, List.mem_cons] at ht' ⊢
      rcases ht' with h | rfl | h
      · exact .inl h
      · rw [hv0] at h1; cases h1
      · exact .inr h
    · exact .inr h
  · have h1 := inv.good
    rw [hTs] at h1
    have h2 := h1.perm (world_perm (inv.th t ht).ks hJL)
    have h3 := world_step h2 (show Good ⟨w, owned t.P⟩ P' w' from hg) (inv.th t ht).ks hk
    have h4 := h3.perm (world_perm (X := X) (Y := Y) (t := ⟨[], [], P', J', none, fun _ _ => True⟩) hk hJL).symm
    rw [js_mid] at h4
    refine h4.sub ?_
    have : js (X ++ Y) = js X ++ js Y := by simp [js]
    rw [this]
    exact ((List.Sublist.refl _).append (List.sublist_append_right _ _)).append (List.Sublist.refl _)

/-- A thread has gone on. -/
theorem Inv.fin2 (st : Static ops l0 U E H) (inv : Inv S ops L0 Γ l0 U E H s ps Ts Ds f L LA A a w) {X Y : List Thd} {t : Thd} {j k : Nat} {r : List Nat} {o : Oper} (hTs : Ts = X ++ t :: Y) (hr : t.rem = j :: k :: r) (hj : j ∈ Region.ready .any ops A) (ho : ops[j]? = some o)
    {P' J' : SH} {u : Value} {w' : World} (hk : Keeps L0 P' J') (hg : Good ⟨w, owned t.P⟩ P' w') (hev : evT S ops L0 t.post (k :: r) (putF t.f o.dst (some u)) P') :
    Inv S ops L0 Γ l0 U E H s ps (X ++ ⟨k :: r, putF t.f o.dst (some u), P', J', t.val, t.post⟩ :: Y) Ds f L LA (A.setIfInBounds j true) (a.put o.dst u) w' := by
  obtain ⟨e, hjn, hnd, hlst⟩ := inv.lst1 hTs hr
  have ht : t ∈ Ts := by rw [hTs]; simp
  have hth := inv.th t ht
  have hlast : lastOf t.rem = lastOf (k :: r) := by rw [hr]; rfl
  have hdj : dstAt ops j = o.dst := dstAt_eq ho
  generalize hT' : (⟨k :: r, putF t.f o.dst (some u), P', J', t.val, t.post⟩ : Thd) = t'
  have e1 : t'.rem = k :: r := by rw [← hT']
  have e2 : t'.val = t.val := by rw [← hT']
  have e3 : t'.f = putF t.f o.dst (some u) := by rw [← hT']
  have e4 : t'.P = P' := by rw [← hT']
  have e5 : t'.J = J' := by rw [← hT']
  have e6 : t'.post = t.post := by rw [← hT']
  have hhid : t.hid = j :: t'.hid := by
    unfold Thd.hid
    rw [e2, e1, hr]
    cases t.val <;> rfl
  have hjU : j ∈ stepsOps s ++ inner Ts := List.mem_append.2 (.inr (List.mem_flatMap.2 ⟨t, ht, by rw [hhid]; exact .head _⟩))
  have er : rems (X ++ t' :: Y) = rems X ++ ((k :: r) ++ rems Y) := by simp [rems, e1]
  have hold : ∀ x ∈ X ++ t' :: Y, x = t' ∨ x ∈ Ts := by
    intro x hx; rw [hTs]
    simp only [List.mem_append, List.mem_cons] at hx ⊢
    rcases hx with h | h | h
    · exact .inr (.inl h)
    · exact .inl h
    · exact .inr (.inr (.inr h))
  have hin : ∀ i ∈ stepsOps s ++ inner (X ++ t' :: Y), i ∈ stepsOps s ++ inner Ts ∧ i ≠ j := by
    intro i hi
    have hmem : i ∈ stepsOps s ∨ i ∈ rems (X ++ t' :: Y) := by
      simp only [List.mem_append] at hi
      exact hi.imp id inner_rems
    refine ⟨?_, fun hij => ?_⟩
    · simp only [List.mem_append] at hi ⊢
      rcases hi with hi | hi
      · exact .inl hi
      · obtain ⟨x, hx, h⟩ := List.mem_flatMap.1 hi
        rcases hold x hx with rfl | hx'
        · exact .inr (List.mem_flatMap.2 ⟨t, ht, by rw [hhid]; exact .tail _ h⟩)
        · exact .inr (List.mem_flatMap.2 ⟨x, hx', h⟩)
    · subst hij
      rcases hmem with h | h
      · have := inv.sN
        rw [e] at this
        exact (List.nodup_append.1 this).2.2 i h i (by simp) rfl
      · rw [er] at h; exact hjn h
  have hUi : ∀ i ∈ stepsOps s ++ inner Ts, i ∈ U := by
    intro i hi
    simp only [List.mem_append] at hi
    rcases hi with hi | hi
    · exact (inv.sU i hi).1
    · exact (inv.rH i (inner_rems hi)).2.1
  have hput : puts (pl ops (X ++ t' :: Y)) (a.put o.dst u) = (puts (pl ops Ts) a).put o.dst u := by
    have e7 : pl ops (X ++ t' :: Y) = pl ops Ts := by
      subst hTs
      have : Thd.put ops t' = Thd.put ops t := by unfold Thd.put; rw [e2, e1, hlast]
      simp only [pl, List.filterMap_append, List.filterMap_cons, this]
    rw [e7, puts_put]
    intro x hx d hd
    obtain ⟨y, hy, v, hv, rfl⟩ := mem_pl hx
    rcases (inv.side st hj ho y hy v hv d hd).2 with hs | hs
    · exfalso
      rw [hTs] at hy
      simp only [List.mem_append, List.mem_cons] at hy
      rcases hy with hy | rfl | hy
      · exact hjn (by simp [show j ∈ rems X from mem_rems hy (by rw [hs]; exact lastOf_mem (inv.th y (by rw [hTs]; simp [hy])).ne)])
      · have hm : j ∈ (k :: r) := by rw [hs, hlast]; exact lastOf_mem (by simp)
        exact hjn (List.mem_append.2 (.inr (List.mem_append.2 (.inl hm))))
      · exact hjn (by simp [show j ∈ rems Y from mem_rems hy (by rw [hs]; exact lastOf_mem (inv.th y (by rw [hTs]; simp [hy])).ne)])
    · exact hs
  obtain ⟨JL, hJL⟩ := inv.world
  have hrs : ∀ i ∈ rems (X ++ t' :: Y), i ∈ rems Ts := by
    intro i hi
    rw [e]
    rw [er] at hi
    simp only [List.mem_append, List.mem_cons] at hi ⊢
    rcases hi with h | h | h
    · exact .inl h
    · exact .inr (.inr (.inl h))
    · exact .inr (.inr (.inr h))
  refine ⟨inv.clo.set hj, inv.szL, by rw [er]; exact hlst, fun i hi => getD_set_true (inv.l0A i hi), inv.uLA, by rw [er]; exact hnd, inv.sU, fun i hi => inv.rH i (hrs i hi), inv.sH, inv.sB, ?_, inv.clr.mono fun i hi => (hin i hi).1, ?_, ?_, ?_, fun d hd => ?_, fun i post hp => ?_, inv.kL, ?_⟩
  · intro x hx
    rcases hold x hx with rfl | hx'
    · refine ⟨by rw [e1, e6, e3, e4]; exact hev, by rw [e2, e6]; exact hth.det, by rw [e4, e5]; exact hk, ?_, by rw [e1, e2, ← hlast]; exact hth.la⟩
      have := hth.ch
      rw [hr] at this
      simp only [chainB, Bool.and_eq_true] at this
      rw [e1]; exact this.2
    · exact inv.th x hx'
  · intro x hx
    rcases hold x hx with rfl | hx'
    · rw [e3]
      refine Clr.put ((inv.clrT t ht).mono fun i hi => (hin i hi).1) (fun i hi d hd => ?_) _
      rw [← hdj]
      intro hc
      exact st.dist j (hUi j hjU) i (hUi i (hin i hi).1) (Ne.symm (hin i hi).2) d hc hd
    · exact (inv.clrT x hx').mono fun i hi => (hin i hi).1
  · rw [hput]
    exact inv.fo.put_none (fun d hd => inv.clr j hjU d (by rw [hdj]; exact hd)) u
  · intro x hx
    rw [hput]
    rcases hold x hx with rfl | hx'
    · rw [e3]; exact (inv.foT t ht).put _ _
    · exact (inv.foT x hx').put_none (fun d hd => inv.clrT x hx' j hjU d (by rw [hdj]; exact hd)) u
  · obtain ⟨d1, d2, d3, d4, d5⟩ := inv.dn d hd
    refine ⟨d1, d2, d3, fun h => d4 ?_, fun x hx hlt => ?_⟩
    · simp only [List.mem_append] at h ⊢
      exact h.imp id (hrs d.i)
    · rw [hput, tmps_put_ne]
      · exact d5 x hx (by rw [put_size] at hlt; exact hlt)
      · intro hc
        refine st.dist d.i d3 j (hUi j hjU) (fun h => d4 ?_) x hx (by rw [hdj]; exact hc)
        rw [h, e]; simp
  · rcases inv.pp i post hp with ⟨t2, ht2, h1, h2, h3⟩ | h
    · left
      rw [hTs] at ht2
      simp only [List.mem_append, List.mem_cons] at ht2
      rcases ht2 with h | rfl | h
      · exact ⟨t2, by simp [h], h1, h2, h3⟩
      · exact ⟨t', by simp, by rw [e2]; exact h1, by rw [e1, ← hlast]; exact h2, by rw [e6]; exact h3⟩
      · exact ⟨t2, by simp [h], h1, h2, h3⟩
    · exact .inr h
  · have h1 := inv.good
    rw [hTs] at h1
    have h2 := h1.perm (world_perm hth.ks hJL)
    have h3 := world_step h2 (show Good ⟨w, owned t.P⟩ P' w' from hg) hth.ks hk
    rw [← e4] at h3
    refine h3.perm ?_
    exact (world_perm (X := X) (Y := Y) (t := t') (by rw [e4, e5]; exact hk) hJL).symm

/-- A thread that is told late has come to its end. -/
theorem Inv.fin3 (st : Static ops l0 U E H) (inv : Inv S ops L0 Γ l0 U E H s ps Ts Ds f L LA A a w) {X Y : List Thd} {t : Thd} {j : Nat} {o : Oper} (hTs : Ts = X ++ t :: Y) (hr : t.rem = [j]) (hj : j ∈ Region.ready .any ops A) (ho : ops[j]? = some o)
    (hv0 : t.val = none) {P' J' Jd : SH} {u : Value} {w' : World} (hk : Keeps L0 P' J') (hJd : List.Sublist Jd J') (hg : Good ⟨w, owned t.P⟩ P' w') (hpost : t.post u Jd) :
    Inv S ops L0 Γ l0 U E H s ps (X ++ Y) (⟨j, u, Jd, t.post⟩ :: Ds) f L LA (A.setIfInBounds j true) (a.put o.dst u) w' := by
  obtain ⟨e, hjn, hnd, hlst⟩ := inv.lst1 hTs hr
  have er : rems (X ++ Y) = rems X ++ ([] ++ rems Y) := by simp [rems]
  have ht : t ∈ Ts := by rw [hTs]; simp
  have hdj : dstAt ops j = o.dst := dstAt_eq ho
  have hsub : ∀ x ∈ X ++ Y, x ∈ Ts := by
    intro x hx; rw [hTs]
    simp only [List.mem_append, List.mem_cons] at hx ⊢
    exact hx.imp id .inr
  have hhid : t.hid = [j] := by unfold Thd.hid; rw [hv0, hr]
  have hjI : j ∈ stepsOps s ++ inner Ts := List.mem_append.2 (.inr (List.mem_flatMap.2 ⟨t, ht, by rw [hhid]; exact .head _⟩))
  have hjr : j ∈ rems Ts := by rw [e]; simp
  have hjU := (inv.rH j hjr).2.1
  have hrs : ∀ i ∈ rems (X ++ Y), i ∈ rems Ts := by
    intro i hi
    rw [e]
    rw [er] at hi
    simp only [List.mem_append, List.mem_cons] at hi ⊢
    rcases hi with h | h | h
    · exact .inl h
    · exact absurd h (by simp)
    · exact .inr (.inr (.inr h))
  have hjS : j ∉ stepsOps s := fun h => (List.nodup_append.1 inv.sN).2.2 j h j hjr rfl
  have hin : ∀ i ∈ stepsOps s ++ inner (X ++ Y), i ∈ stepsOps s ++ inner Ts := by
    intro i hi
    simp only [List.mem_append] at hi ⊢
    rcases hi with hi | hi
    · exact .inl hi
    · obtain ⟨x, hx, hi⟩ := List.mem_flatMap.1 hi
      exact .inr (List.mem_flatMap.2 ⟨x, hsub x hx, hi⟩)
  have hput : puts (pl ops (X ++ Y)) (a.put o.dst u) = (puts (pl ops Ts) a).put o.dst u := by
    have e7 : pl ops (X ++ Y) = pl ops Ts := by
      subst hTs
      have : Thd.put ops t = none := by unfold Thd.put; rw [hv0]
      simp only [pl, List.filterMap_append, List.filterMap_cons, this]
    rw [e7, puts_put]
    intro x hx d hd
    obtain ⟨y, hy, v, hv, rfl⟩ := mem_pl hx
    rcases (inv.side st hj ho y hy v hv d hd).2 with hs | hs
    · exfalso
      rw [hTs] at hy
      simp only [List.mem_append, List.mem_cons] at hy
      rcases hy with hy | rfl | hy
      · exact hjn (by simp [show j ∈ rems X from mem_rems hy (by rw [hs]; exact lastOf_mem (inv.th y (by rw [hTs]; simp [hy])).ne)])
      · rw [hv0] at hv; cases hv
      · exact hjn (by simp [show j ∈ rems Y from mem_rems hy (by rw [hs]; exact lastOf_mem (inv.th y (by rw [hTs]; simp [hy])).ne)])
    · exact hs
  obtain ⟨JL, hJL⟩ := inv.world
  have hlt : j < ops.size := (Array.getElem?_eq_some_iff.1 ho).1
  refine ⟨inv.clo.set hj, inv.szL, by rw [er]; exact hlst, fun i hi => getD_set_true (inv.l0A i hi), inv.uLA, by rw [er]; exact hnd, inv.sU, fun i hi => inv.rH i (hrs i hi), inv.sH, inv.sB, fun x hx => inv.th x (hsub x hx), inv.clr.mono hin,
    fun x hx => (inv.clrT x (hsub x hx)).mono hin, ?_, fun x hx => ?_, fun d hd => ?_, fun i post hp => ?_, inv.kL, ?_⟩
  · rw [hput]; exact inv.fo.put_none (fun d hd => inv.clr j hjI d (by rw [hdj]; exact hd)) u
  · rw [hput]; exact (inv.foT x (hsub x hx)).put_none (fun d hd => inv.clrT x (hsub x hx) j hjI d (by rw [hdj]; exact hd)) u
  · cases hd with
    | head =>
      have hsh : shared Jd = [] := by
        have := hk.sh
        have h2 : List.Sublist (shared Jd) (shared J') := flatMap_sub Item.shared hJd
        rw [this] at h2
        exact List.sublist_nil.1 h2
      refine ⟨hpost, hsh, hjU, fun h => ?_, fun x hx hlt => ?_⟩
      · simp only [List.mem_append] at h
        rcases h with h | h
        · exact hjS h
        · rw [er] at h; exact hjn h
      · rw [hput]
        have hx' : o.dst = some x := by rw [← hdj]; exact hx
        rw [hx']
        simp only [Act.put]
        rw [Array.getElem?_setIfInBounds_self, if_pos]
        rw [puts_size]
        rw [put_size] at hlt; exact hlt
    | tail _ hd =>
      obtain ⟨d1, d2, d3, d4, d5⟩ := inv.dn d hd
      refine ⟨d1, d2, d3, fun h => d4 ?_, fun x hx hlt => ?_⟩
      · simp only [List.mem_append] at h ⊢
        exact h.imp id (hrs d.i)
      · rw [hput, tmps_put_ne]
        · exact d5 x hx (by rw [put_size] at hlt; exact hlt)
        · intro hc
          refine st.dist d.i d3 j hjU (fun h => d4 ?_) x hx (by rw [hdj]; exact hc)
          rw [h]; exact List.mem_append.2 (.inr hjr)
  · rcases inv.pp i post hp with ⟨t2, ht2, h1, h2, h3⟩ | ⟨A1, d, B1, h1, h2, h3⟩
    · rw [hTs] at ht2
      simp only [List.mem_append, List.mem_cons] at ht2
      rcases ht2 with h | rfl | h
      · exact .inl ⟨t2, by simp [h], h1, h2, h3⟩
      · refine .inr ⟨[], _, Ds, rfl, ?_, h3⟩
        rw [hr] at h2; exact h2
      · exact .inl ⟨t2, by simp [h], h1, h2, h3⟩
    · exact .inr ⟨_ :: A1, d, B1, by rw [h1]; rfl, h2, h3⟩
  · have h1 := inv.good
    rw [hTs] at h1
    have h2 := h1.perm (world_perm (inv.th t ht).ks hJL)
    have h3 := world_step h2 (show Good ⟨w, owned t.P⟩ P' w' from hg) (inv.th t ht).ks hk
    have h4 := h3.perm (world_perm (X := X) (Y := Y) (t := ⟨[], [], P', J', none, fun _ _ => True⟩) hk hJL).symm
    rw [js_mid] at h4
    have h5 : Good Γ ((js X ++ (Jd ++ js Y)) ++ (jd Ds ++ L)) w' := h4.sub (((List.Sublist.refl _).append (hJd.append (List.Sublist.refl _))).append (List.Sublist.refl _))
    have e8 : js (X ++ Y) = js X ++ js Y := by simp [js]
    have e9 : jd (⟨j, u, Jd, t.post⟩ :: Ds) = Jd ++ jd Ds := by simp [jd]
    rw [e8, e9]
    refine h5.perm ?_
    simp only [List.append_assoc]
    refine List.Perm.append_left _ ?_
    have := List.perm_append_comm_assoc (js Y) Jd (jd Ds ++ L)
    exact this

theorem Inv.exec (st : Static ops l0 U E H) (inv : Inv S ops L0 Γ l0 U E H s ps Ts Ds f L LA A a w) {j : Nat} {o : Oper} (hj : j ∈ Region.ready .any ops A) (ho : ops[j]? = some o) :
    execOp (puts (pl ops Ts) a).eval o = execOp a.eval o ∧ Region.wanted o (yielded ops (puts (pl ops Ts) a).tmps) = Region.wanted o (yielded ops a.tmps) := by
  have h : ∀ x ∈ pl ops Ts, ∀ d, x.1 = some d → d ∉ o.looksAt ops := by
    intro x hx d hd
    obtain ⟨y, hy, v, hv, rfl⟩ := mem_pl hx
    exact (inv.side st hj ho y hy v hv d hd).1
  exact ⟨puts_exec o (fun cs b => st.sel j o cs b ho) _ _ h, puts_wanted o _ _ h⟩

/-- An operation comes, of which its effect on a part of the heap is known. -/
theorem Inv.op (hS : S.Ok) (st : Static ops l0 U E H) (inv : Inv S ops L0 Γ l0 U E H s ps Ts Ds f L LA A a w) {j : Nat} {o : Oper} (hj : j ∈ Region.ready .any ops A) (ho : ops[j]? = some o) {Q : Exit → Act → World → Prop} {g : Fr} {P : SH} {yes : Value → SH → Prop} {no : Prop}
    (hfr : FrOk g (puts (pl ops Ts) a)) (hP : Good ⟨w, owned P⟩ P w) (h : guardK ops o g (effK S o g P yes) no) {K : Act → World → Prop}
    (h1 : ∀ v P' w', yes v P' → Good ⟨w, owned P⟩ P' w' → K (a.put o.dst v) w') (h2 : no → K (a.put o.dst undef) w) : wpOp S.P ops Q j K a w := by
  obtain ⟨he, hw⟩ := inv.exec st hj ho
  obtain ⟨g1, g2⟩ := guardK_ok hfr h
  rw [hw] at g1 g2
  unfold wpOp
  simp only [ho]
  cases hwant : Region.wanted o (yielded ops a.tmps) with
  | true =>
    simp only [if_true]
    refine .inl ?_
    have D := effK_ok hS hfr (Γ := ⟨w, owned P⟩) (g1 hwant) w hP (fun a' w' => ∃ v, a' = (puts (pl ops Ts) a).put o.dst v ∧ ∃ P', yes v P' ∧ Good ⟨w, owned P⟩ P' w') (fun _ _ _ => False) (fun v P' w' hk hg => ⟨v, rfl, P', hk, hg⟩)
    exact Oper.wp_mono (fun a' w' ⟨v, e, P', hk, hg⟩ => by rw [e]; exact h1 v P' w' hk hg) (wp_over he (puts_size _ _) D)
  | false =>
    simp only [Bool.false_eq_true, if_false]
    exact h2 (g2 hwant)

theorem nth_of {j : Nat} {o : Oper} (ho : ops[j]? = some o) : nthL ops.toList j = some o := by rw [nthL_eq]; simpa using ho

theorem Inv.thread (hS : S.Ok) (st : Static ops l0 U E H) (inv : Inv S ops L0 Γ l0 U E H s ps Ts Ds f L LA A a w) {j : Nat} (hj : j ∈ Region.ready .any ops A) {X Y : List Thd} {t : Thd} {r : List Nat} (hTs : Ts = X ++ t :: Y) (hr : t.rem = j :: r) {Q : Exit → Act → World → Prop} {K : Act → World → Prop}
    (next1 : r = [] → ∀ Ds' a' w', Inv S ops L0 Γ l0 U E H s ps (X ++ Y) Ds' f L LA (A.setIfInBounds j true) a' w' → K a' w')
    (next2 : ∀ t' a' w', t'.rem = r → Inv S ops L0 Γ l0 U E H s ps (X ++ t' :: Y) Ds f L LA (A.setIfInBounds j true) a' w' → K a' w') : wpOp S.P ops Q j K a w := by
  obtain ⟨_, o, ho, _⟩ := mem_ready.1 hj
  have ht : t ∈ Ts := by rw [hTs]; simp
  have hth := inv.th t ht
  have hev := hth.ev
  obtain ⟨JL, hJL⟩ := inv.world
  have hP : Good ⟨w, owned t.P⟩ t.P w := by
    have h1 := inv.good
    rw [hTs] at h1
    exact (h1.perm (world_perm hth.ks hJL)).part
  rw [hr] at hev
  cases r with
  | nil =>
    simp only [evT, nth_of ho] at hev
    cases hv : t.val with
    | some v0 =>
      refine inv.op hS st hj ho (inv.foT t ht) hP hev (fun v P' w' hk hg => ?_) (fun hu => ?_)
      · obtain ⟨J', hk, hp⟩ := hk
        rw [hth.det v0 hv] at hp
        subst hp
        exact next1 rfl _ _ _ (inv.fin1 st hTs hr hj ho hv hk hg)
      · rw [hth.det v0 hv] at hu
        have := inv.fin1 st hTs hr hj ho hv hth.ks hP
        rw [← hu] at this
        exact next1 rfl _ _ _ this
    | none =>
      refine inv.op hS st hj ho (inv.foT t ht) hP hev (fun v P' w' hk hg => ?_) (fun hu => ?_)
      · obtain ⟨J', hk, hp⟩ := hk
        exact next1 rfl _ _ _ (inv.fin3 st hTs hr hj ho hv hk (List.Sublist.refl _) hg hp)
      · exact next1 rfl _ _ _ (inv.fin3 st hTs hr hj ho hv hth.ks (List.nil_sublist _) hP hu)
  | cons k r =>
    simp only [evT, nth_of ho] at hev
    refine inv.op hS st hj ho (inv.foT t ht) hP hev (fun v P' w' hk hg => ?_) (fun hu => ?_)
    · obtain ⟨J', hk, hv⟩ := hk
      rw [putK_eq] at hv
      exact next2 _ _ _ rfl (inv.fin2 st hTs hr hj ho hk hg hv)
    · rw [skipK_eq] at hu
      exact next2 _ _ _ rfl (inv.fin2 st hTs hr hj ho hth.ks hP hu)

end
end Go.Proofs.Ytloknkdomgeolaa.She
