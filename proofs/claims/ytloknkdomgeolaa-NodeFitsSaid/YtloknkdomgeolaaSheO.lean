/- Part of a small program logic: threads and steps: that every order ends as the evaluator says. -/
import Derived.Test.YtloknkdomgeolaaSheN
namespace Go.Proofs.Ytloknkdomgeolaa.She
set_option linter.all false
open Go

section
variable {S : Sig} {ops : Array Oper} {L0 : SH} {Γ : Ctx} {l0 : Array Bool} {U E H : List Nat} {s : List Step} {ps : Posts} {Ts : List Thd} {Ds : List Don} {f : Fr} {L : SH} {LA A : Array Bool} {a : Act} {w : World}

theorem setAll_size : ∀ (T : List Nat) (LA : Array Bool), (setAll T LA).size = LA.size
  | [], _ => rfl
  | i :: r, LA => by simp only [setAll]; rw [setAll_size r]; simp
theorem setAll_getD : ∀ (T : List Nat) (LA : Array Bool) (j : Nat), (∀ i ∈ T, i < LA.size) → ((setAll T LA).getD j false = true ↔ LA.getD j false = true ∨ j ∈ T)
  | [], LA, j, _ => by simp [setAll]
  | i :: r, LA, j, h => by
    simp only [setAll]
    rw [setAll_getD r (LA.setIfInBounds i true) j (fun k hk => by simpa using h k (.tail _ hk))]
    by_cases hij : i = j
    · subst hij
      have := h i (.head _)
      simp [this]
    · rw [getD_set_ne false hij]
      simp only [List.mem_cons]
      constructor
      · rintro (h | h)
        · exact .inl h
        · exact .inr (.inr h)
      · rintro (h | h | h)
        · exact .inl h
        · exact absurd h.symm hij
        · exact .inr h
theorem setAll_append : ∀ (T R : List Nat) (LA : Array Bool), setAll (T ++ R) LA = setAll R (setAll T LA)
  | [], _, _ => rfl
  | i :: r, R, LA => by simp only [List.cons_append, setAll]; exact setAll_append r R _

theorem lt_of_dst {i d : Nat} (h : dstAt ops i = some d) : i < ops.size := by
  obtain ⟨o, ho, _⟩ := dstAt_some h
  exact (Array.getElem?_eq_some_iff.1 ho).1

theorem Inv.inU (inv : Inv S ops L0 Γ l0 U E H s ps Ts Ds f L LA A a w) : ∀ i ∈ stepsOps s ++ inner Ts, i ∈ U := by
  intro i hi
  simp only [List.mem_append] at hi
  rcases hi with hi | hi
  · exact (inv.sU i hi).1
  · exact (inv.rH i (inner_rems hi)).2.1

/-- A step that stands alone has come. -/
theorem Inv.effs (st : Static ops l0 U E H) {i : Nat} (inv : Inv S ops L0 Γ l0 U E H (.eff i :: s) ps Ts Ds f L LA A a w) {o : Oper} (hj : i ∈ Region.ready .any ops A) (ho : ops[i]? = some o)
    {L' JL' : SH} {v : Value} {w' : World} (hk : Keeps L0 L' JL') (hg : Good ⟨w, owned L⟩ L' w') : Inv S ops L0 Γ l0 U E H s ps Ts Ds (putF f o.dst (some v)) L' (LA.setIfInBounds i true) (A.setIfInBounds i true) (a.put o.dst v) w' := by
  have hlt : i < ops.size := (Array.getElem?_eq_some_iff.1 ho).1
  have hn := inv.sN
  have hn1 := List.nodup_cons.1 (show (i :: (stepsOps s ++ rems Ts)).Nodup from hn)
  have hiS : i ∈ stepsOps (.eff i :: s) := .head _
  have hsub : ∀ k ∈ stepsOps s, k ∈ stepsOps (.eff i :: s) := fun k hk => .tail _ hk
  have hdi : dstAt ops i = o.dst := dstAt_eq ho
  have hne : ∀ k ∈ stepsOps s ++ inner Ts, k ≠ i := by
    rintro k hk rfl
    refine hn1.1 ?_
    simp only [List.mem_append] at hk ⊢
    exact hk.imp id inner_rems
  have hmono : ∀ k ∈ stepsOps s ++ inner Ts, k ∈ stepsOps (.eff i :: s) ++ inner Ts := fun k hk => .tail _ hk
  have hiI : i ∈ stepsOps (.eff i :: s) ++ inner Ts := .head _
  have hputs : puts (pl ops Ts) (a.put o.dst v) = (puts (pl ops Ts) a).put o.dst v := by
    rw [puts_put]
    intro x hx d hd
    obtain ⟨y, hy, v, hv, rfl⟩ := mem_pl hx
    rcases (inv.side st hj ho y hy v hv d hd).2 with hs | hs
    · exfalso
      refine hn1.1 (List.mem_append.2 (.inr ?_))
      have := mem_rems hy (lastOf_mem (inv.th y hy).ne)
      rw [← hs] at this
      exact this
    · exact hs
  have hB : stepsB ops s (LA.setIfInBounds i true) = true := by
    have := inv.sB
    simp only [stepsB, Bool.and_eq_true] at this
    exact this.2
  obtain ⟨JL, hJL⟩ := inv.kL
  refine ⟨inv.clo.set hj, by simpa using inv.szL, fun j => ?_, fun j hj' => getD_set_true (inv.l0A j hj'), fun j hj' => ?_, hn1.2, fun j hj' => ?_, fun j hj' => ?_, inv.sH, hB, inv.th, ?_,
    fun t ht => (inv.clrT t ht).mono hmono, ?_, fun t ht => ?_, fun d hd => ?_, inv.pp, ⟨JL', hk⟩, ?_⟩
  · by_cases hij : i = j
    · subst hij
      have h1 : i < A.size := by rw [inv.clo.1]; exact hlt
      have h2 : i < LA.size := by rw [inv.szL]; exact hlt
      have h3 : i ∉ rems Ts := fun h => hn1.1 (List.mem_append.2 (.inr h))
      simp [h1, h2, h3]
    · rw [getD_set_ne false hij, getD_set_ne false hij]; exact inv.lst j
  · rcases inv.uLA j hj' with h | h
    · exact .inl (getD_set_true h)
    · cases h with
      | head => left; have h2 : i < LA.size := by rw [inv.szL]; exact hlt
                simp [h2]
      | tail _ h => exact .inr h
  · have := inv.sU j (hsub j hj')
    refine ⟨this.1, ?_⟩
    rw [getD_set_ne false (fun e => hne j (List.mem_append.2 (.inl hj')) e.symm)]
    exact this.2
  · have := inv.rH j hj'
    exact ⟨this.1, this.2.1, getD_set_true this.2.2⟩
  · refine Clr.put (inv.clr.mono hmono) (fun k hk d hd => ?_) _
    rw [← hdi]
    intro hc
    exact st.dist i (inv.inU i hiI) k (inv.inU k (hmono k hk)) (Ne.symm (hne k hk)) d hc hd
  · rw [hputs]; exact inv.fo.put _ _
  · rw [hputs]
    exact (inv.foT t ht).put_none (fun d hd => inv.clrT t ht i hiI d (by rw [hdi]; exact hd)) v
  · obtain ⟨d1, d2, d3, d4, d5⟩ := inv.dn d hd
    refine ⟨d1, d2, d3, fun h => d4 (.tail _ h), fun x hx hlt => ?_⟩
    rw [hputs, tmps_put_ne]
    · exact d5 x hx (by rw [put_size] at hlt; exact hlt)
    · intro hc
      exact st.dist d.i d3 i (inv.inU i hiI) (fun h => d4 (by rw [h]; exact .head _)) x hx (by rw [hdi]; exact hc)
  · have e0 : List.Perm (L ++ (js Ts ++ jd Ds)) (js Ts ++ (jd Ds ++ L)) := by
      have := List.perm_append_comm (l₁ := L) (l₂ := js Ts ++ jd Ds)
      simpa only [List.append_assoc] using this
    have e1 : List.Perm (js Ts ++ (jd Ds ++ L')) (L' ++ (js Ts ++ jd Ds)) := by
      have := List.perm_append_comm (l₁ := js Ts ++ jd Ds) (l₂ := L')
      simpa only [List.append_assoc] using this
    have h1 := inv.good.perm e0
    have h2 := h1.frame (show Good ⟨w, owned L⟩ L' w' from hg) (fun b hb ho' => by
      have hb' : b ∈ shared L := (hJL.shared b).2 ((hk.shared b).1 hb)
      exact h1.apart b (by rw [shared_append]; exact List.mem_append.2 (.inl hb')) (by rw [owned_append]; exact List.mem_append.2 (.inr ho')))
    exact h2.perm e1

/-- A thread begins. -/
theorem Inv.push (st : Static ops l0 U E H) {T : List Nat} (inv : Inv S ops L0 Γ l0 U E H (.push T :: s) ps Ts Ds f L LA A a w) {val : Value} (hev : evT S ops L0 (fun v _ => v = val) T f L0) :
    Inv S ops L0 Γ l0 U E H s ps (Ts ++ [⟨T, f, L0, [], some val, fun v _ => v = val⟩]) Ds (putF f (dstAt ops (lastOf T)) (some val)) L (setAll T LA) A a w := by
  have hne : T ≠ [] := fun h => by rw [h] at hev; exact hev
  have hlastT := lastOf_mem hne
  have hB := inv.sB
  simp only [stepsB, Bool.and_eq_true] at hB
  have hn := inv.sN
  have hnT : (T ++ (stepsOps s ++ rems Ts)).Nodup := by
    have : stepsOps (.push T :: s) ++ rems Ts = T ++ (stepsOps s ++ rems Ts) := by simp [stepsOps]
    rw [this] at hn
    exact hn
  obtain ⟨m1, m2, m3⟩ := List.nodup_append.1 hnT
  have hT : ∀ i ∈ T, i ∈ stepsOps (.push T :: s) := fun i hi => List.mem_append.2 (.inl hi)
  have hS' : ∀ i ∈ stepsOps s, i ∈ stepsOps (.push T :: s) := fun i hi => List.mem_append.2 (.inr hi)
  have hlt : ∀ i ∈ T, i < LA.size := fun i hi => by rw [inv.szL]; exact (st.uL i (inv.sU i (hT i hi)).1).1
  generalize hT' : (⟨T, f, L0, [], some val, fun v _ => v = val⟩ : Thd) = t'
  have e1 : t'.rem = T := by rw [← hT']
  have e2 : t'.val = some val := by rw [← hT']
  have e6 : t'.post = fun v _ => v = val := by rw [← hT']
  have e3 : t'.f = f := by rw [← hT']
  have e4 : t'.P = L0 := by rw [← hT']
  have e5 : t'.J = [] := by rw [← hT']
  have er : rems (Ts ++ [t']) = rems Ts ++ T := by simp [rems, e1]
  have ei : inner (Ts ++ [t']) = inner Ts ++ initOf T := by
    have : t'.hid = initOf T := by unfold Thd.hid; rw [e2, e1]
    simp [inner, this]
  have hin : ∀ i ∈ stepsOps s ++ inner (Ts ++ [t']), i ∈ stepsOps (.push T :: s) ++ inner Ts ∧ i ≠ lastOf T := by
    intro i hi
    rw [ei] at hi
    simp only [List.mem_append] at hi
    rcases hi with hi | hi | hi
    · exact ⟨List.mem_append.2 (.inl (hS' i hi)), fun h => m3 _ hlastT i (by simp [hi]) h.symm⟩
    · exact ⟨List.mem_append.2 (.inr hi), fun h => m3 _ hlastT i (by simp [inner_rems hi]) h.symm⟩
    · exact ⟨List.mem_append.2 (.inl (hT i (initOf_sub hi))), fun h => by subst h; exact lastOf_not_init m1 hi⟩
  have hlI : lastOf T ∈ stepsOps (.push T :: s) ++ inner Ts := List.mem_append.2 (.inl (hT _ hlastT))
  have hputs : puts (pl ops (Ts ++ [t'])) a = (puts (pl ops Ts) a).put (dstAt ops (lastOf T)) val := by
    have : pl ops (Ts ++ [t']) = pl ops Ts ++ (dstAt ops (lastOf T), val) :: [] := by
      have : Thd.put ops t' = some (dstAt ops (lastOf T), val) := by unfold Thd.put; rw [e2, e1]
      simp [pl, this]
    rw [this, puts_mid _ _ _ [] a (fun x hx => by cases hx), List.append_nil, puts_put]
    intro x hx d hd
    obtain ⟨y, hy, v, hv, rfl⟩ := mem_pl hx
    intro hc
    have hym := mem_rems hy (lastOf_mem (inv.th y hy).ne)
    exact st.dist _ (inv.rH _ hym).2.1 _ (inv.inU _ hlI) (fun h => m3 _ hlastT _ (by simp [hym]) h.symm) d hd hc
  refine ⟨inv.clo, by rw [setAll_size]; exact inv.szL, fun j => ?_, inv.l0A, fun j hj => ?_, ?_, fun j hj => ?_, fun j hj => ?_, ⟨fun j hj => inv.sH.1 j (List.mem_append.2 (.inr hj)), fun j hj => inv.sH.2 j (.tail _ hj)⟩, hB.2,
    fun t ht => ?_, ?_, fun t ht => ?_, ?_, fun t ht => ?_, fun d hd => ?_, fun i post hp => ?_, inv.kL, ?_⟩
  · rw [inv.lst j, setAll_getD T LA j hlt, er]
    simp only [List.mem_append, not_or]
    constructor
    · rintro ⟨h1, h2⟩
      exact ⟨.inl h1, h2, fun h => by have := (inv.sU j (hT j h)).2; rw [h1] at this; cases this⟩
    · rintro ⟨h1 | h1, h2, h3⟩
      · exact ⟨h1, h2⟩
      · exact absurd h1 h3
  · rw [setAll_getD T LA j hlt]
    rcases inv.uLA j hj with h | h
    · exact .inl (.inl h)
    · rcases List.mem_append.1 h with h | h
      · exact .inl (.inr h)
      · exact .inr h
  · rw [er]
    have hp : List.Perm (stepsOps s ++ (rems Ts ++ T)) (T ++ (stepsOps s ++ rems Ts)) := by
      rw [← List.append_assoc]; exact List.perm_append_comm
    exact hp.nodup_iff.2 hnT
  · have := inv.sU j (hS' j hj)
    refine ⟨this.1, ?_⟩
    cases h : (setAll T LA).getD j false with
    | false => rfl
    | true =>
      rcases (setAll_getD T LA j hlt).1 h with h | h
      · rw [this.2] at h; cases h
      · exact absurd rfl (m3 j h j (by simp [hj]))
  · rw [er] at hj
    rw [setAll_getD T LA j hlt]
    rcases List.mem_append.1 hj with h | h
    · have := inv.rH j h; exact ⟨this.1, this.2.1, .inl this.2.2⟩
    · exact ⟨inv.sH.1 j (List.mem_append.2 (.inl h)), (inv.sU j (hT j h)).1, .inr h⟩
  · rcases List.mem_append.1 ht with h | h
    · exact inv.th t h
    · have : t = t' := by simpa using h
      subst this
      exact ⟨by rw [e1, e6, e3, e4]; exact hev, fun v0 h0 => by rw [e2] at h0; cases h0; exact e6, by rw [e4, e5]; exact Keeps.refl L0, by rw [e1]; exact hB.1.2, fun _ _ => by rw [e1]; exact inv.sH.2 _ (.head _)⟩
  · refine Clr.put (inv.clr.mono fun i hi => (hin i hi).1) (fun i hi d hd hc => ?_) _
    exact st.dist _ (inv.inU _ hlI) i (inv.inU i (hin i hi).1) (Ne.symm (hin i hi).2) d hc hd
  · rcases List.mem_append.1 ht with h | h
    · exact (inv.clrT t h).mono fun i hi => (hin i hi).1
    · have : t = t' := by simpa using h
      subst this
      rw [e3]; exact inv.clr.mono fun i hi => (hin i hi).1
  · rw [hputs]; exact inv.fo.put _ _
  · rw [hputs]
    rcases List.mem_append.1 ht with h | h
    · exact (inv.foT t h).put_none (fun d hd => inv.clrT t h _ hlI d hd) val
    · have : t = t' := by simpa using h
      subst this
      rw [e3]; exact inv.fo.put_none (fun d hd => inv.clr _ hlI d hd) val
  · obtain ⟨d1, d2, d3, d4, d5⟩ := inv.dn d hd
    refine ⟨d1, d2, d3, fun h => d4 ?_, fun x hx hlt2 => ?_⟩
    · rw [er] at h
      simp only [List.mem_append] at h ⊢
      rcases h with h | h | h
      · exact .inl (hS' _ h)
      · exact .inr h
      · exact .inl (hT _ h)
    · rw [hputs, tmps_put_ne]
      · exact d5 x hx hlt2
      · intro hc
        exact st.dist d.i d3 _ (inv.inU _ hlI) (fun h => d4 (List.mem_append.2 (.inl (by rw [h]; exact hT _ hlastT)))) x hx hc
  · rcases inv.pp i post hp with ⟨t2, ht2, h⟩ | h
    · exact .inl ⟨t2, List.mem_append.2 (.inl ht2), h⟩
    · exact .inr h
  · have : js (Ts ++ [t']) = js Ts := by simp [js, e5]
    rw [this]; exact inv.good

/-- A thread begins that will be told late. -/
theorem Inv.late (st : Static ops l0 U E H) {T : List Nat} (inv : Inv S ops L0 Γ l0 U E H (.late T :: s) ps Ts Ds f L LA A a w) {post : Value → SH → Prop} (hev : evT S ops L0 post T f L0) :
    Inv S ops L0 Γ l0 U E H s ((lastOf T, post) :: ps) (Ts ++ [⟨T, f, L0, [], none, post⟩]) Ds f L (setAll T LA) A a w := by
  have hB := inv.sB
  simp only [stepsB, Bool.and_eq_true] at hB
  have hn := inv.sN
  have hnT : (T ++ (stepsOps s ++ rems Ts)).Nodup := by
    have : stepsOps (.late T :: s) ++ rems Ts = T ++ (stepsOps s ++ rems Ts) := by simp [stepsOps]
    rw [this] at hn
    exact hn
  obtain ⟨m1, m2, m3⟩ := List.nodup_append.1 hnT
  have hT : ∀ i ∈ T, i ∈ stepsOps (.late T :: s) := fun i hi => List.mem_append.2 (.inl hi)
  have hS' : ∀ i ∈ stepsOps s, i ∈ stepsOps (.late T :: s) := fun i hi => List.mem_append.2 (.inr hi)
  have hlt : ∀ i ∈ T, i < LA.size := fun i hi => by rw [inv.szL]; exact (st.uL i (inv.sU i (hT i hi)).1).1
  generalize hT' : (⟨T, f, L0, [], none, post⟩ : Thd) = t'
  have e1 : t'.rem = T := by rw [← hT']
  have e2 : t'.val = none := by rw [← hT']
  have e6 : t'.post = post := by rw [← hT']
  have e3 : t'.f = f := by rw [← hT']
  have e4 : t'.P = L0 := by rw [← hT']
  have e5 : t'.J = [] := by rw [← hT']
  have er : rems (Ts ++ [t']) = rems Ts ++ T := by simp [rems, e1]
  have ei : inner (Ts ++ [t']) = inner Ts ++ T := by
    have : t'.hid = T := by unfold Thd.hid; rw [e2, e1]
    simp [inner, this]
  have hin : ∀ i ∈ stepsOps s ++ inner (Ts ++ [t']), i ∈ stepsOps (.late T :: s) ++ inner Ts := by
    intro i hi
    rw [ei] at hi
    simp only [List.mem_append] at hi
    rcases hi with hi | hi | hi
    · exact List.mem_append.2 (.inl (hS' i hi))
    · exact List.mem_append.2 (.inr hi)
    · exact List.mem_append.2 (.inl (hT i hi))
  have hputs : pl ops (Ts ++ [t']) = pl ops Ts := by
    have : Thd.put ops t' = none := by unfold Thd.put; rw [e2]
    simp [pl, this]
  refine ⟨inv.clo, by rw [setAll_size]; exact inv.szL, fun j => ?_, inv.l0A, fun j hj => ?_, ?_, fun j hj => ?_, fun j hj => ?_, ⟨fun j hj => inv.sH.1 j (List.mem_append.2 (.inr hj)), inv.sH.2⟩, hB.2,
    fun t ht => ?_, inv.clr.mono hin, fun t ht => ?_, by rw [hputs]; exact inv.fo, fun t ht => ?_, fun d hd => ?_, fun i post' hp => ?_, inv.kL, ?_⟩
  · rw [inv.lst j, setAll_getD T LA j hlt, er]
    simp only [List.mem_append, not_or]
    constructor
    · rintro ⟨h1, h2⟩
      exact ⟨.inl h1, h2, fun h => by have := (inv.sU j (hT j h)).2; rw [h1] at this; cases this⟩
    · rintro ⟨h1 | h1, h2, h3⟩
      · exact ⟨h1, h2⟩
      · exact absurd h1 h3
  · rw [setAll_getD T LA j hlt]
    rcases inv.uLA j hj with h | h
    · exact .inl (.inl h)
    · rcases List.mem_append.1 h with h | h
      · exact .inl (.inr h)
      · exact .inr h
  · rw [er]
    have hp : List.Perm (stepsOps s ++ (rems Ts ++ T)) (T ++ (stepsOps s ++ rems Ts)) := by
      rw [← List.append_assoc]; exact List.perm_append_comm
    exact hp.nodup_iff.2 hnT
  · have := inv.sU j (hS' j hj)
    refine ⟨this.1, ?_⟩
    cases h : (setAll T LA).getD j false with
    | false => rfl
    | true =>
      rcases (setAll_getD T LA j hlt).1 h with h | h
      · rw [this.2] at h; cases h
      · exact absurd rfl (m3 j h j (by simp [hj]))
  · rw [er] at hj
    rw [setAll_getD T LA j hlt]
    rcases List.mem_append.1 hj with h | h
    · have := inv.rH j h; exact ⟨this.1, this.2.1, .inl this.2.2⟩
    · exact ⟨inv.sH.1 j (List.mem_append.2 (.inl h)), (inv.sU j (hT j h)).1, .inr h⟩
  · rcases List.mem_append.1 ht with h | h
    · exact inv.th t h
    · have : t = t' := by simpa using h
      subst this
      exact ⟨by rw [e1, e6, e3, e4]; exact hev, fun v0 h0 => by rw [e2] at h0; (cases h0), by rw [e4, e5]; exact Keeps.refl L0, by rw [e1]; exact hB.1.2, fun v0 h0 => by rw [e2] at h0; (cases h0)⟩
  · rcases List.mem_append.1 ht with h | h
    · exact (inv.clrT t h).mono hin
    · have : t = t' := by simpa using h
      subst this
      rw [e3]; exact inv.clr.mono hin
  · rw [hputs]
    rcases List.mem_append.1 ht with h | h
    · exact inv.foT t h
    · have : t = t' := by simpa using h
      subst this
      rw [e3]; exact inv.fo
  · obtain ⟨d1, d2, d3, d4, d5⟩ := inv.dn d hd
    refine ⟨d1, d2, d3, fun h => d4 ?_, fun x hx hlt2 => ?_⟩
    · rw [er] at h
      simp only [List.mem_append] at h ⊢
      rcases h with h | h | h
      · exact .inl (hS' _ h)
      · exact .inr h
      · exact .inl (hT _ h)
    · rw [hputs]; exact d5 x hx hlt2
  · simp only [lookP] at hp
    split at hp
    · rename_i hb
      have := Nat.eq_of_beq_eq_true hb
      cases hp
      exact .inl ⟨t', by simp, e2, by rw [e1, this], e6⟩
    · rcases inv.pp i post' hp with ⟨t2, ht2, h⟩ | h
      · exact .inl ⟨t2, List.mem_append.2 (.inl ht2), h⟩
      · exact .inr h
  · have : js (Ts ++ [t']) = js Ts := by simp [js, e5]
    rw [this]; exact inv.good

theorem FrOk.set {f : Fr} {a : Act} (hf : FrOk f a) {d : Option Tmp} {v : Value} (h : ∀ x, d = some x → x < a.tmps.size → a.tmps[x]? = some v) : FrOk (putF f d (some v)) a := by
  cases d with
  | none => exact hf
  | some x =>
    refine ⟨hf.defers, by simp only [putF, setF_length]; exact hf.size, fun i u hu => ?_⟩
    simp only [putF, getF_setF] at hu
    split at hu
    · rename_i hc
      cases hu
      rw [hc.1]
      exact h x rfl (by rw [← hf.size]; exact hc.2)
    · exact hf.slot i u hu

/-- A thread's answer is asked for. -/
theorem Inv.pull (st : Static ops l0 U E H) {i : Nat} (inv : Inv S ops L0 Γ l0 U E H (.pull i :: s) ps Ts Ds f L LA A a w) {X Y : List Don} {d : Don} (hDs : Ds = X ++ d :: Y) (hi : d.i = i) :
    Inv S ops L0 Γ l0 U E H s (dropP ps i) Ts (X ++ Y) (putF f (dstAt ops i) (some d.v)) (d.J ++ L) LA A a w := by
  have hB := inv.sB
  simp only [stepsB, Bool.and_eq_true] at hB
  have hd : d ∈ Ds := by rw [hDs]; simp
  have hsub : ∀ x ∈ X ++ Y, x ∈ Ds := by
    intro x hx; rw [hDs]
    simp only [List.mem_append, List.mem_cons] at hx ⊢
    exact hx.imp id .inr
  obtain ⟨d1, d2, d3, d4, d5⟩ := inv.dn d hd
  have d4' : d.i ∉ stepsOps s ++ rems Ts := d4
  obtain ⟨JL, hJL⟩ := inv.kL
  refine ⟨inv.clo, inv.szL, inv.lst, inv.l0A, inv.uLA, inv.sN, inv.sU, inv.rH, inv.sH, hB.2, inv.th, ?_, inv.clrT, inv.fo.set (fun x hx hlt => d5 x (by rw [hi]; exact hx) (by rw [puts_size] at hlt; exact hlt)), inv.foT, fun y hy => inv.dn y (hsub y hy), fun k post hp => ?_, ⟨_, hJL.app d.J d2⟩, ?_⟩
  · refine Clr.put (show Clr ops f (stepsOps s ++ inner Ts) from inv.clr) (fun k hk e he hc => ?_) _
    rw [← hi] at hc
    refine st.dist d.i d3 k (inv.inU k hk) (fun h => d4' ?_) e hc he
    rw [h]
    simp only [List.mem_append] at hk ⊢
    exact hk.imp id inner_rems
  · rw [lookP_dropP] at hp
    split at hp
    · cases hp
    · rename_i hki
      rcases inv.pp k post hp with h | ⟨A1, d', B1, h1, h2, h3⟩
      · exact .inl h
      · right
        have hm : d' ∈ X ++ d :: Y := by rw [← hDs, h1]; simp
        have hm2 : d' ∈ X ++ Y := by
          simp only [List.mem_append, List.mem_cons] at hm ⊢
          rcases hm with h | rfl | h
          · exact .inl h
          · exact absurd (h2.symm.trans hi) hki
          · exact .inr h
        obtain ⟨A2, B2, h4⟩ := List.append_of_mem hm2
        exact ⟨A2, d', B2, h4, h2, h3⟩
  · have h1 := inv.good
    rw [hDs] at h1
    refine h1.perm ?_
    have e1 : jd (X ++ d :: Y) = jd X ++ (d.J ++ jd Y) := by simp [jd]
    have e2 : jd (X ++ Y) = jd X ++ jd Y := by simp [jd]
    rw [e1, e2]
    refine List.Perm.append_left _ ?_
    simp only [List.append_assoc]
    exact List.Perm.append_left _ (List.perm_append_comm_assoc (jd Y) d.J L)

def wt : List Step → Nat
  | [] => 0
  | .push T :: s => T.length + 1 + wt s
  | .eff _ :: s => 1 + wt s
  | .late T :: s => T.length + 1 + wt s
  | .pull _ :: s => 1 + wt s

theorem rems_mid {X Y : List Thd} {t : Thd} : (rems (X ++ t :: Y)).length = (rems X).length + t.rem.length + (rems Y).length := by simp [rems]; omega
theorem rems_two {X Y : List Thd} : (rems (X ++ Y)).length = (rems X).length + (rems Y).length := by simp [rems]

theorem Inv.un (inv : Inv S ops L0 Γ l0 U E H s ps Ts Ds f L LA A a w) {i : Nat} (hi : i ∈ rems Ts) : A.getD i false = false := by
  cases hA : A.getD i false with
  | false => rfl
  | true => exact absurd hi ((inv.lst i).1 hA).2

theorem evA_ok (hS : S.Ok) (st : Static ops l0 U E H) {Q : Exit → Act → World → Prop} {K : Fr → SH → Prop} {rest : Nat} {LF : Array Bool} (hK : Closed ops LF → ∀ f L a w, K f L → FrOk f a → Good Γ L w → wpAny S.P .any ops Q rest LF a w) :
    ∀ (m : Nat) (s : List Step) (ps : Posts) (Ts : List Thd) (Ds : List Don) (f : Fr) (L : SH) (LA A : Array Bool) (a : Act) (w : World), wt s + (rems Ts).length = m → setAll (stepsOps s) LA = LF → Inv S ops L0 Γ l0 U E H s ps Ts Ds f L LA A a w →
      evA S ops L0 s ps f L K → wpAny S.P .any ops Q ((rems Ts).length + (stepsOps s).length + rest) A a w := by
  intro m
  induction m using Nat.strongRecOn with
  | _ m ih =>
    intro s ps Ts Ds f L LA A a w hm hLF inv h
    have threads : ∀ (j : Nat) (n : Nat), (rems Ts).length + (stepsOps s).length + rest = n + 1 → j ∈ Region.ready .any ops A → (∃ X t Y r, Ts = X ++ t :: Y ∧ t.rem = j :: r) → wpOp S.P ops Q j (wpAny S.P .any ops Q n (A.setIfInBounds j true)) a w := by
      rintro j n hn hj ⟨X, t, Y, r, hTs, hr⟩
      have hlen : (rems Ts).length = (rems X).length + (r.length + 1) + (rems Y).length := by rw [hTs, rems_mid, hr]; simp
      refine inv.thread hS st hj hTs hr (fun hr0 Ds' a' w' inv' => ?_) (fun t' a' w' hr' inv' => ?_)
      · subst hr0
        have hl2 := rems_two (X := X) (Y := Y)
        simp only [List.length_nil] at hlen
        have := ih (wt s + (rems (X ++ Y)).length) (by omega) s ps (X ++ Y) Ds' f L LA _ a' w' rfl hLF inv' h
        rw [show (rems (X ++ Y)).length + (stepsOps s).length + rest = n by omega] at this
        exact this
      · have hl2 := rems_mid (X := X) (Y := Y) (t := t')
        rw [hr'] at hl2
        have := ih (wt s + (rems (X ++ t' :: Y)).length) (by omega) s ps (X ++ t' :: Y) Ds f L LA _ a' w' rfl hLF inv' h
        rw [show (rems (X ++ t' :: Y)).length + (stepsOps s).length + rest = n by omega] at this
        exact this
    match s, h, inv, hLF, hm, threads with
    | .push T :: s, h, inv, hLF, hm, _ =>
      obtain ⟨val, hv, hk⟩ := h
      rw [putK_eq] at hk
      have inv' := inv.push st hv
      have hl : (rems (Ts ++ [⟨T, f, L0, [], some val, fun v _ => v = val⟩])).length = (rems Ts).length + T.length := by simp [rems]
      simp only [stepsOps] at hLF
      rw [setAll_append] at hLF
      simp only [wt] at hm
      have := ih (wt s + (rems (Ts ++ [⟨T, f, L0, [], some val, fun v _ => v = val⟩])).length) (by omega) s _ _ _ _ _ _ _ a w rfl hLF inv' hk
      rw [show (rems (Ts ++ [⟨T, f, L0, [], some val, fun v _ => v = val⟩])).length + (stepsOps s).length + rest = (rems Ts).length + (stepsOps (.push T :: s)).length + rest by rw [hl]; simp [stepsOps]; omega] at this
      exact this
    | .late T :: s, h, inv, hLF, hm, _ =>
      obtain ⟨post, hv, hk⟩ := h
      have inv' := inv.late st hv
      have hl : (rems (Ts ++ [⟨T, f, L0, [], none, post⟩])).length = (rems Ts).length + T.length := by simp [rems]
      simp only [stepsOps] at hLF
      rw [setAll_append] at hLF
      simp only [wt] at hm
      have := ih (wt s + (rems (Ts ++ [⟨T, f, L0, [], none, post⟩])).length) (by omega) s _ _ _ _ _ _ _ a w rfl hLF inv' hk
      rw [show (rems (Ts ++ [⟨T, f, L0, [], none, post⟩])).length + (stepsOps s).length + rest = (rems Ts).length + (stepsOps (.late T :: s)).length + rest by rw [hl]; simp [stepsOps]; omega] at this
      exact this
    | .pull i :: s, h, inv, hLF, hm, threads =>
      simp only [evA] at h
      split at h
      case h_2 => exact h.elim
      case h_1 post hpost =>
        rcases inv.pp i post hpost with ⟨t, ht, h1, h2, h3⟩ | ⟨X, d, Y, h1, h2, h3⟩
        · have hr0 : i ∈ rems Ts := by rw [← h2]; exact mem_rems ht (lastOf_mem (inv.th t ht).ne)
          have hpos : 0 < (rems Ts).length := List.length_pos_of_mem hr0
          obtain ⟨n, hn⟩ : ∃ n, (rems Ts).length + (stepsOps (.pull i :: s)).length + rest = n + 1 := ⟨(rems Ts).length - 1 + (stepsOps (.pull i :: s)).length + rest, by omega⟩
          rw [hn]
          refine ⟨fun h0 => absurd h0 (ready_ne st.down inv.clo.1 i (st.uL i (inv.rH i hr0).2.1).1 (inv.un hr0)), fun j hj => ?_⟩
          rcases inv.cases hj with hc | ⟨hc1, hc2⟩
          · exact threads j n hn hj hc
          · exfalso
            obtain ⟨hun, o, ho, _⟩ := mem_ready.1 hj
            have hB := inv.sB
            simp only [stepsB, Bool.and_eq_true] at hB
            have := List.all_eq_true.1 hB.1 j (List.mem_range.2 (Array.getElem?_eq_some_iff.1 ho).1)
            rw [hc1, Bool.false_or] at this
            have := anc_listed inv.clo ops.size j this (deps_of hj)
            rw [inv.un hr0] at this
            cases this
        · have inv' := inv.pull st h1 h2
          have hk := h d.v d.J (by rw [← h3]; exact (inv.dn d (by rw [h1]; simp)).1)
          rw [putK_eq, appK_eq] at hk
          simp only [wt] at hm
          exact ih (wt s + (rems Ts).length) (by omega) s _ Ts _ _ _ LA A a w rfl hLF inv' hk
    | .eff i :: s, h, inv, hLF, hm, threads =>
      obtain ⟨n, hn⟩ : ∃ n, (rems Ts).length + (stepsOps (.eff i :: s)).length + rest = n + 1 := ⟨(rems Ts).length + (stepsOps s).length + rest, by simp [stepsOps]; omega⟩
      rw [hn]
      have hrd : Region.ready .any ops LA = [i] := by
        have := inv.sB
        simp only [stepsB, Bool.and_eq_true, decide_eq_true_eq] at this
        exact this.1
      have hiU := (inv.sU i (.head _))
      have hilt := (st.uL i hiU.1).1
      have hiA : A.getD i false = false := by
        cases hA : A.getD i false with
        | false => rfl
        | true => have := ((inv.lst i).1 hA).1; rw [hiU.2] at this; cases this
      refine ⟨fun h0 => absurd h0 (ready_ne st.down inv.clo.1 i hilt hiA), fun j hj => ?_⟩
      rcases inv.cases hj with hc | ⟨hc1, hc2⟩
      · exact threads j n hn hj hc
      · rw [hrd] at hc2
        have hji : j = i := by simpa using hc2
        subst hji
        obtain ⟨_, o, ho, _⟩ := mem_ready.1 hj
        simp only [evA, nth_of ho] at h
        obtain ⟨JL, hJL⟩ := inv.kL
        have hP : Good ⟨w, owned L⟩ L w := by
          have e0 : List.Perm (L ++ (js Ts ++ jd Ds)) (js Ts ++ (jd Ds ++ L)) := by
            have := List.perm_append_comm (l₁ := L) (l₂ := js Ts ++ jd Ds)
            simpa only [List.append_assoc] using this
          exact (inv.good.perm e0).part
        simp only [wt] at hm
        simp only [stepsOps, setAll] at hLF
        have fin : ∀ v L' JL' w', Keeps L0 L' JL' → Good ⟨w, owned L⟩ L' w' → evA S ops L0 s ps (putF f o.dst (some v)) L' K → wpAny S.P .any ops Q n (A.setIfInBounds j true) (a.put o.dst v) w' := by
          intro v L' JL' w' hk hg hv
          have inv' := inv.effs st (v := v) hj ho hk hg
          have := ih (wt s + (rems Ts).length) (by omega) s _ _ _ _ _ _ _ _ _ rfl hLF inv' hv
          rw [show (rems Ts).length + (stepsOps s).length + rest = n by simp [stepsOps] at hn; omega] at this
          exact this
        refine inv.op hS st hj ho inv.fo hP h (fun v L' w' hk hg => ?_) (fun hu => ?_)
        · obtain ⟨JL', hk, hv⟩ := hk
          rw [putK_eq] at hv
          exact fin v L' JL' w' hk hg hv
        · rw [skipK_eq] at hu
          exact fin undef L JL w hJL hP hu
    | [], h, inv, hLF, hm, threads =>
      match Ts, inv, hm, threads with
      | [], inv, hm, _ =>
        have hAL : A = LF := by
          simp only [stepsOps, setAll] at hLF
          rw [← hLF]
          refine Array.ext (by rw [inv.clo.1, inv.szL]) fun i h1 h2 => ?_
          have := inv.lst i
          simp only [rems, List.flatMap_nil, List.not_mem_nil, not_false_eq_true, and_true] at this
          simp only [Array.getD_eq_getD_getElem?, h1, h2, Array.getElem?_eq_getElem, Option.getD_some] at this
          exact Bool.eq_iff_iff.2 this
        have hcl := inv.clo
        rw [hAL] at hcl ⊢
        have hg : Good Γ L w := by
          have := inv.good
          exact this.sub (by simp [js])
        have := hK hcl f L a w h inv.fo hg
        simpa [rems, stepsOps] using this
      | t :: Ts', inv, hm, threads =>
        have hne := (inv.th t (.head _)).ne
        have hmem := lastOf_mem hne
        have hr0 := mem_rems (Ts := t :: Ts') (.head _) hmem
        have hpos : 0 < (rems (t :: Ts')).length := List.length_pos_of_mem hr0
        obtain ⟨n, hn⟩ : ∃ n, (rems (t :: Ts')).length + (stepsOps []).length + rest = n + 1 := ⟨(rems (t :: Ts')).length - 1 + rest, by simp [stepsOps]; omega⟩
        rw [hn]
        have hrH := inv.rH _ hr0
        refine ⟨fun h0 => absurd h0 (ready_ne st.down inv.clo.1 _ (st.uL _ hrH.2.1).1 (inv.un hr0)), fun j hj => ?_⟩
        rcases inv.cases hj with hc | ⟨hc1, hc2⟩
        · exact threads j n hn hj hc
        · exfalso
          obtain ⟨hun, o, ho, _⟩ := mem_ready.1 hj
          rcases st.join _ hrH.1 j (Array.getElem?_eq_some_iff.1 ho).1 with h1 | h1 | h1
          · have := inv.l0A j h1
            rw [getD_both hun] at this
            cases this
          · rcases inv.uLA j h1 with h2 | h2
            · rw [hc1] at h2; cases h2
            · cases h2
          · have := anc_listed inv.clo ops.size j h1 (deps_of hj)
            rw [inv.un hr0] at this
            cases this

inductive EvAhead (S : Sig) (ops : Array Oper) (s : List Step) (f : Fr) (L : SH) (K : Fr → SH → Prop) : Prop
  | mk (L0 J : SH) (hk : Keeps L0 L J) (h : wipeK ops (stepsOps s) f fun f' => evA S ops L0 s [] f' L K)
  | all (h : wipeK ops (stepsOps s) f fun f' => evA S ops L s [] f' L K)

theorem ahead_ok (hS : S.Ok) {s : List Step} (hB : aheadB ops s l0 = true) (hcl : Closed ops l0) {Q : Exit → Act → World → Prop} {K : Fr → SH → Prop} {rest : Nat}
    (hK : Closed ops (setAll (stepsOps s) l0) → ∀ f L a w, K f L → FrOk f a → Good Γ L w → wpAny S.P .any ops Q rest (setAll (stepsOps s) l0) a w) {f : Fr} {L : SH} {a : Act} {w : World} (h : EvAhead S ops s f L K) (hf : FrOk f a) (hg : Good Γ L w) :
    wpAny S.P .any ops Q ((stepsOps s).length + rest) l0 a w := by
  obtain ⟨st, hn, hsB⟩ := Static.of hB
  have key : ∀ (L0 J : SH), Keeps L0 L J → (wipeK ops (stepsOps s) f fun f' => evA S ops L0 s [] f' L K) → wpAny S.P .any ops Q ((stepsOps s).length + rest) l0 a w := by
    intro L0 J hk h
    rw [wipeK_eq] at h
    have inv : Inv S ops L0 Γ l0 (stepsOps s) (lasts s) (pushed s) s [] [] [] (wipe ops (stepsOps s) f) L l0 l0 a w := by
      refine ⟨hcl, hcl.1, fun j => by simp [rems], fun _ h => h, fun _ h => .inr h, by simpa [rems] using hn, fun j hj => ⟨hj, (st.uL j hj).2⟩, fun j hj => by simp [rems] at hj, ⟨fun _ h => h, fun _ h => h⟩, hsB,
        fun t ht => (by cases ht), ?_, fun t ht => (by cases ht), FrOk.wipe _ _ hf, fun t ht => (by cases ht), fun d hd => (by cases hd), fun i post hp => (by simp [lookP] at hp), ⟨J, hk⟩, by simpa [js, jd] using hg⟩
      refine (Clr.wipe ops (stepsOps s) f).mono fun i hi => ?_
      simpa [inner] using hi
    have := evA_ok hS st hK _ s [] [] [] _ L l0 l0 a w rfl rfl inv h
    simpa [rems] using this
  cases h with
  | mk L0 J hk h => exact key L0 J hk h
  | all h => exact key L [] (Keeps.refl L) h

end
end Go.Proofs.Ytloknkdomgeolaa.She
