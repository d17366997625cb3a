/- Part of a small program logic: a region whose order is drawn, by a plan: what leaves the heap alone is taken first, what only reads goes in a group, what changes the heap stands alone. -/
import Derived.Test.YtloknkdomgeolaaSheO
namespace Go.Proofs.Ytloknkdomgeolaa.She
set_option linter.all false
open Go

/-! ### Plans -/
inductive Plan where
  | nil
  | early (H : List Nat) (r : Plan)
  | three (i : Nat) (p : Plan) (j : Nat) (q : Plan) (k : Nat) (t : Plan)
  | take (i : Nat) (r : Plan)
  | group (H : List Nat) (r : Plan)
  | eff (i : Nat) (r : Plan)
  | two (i : Nat) (p : Plan) (j : Nat) (q : Plan)
  | ahead (s : List Step) (r : Plan)

def Plan.count : Plan → Nat
  | .nil => 0
  | .early H r => H.length + Plan.count r
  | .three _ p _ _ _ _ => Plan.count p + 1
  | .take _ r => Plan.count r + 1
  | .group H r => H.length + Plan.count r
  | .eff _ r => Plan.count r + 1
  | .two _ p _ _ => Plan.count p + 1
  | .ahead s r => (stepsOps s).length + Plan.count r

/-- What the plan asks of the region alone. -/
def planB (S : Sig) (ops : Array Oper) : Plan → Array Bool → Bool
  | .nil, listed => (Region.ready .any ops listed).isEmpty
  | .early H r, listed => groupB ops H listed && (H.all fun i => (List.range ops.size).all fun j => listed.getD j false || H.contains j || (match ops[j]? with | some o => growB S o | none => true) || ancB ops ops.size j i) && planB S ops r (setAll H listed)
  | .three i p j q k t, listed => decide (Region.ready .any ops listed = [i, j, k]) && Nat.beq (Plan.count p) (Plan.count q) && Nat.beq (Plan.count p) (Plan.count t) && planB S ops p (listed.setIfInBounds i true) && planB S ops q (listed.setIfInBounds j true) && planB S ops t (listed.setIfInBounds k true)
  | .take i r, listed => (Region.ready .any ops listed).contains i && Region.free .any ops listed i && planB S ops r (listed.setIfInBounds i true)
  | .group H r, listed => groupB ops H listed && (H.all fun i => (List.range ops.size).all fun j => listed.getD j false || H.contains j || ancB ops ops.size j i) && (H.all fun j => !(Region.ready .any ops (setAll H listed)).contains j) && planB S ops r (setAll H listed)
  | .eff i r, listed => decide (Region.ready .any ops listed = [i]) && planB S ops r (listed.setIfInBounds i true)
  | .two i p j q, listed => decide (Region.ready .any ops listed = [i, j]) && Nat.beq (Plan.count p) (Plan.count q) && planB S ops p (listed.setIfInBounds i true) && planB S ops q (listed.setIfInBounds j true)
  | .ahead s r, listed => aheadB ops s listed && planB S ops r (setAll (stepsOps s) listed)

/-- An operation that only reads, or a call that changes nothing. -/
def quietK (S : Sig) (o : Oper) (f : Fr) (L : SH) (k : Value → Prop) : Prop :=
  match o.op with
  | .call c => match c.callee with
    | .value g => rd f g fun
      | .func (.func fn) ⟨p⟩ ⟨q⟩ => rdL f c.args.toList fun xs => appK p xs fun px => appK px q fun args => EvQCall S fn args L k
      | _ => False
    | _ => pureK S o f L k
  | _ => pureK S o f L k

def evG (S : Sig) (ops : Array Oper) : List Nat → Fr → SH → (Fr → Prop) → Prop
  | [], f, _, K => K f
  | i :: r, f, L, K => match nthL ops.toList i with
    | some o => guardK ops o f (quietK S o f L fun v => putK f o.dst v fun f' => evG S ops r f' L K) (skipK f o.dst fun f' => evG S ops r f' L K)
    | none => False

/-- Operations that only read, in the order of a list. -/
def evE (S : Sig) (ops : Array Oper) : List Nat → Fr → SH → (Fr → Prop) → Prop
  | [], f, L, K => K f
  | i :: r, f, L, K => match nthL ops.toList i with
    | some o => guardK ops o f (pureK S o f L fun v => putK f o.dst v fun f' => evE S ops r f' L K) (skipK f o.dst fun f' => evE S ops r f' L K)
    | none => False

def evD (S : Sig) (ops : Array Oper) : Plan → Fr → SH → (Fr → SH → Prop) → Prop
  | .nil, f, L, K => K f L
  | .early H r, f, L, K => evE S ops H f L fun f' => evD S ops r f' L K
  | .three i p j q k t, f, L, K => (match nthL ops.toList i with
    | some o => guardK ops o f (effK S o f L fun v L' => putK f o.dst v fun f' => evD S ops p f' L' K) (skipK f o.dst fun f' => evD S ops p f' L K)
    | none => False) ∧ (match nthL ops.toList j with
    | some o => guardK ops o f (effK S o f L fun v L' => putK f o.dst v fun f' => evD S ops q f' L' K) (skipK f o.dst fun f' => evD S ops q f' L K)
    | none => False) ∧ (match nthL ops.toList k with
    | some o => guardK ops o f (effK S o f L fun v L' => putK f o.dst v fun f' => evD S ops t f' L' K) (skipK f o.dst fun f' => evD S ops t f' L K)
    | none => False)
  | .take i r, f, L, K => match nthL ops.toList i with
    | some o => bif isPure S o then guardK ops o f (pureK S o f L fun v => putK f o.dst v fun f' => evD S ops r f' L K) (skipK f o.dst fun f' => evD S ops r f' L K) else False
    | none => False
  | .group H r, f, L, K => evG S ops H f L fun f' => evD S ops r f' L K
  | .eff i r, f, L, K => match nthL ops.toList i with
    | some o => guardK ops o f (effK S o f L fun v L' => putK f o.dst v fun f' => evD S ops r f' L' K) (skipK f o.dst fun f' => evD S ops r f' L K)
    | none => False
  | .two i p j q, f, L, K => (match nthL ops.toList i with
    | some o => guardK ops o f (effK S o f L fun v L' => putK f o.dst v fun f' => evD S ops p f' L' K) (skipK f o.dst fun f' => evD S ops p f' L K)
    | none => False) ∧ (match nthL ops.toList j with
    | some o => guardK ops o f (effK S o f L fun v L' => putK f o.dst v fun f' => evD S ops q f' L' K) (skipK f o.dst fun f' => evD S ops q f' L K)
    | none => False)
  | .ahead s r, f, L, K => EvAhead S ops s f L fun f' L' => evD S ops r f' L' K

theorem quietK_ok {S : Sig} (hS : S.Ok) {o : Oper} {f : Fr} {L : SH} {k : Value → Prop} {a : Act} (hf : FrOk f a) {Γ : Ctx} {w0 : World} (h0 : Holds w0 L) (h : quietK S o f L k) :
    ∃ v, k v ∧ ∀ w, Good Γ L w → o.quietAt S.P a (Good Γ L) w v := by
  have pureCase : pureK S o f L k → ∃ v, k v ∧ ∀ w, Good Γ L w → o.quietAt S.P a (Good Γ L) w v := by
    intro h
    obtain ⟨v, hv, hr⟩ := pureK_ok hS hf h0 h
    refine ⟨v, hv, fun w hg => ?_⟩
    unfold Oper.quietAt
    rw [hr w (.inr hg.holds)]
    exact ⟨rfl, rfl⟩
  unfold quietK at h
  split at h
  · rename_i c ho
    split at h
    · rename_i g hc
      have h := rd_ok hf h
      split at h
      · rename_i fn p q hg0
        have h := rdL_ok hf h
        rw [appK_eq, appK_eq] at h
        cases h with
        | mk O v spec sp h =>
          rw [force_eq] at h
          obtain ⟨Oo, hso⟩ := sp.ok
          refine ⟨v, h, fun w hg => ?_⟩
          have hready := hso.ready hg
          have hcall := spec.calls w hready.1 hready.2.1 hready.2.2
          unfold Oper.quietAt
          have hrun : (execOp a.eval o).run S.P w = .ok (.enter fn (p ++ c.args.toList.map a.eval ++ q).toArray) w := by
            simp only [execOp, ho, resolve, hc, hg0, Deferred.ofValue, Sem.run_bind, Sem.run_pure, Result.andThen_ok, invoke]
            rw [run_callFunc spec.body]
            congr 2
            apply Array.ext'; simp
          rw [hrun]
          refine ⟨rfl, hcall.mono ?_⟩
          rintro _ w' ⟨u, O', rfl, hu, hleft⟩
          subst hu
          refine ⟨rfl, ?_⟩
          exact (hg.called hso hleft).sub (List.sublist_append_right _ _)
        | own O Rest v spec sp h =>
          rw [force_eq] at h
          obtain ⟨Oo, hso⟩ := sp.ok
          refine ⟨v, h, fun w hg => ?_⟩
          have hready := hso.ready hg
          have hcall := spec.calls w hready.1 hready.2.1 hready.2.2
          unfold Oper.quietAt
          have hrun : (execOp a.eval o).run S.P w = .ok (.enter fn (p ++ c.args.toList.map a.eval ++ q).toArray) w := by
            simp only [execOp, ho, resolve, hc, hg0, Deferred.ofValue, Sem.run_bind, Sem.run_pure, Result.andThen_ok, invoke]
            rw [run_callFunc spec.body]
            congr 2
            apply Array.ext'; simp
          rw [hrun]
          refine ⟨rfl, hcall.mono ?_⟩
          rintro _ w' ⟨u, O', rfl, ⟨hu, hent⟩, hleft⟩
          subst hu
          refine ⟨rfl, ?_⟩
          exact (hg.called hso hleft).ent hent
        | ext v hx h =>
          rw [force_eq] at h
          refine ⟨v, h, fun w hg => ?_⟩
          unfold Oper.quietAt
          have hrun : (execOp a.eval o).run S.P w = .ok (.value v) w := by
            simp only [execOp, ho, resolve, hc, hg0, Deferred.ofValue, Sem.run_bind, Sem.run_pure, Result.andThen_ok, invoke]
            rw [← hx w]
            congr 2
            apply Array.ext'; simp
          rw [hrun]
          exact ⟨rfl, rfl⟩
      · exact h.elim
    · exact pureCase h
  · exact pureCase h

theorem evG_ok {S : Sig} (hS : S.Ok) {ops : Array Oper} {L : SH} {Γ : Ctx} {w0 : World} (h0 : Holds w0 L) {K : Fr → Prop} {Q : Act → Prop} (hQ : ∀ f a, K f → FrOk f a → Q a) :
    ∀ (l : List Nat) (f : Fr) (a : Act), evG S ops l f L K → FrOk f a → qWalk S.P ops (Good Γ L) Q l a
  | [], f, a, h, hf => hQ f a h hf
  | i :: r, f, a, h, hf => by
    simp only [evG] at h
    split at h
    · rename_i o ho
      rw [nthL_eq] at ho
      have ho' : ops[i]? = some o := by simpa using ho
      obtain ⟨h1, h2⟩ := guardK_ok hf h
      simp only [qWalk, qOp, ho']
      cases hw : Region.wanted o (yielded ops a.tmps) with
      | true =>
        obtain ⟨v, hv, hr⟩ := quietK_ok hS hf (Γ := Γ) h0 (h1 hw)
        rw [putK_eq] at hv
        simp only [if_true]
        exact ⟨v, hr, evG_ok hS h0 hQ r _ _ hv (hf.put _ _)⟩
      | false =>
        have := h2 hw
        rw [skipK_eq] at this
        simp only [Bool.false_eq_true, if_false]
        exact evG_ok hS h0 hQ r _ _ this (hf.skip _)
    · exact h.elim

theorem evE_ok {S : Sig} (hS : S.Ok) {ops : Array Oper} {L : SH} {Γ : Ctx} {w0 : World} (h0 : Holds w0 L) {K : Fr → Prop} {R : Act → Prop} (hQ : ∀ f a, K f → FrOk f a → R a) :
    ∀ (l : List Nat) (f : Fr) (a : Act), evE S ops l f L K → FrOk f a → sWalk S.P ops (Good Γ L) R l a
  | [], f, a, h, hf => hQ f a h hf
  | i :: r, f, a, h, hf => by
    simp only [evE] at h
    split at h
    · rename_i o ho
      rw [nthL_eq] at ho
      have ho' : ops[i]? = some o := by simpa using ho
      obtain ⟨h1, h2⟩ := guardK_ok hf h
      cases hw : Region.wanted o (yielded ops a.tmps) with
      | true =>
        obtain ⟨v, hv, hr⟩ := pureK_ok hS hf h0 (h1 hw)
        rw [putK_eq] at hv
        exact ⟨o, v, ho', .inl ⟨hw, fun w hg => hr w (.inr hg.holds)⟩, evE_ok hS h0 hQ r _ _ hv (hf.put _ _)⟩
      | false =>
        have := h2 hw
        rw [skipK_eq] at this
        exact ⟨o, undef, ho', .inr ⟨hw, rfl⟩, evE_ok hS h0 hQ r _ _ this (hf.skip _)⟩
    · exact h.elim

theorem wpAnyM.walk {S : Sig} (hS : S.Ok) {ops : Array Oper} {C : World → Prop} {Q : Exit → Act → World → Prop} {H : List Nat} {l0 : Array Bool} (hs : Region.noSelect ops = true) (hQ : ∀ c a w a' w', Q (.panic c) a w → Q (.panic c) a' w')
    (hanc : ∀ i ∈ H, ∀ j oj, j ∉ H → ops[j]? = some oj → growB S oj = false → ∀ listed, ClosedX ops l0 listed → j ∈ Region.ready .any ops listed → listed.getD i false = true) {R : Act → Prop} {w : World} {g : Nat} :
    ∀ (l : List Nat) (listed : Array Bool) (a : Act), (∀ i ∈ l, i ∈ H) → (∀ h ∈ H, h ∈ l ∨ listed.getD h false = true) → ClosedX ops l0 listed → groupB ops l listed = true → sWalk S.P ops C R l a →
      (∀ a', R a' → wpAny S.P .any ops Q g (setAll l listed) a' w) → wpAnyM S ops C Q H (l.length + g) listed a w
  | [], listed, a, _, hall, _, _, hw, hR => by
    rw [List.length_nil, Nat.zero_add]
    exact wpAnyM.of_any (fun h hh => (hall h hh).resolve_left (by simp)) (hR a hw)
  | i :: r, listed, a, hl, hall, inv, hB, hw, hR => by
    simp only [groupB, Bool.and_eq_true] at hB
    obtain ⟨⟨hr, hf⟩, hB'⟩ := hB
    have hr' : i ∈ Region.ready .any ops listed := by simpa using hr
    obtain ⟨oi, v, hoi, hy, hw'⟩ := hw
    rw [List.length_cons, Nat.add_right_comm]
    have hlt : i < listed.size := by
      have := (Array.getElem?_eq_some_iff.1 hoi).1
      rw [inv.1.1]; exact this
    refine wpAnyM.first hS hoi (Region.noSelect_spec hs) hQ (hl i (.head _)) (ClosedX ops l0) (fun li j inv' hj => inv'.set hj) (hanc i (hl i (.head _))) (r.length + g) listed a w inv (Region.free_spec hoi hf) hr' hy
      (wpAnyM.walk hS hs hQ hanc r _ _ (fun j hj => hl j (.tail _ hj)) (fun h hh => ?_) (inv.set hr') hB' hw' hR)
    rcases hall h hh with h1 | h1
    · cases h1 with
      | head => exact .inr (by simp [hlt])
      | tail _ h1 => exact .inl h1
    · exact .inr (getD_set_true h1)

theorem evD_ok {S : Sig} (hS : S.Ok) {ops : Array Oper} (hsel : Region.noSelect ops = true) {Γ : Ctx} {K : Fr → SH → Prop} {Q : Exit → Act → World → Prop} (hQ : ∀ f L a w, K f L → FrOk f a → Good Γ L w → Q .normal a w)
    (hP : ∀ c a w a' w', Q (.panic c) a w → Q (.panic c) a' w') :
    ∀ (plan : Plan) (listed : Array Bool) (f : Fr) (L : SH) (a : Act) (w : World), planB S ops plan listed = true → Closed ops listed → evD S ops plan f L K → FrOk f a → Good Γ L w → wpAny S.P .any ops Q (Plan.count plan) listed a w
  | .nil, listed, f, L, a, w, hB, _, h, hf, hg => ⟨by simpa [planB] using hB, hQ f L a w h hf hg⟩
  | .early H r, listed, f, L, a, w, hB, inv, h, hf, hg => by
    simp only [planB, Bool.and_eq_true] at hB
    obtain ⟨⟨hgB, hanc⟩, hB'⟩ := hB
    simp only [evD] at h
    have hanc' : ∀ i ∈ H, ∀ j oj, j ∉ H → ops[j]? = some oj → growB S oj = false → ∀ listed', ClosedX ops listed listed' → j ∈ Region.ready .any ops listed' → listed'.getD i false = true := by
      intro i hi j oj hj hoj hg listed' inv' hjr
      have h1 := List.all_eq_true.1 (List.all_eq_true.1 hanc i hi) j (List.mem_range.2 (Array.getElem?_eq_some_iff.1 hoj).1)
      simp only [hoj, hg, Bool.or_eq_true, Bool.or_false] at h1
      obtain ⟨hun, o2, ho2, hall⟩ := mem_ready.1 hjr
      rcases h1 with (h1 | h1) | h1
      · have := inv'.2 j h1
        rw [getD_both hun] at this
        cases this
      · exact absurd (by simpa using h1) hj
      · refine anc_listed inv'.1 ops.size j h1 ?_
        intro oj' hoj' e he hb
        have : oj' = o2 := Option.some.inj (hoj'.symm.trans ho2)
        subst this
        exact hall e he hb
    have hw := evE_ok hS (Γ := Γ) hg.holds (R := fun a' => ∃ f', evD S ops r f' L K ∧ FrOk f' a') (fun f' a' hk hf' => ⟨f', hk, hf'⟩) H f a h hf
    have hcl : ∀ (l : List Nat) (li : Array Bool), Closed ops li → groupB ops l li = true → Closed ops (setAll l li) := by
      intro l
      induction l with
      | nil => exact fun li h _ => h
      | cons i l ih =>
        intro li h hB
        simp only [groupB, Bool.and_eq_true] at hB
        exact ih _ (h.set (by simpa using hB.1.1)) hB.2
    refine wpAnyM.any hS (C := Good Γ L) (H := H) (fun w w' h hgr => h.grown hgr) _ listed a w hg ?_
    refine wpAnyM.walk hS hsel hP hanc' H listed a (fun _ h => h) (fun h hh => .inl hh) ⟨inv, fun _ h => h⟩ hgB hw ?_
    rintro a' ⟨f', hk, hf'⟩
    exact evD_ok hS hsel hQ hP r _ f' L a' w hB' (hcl H listed inv hgB) hk hf' hg
  | .ahead s r, listed, f, L, a, w, hB, inv, h, hf, hg => by
    simp only [planB, Bool.and_eq_true] at hB
    simp only [evD] at h
    exact ahead_ok hS hB.1 inv (fun hcl f' L' a' w' hk hf' hg' => evD_ok hS hsel hQ hP r _ f' L' a' w' hB.2 hcl hk hf' hg') h hf hg
  | .three i p i2 q i3 t, listed, f, L, a, w, hB, inv, h, hf, hg => by
    simp only [planB, Bool.and_eq_true, decide_eq_true_eq] at hB
    obtain ⟨⟨⟨⟨⟨hr, hcnt⟩, hcnt3⟩, hB1⟩, hB2⟩, hB3⟩ := hB
    have hcnt := Nat.eq_of_beq_eq_true hcnt
    have hcnt3 := Nat.eq_of_beq_eq_true hcnt3
    simp only [evD] at h
    have hri : i ∈ Region.ready .any ops listed := by rw [hr]; simp
    have hri2 : i2 ∈ Region.ready .any ops listed := by rw [hr]; simp
    have hri3 : i3 ∈ Region.ready .any ops listed := by rw [hr]; simp
    obtain ⟨ha, hb, hc⟩ := h
    have each : ∀ (j : Nat) (p' : Plan), j ∈ Region.ready .any ops listed → planB S ops p' (listed.setIfInBounds j true) = true →
        (∀ f' L' a' w', evD S ops p' f' L' K → FrOk f' a' → Good Γ L' w' → wpAny S.P .any ops Q (Plan.count p') (listed.setIfInBounds j true) a' w') →
        (match nthL ops.toList j with
          | some o => guardK ops o f (effK S o f L fun v L' => putK f o.dst v fun f' => evD S ops p' f' L' K) (skipK f o.dst fun f' => evD S ops p' f' L K)
          | none => False) → wpOp S.P ops Q j (wpAny S.P .any ops Q (Plan.count p') (listed.setIfInBounds j true)) a w := by
      intro j p' hj hBj hrec ha
      split at ha
      · rename_i o ho
        rw [nthL_eq] at ho
        have ho' : ops[j]? = some o := by simpa using ho
        obtain ⟨h1, h2⟩ := guardK_ok hf ha
        unfold wpOp
        simp only [ho']
        cases hw : Region.wanted o (yielded ops a.tmps) with
        | true =>
          simp only [if_true]
          refine .inl (effK_ok hS hf (Γ := Γ) (h1 hw) w hg _ Q fun v L' w' hk hg' => ?_)
          rw [putK_eq] at hk
          exact hrec _ L' _ w' hk (hf.put _ _) hg'
        | false =>
          have := h2 hw
          rw [skipK_eq] at this
          simp only [Bool.false_eq_true, if_false]
          exact hrec _ L _ w this (hf.skip _) hg
      · exact ha.elim
    refine wpAny_all hr (by simp) fun j hj => ?_
    have hji : j = i ∨ j = i2 ∨ j = i3 := by simpa using hj
    rcases hji with hji | hji | hji
    · subst hji; exact each j p hri hB1 (fun f' L' a' w' hk hf' hg' => evD_ok hS hsel hQ hP p _ f' L' a' w' hB1 (inv.set hri) hk hf' hg') ha
    · subst hji; rw [hcnt]; exact each j q hri2 hB2 (fun f' L' a' w' hk hf' hg' => evD_ok hS hsel hQ hP q _ f' L' a' w' hB2 (inv.set hri2) hk hf' hg') hb
    · subst hji; rw [hcnt3]; exact each j t hri3 hB3 (fun f' L' a' w' hk hf' hg' => evD_ok hS hsel hQ hP t _ f' L' a' w' hB3 (inv.set hri3) hk hf' hg') hc
  | .take i r, listed, f, L, a, w, hB, inv, h, hf, hg => by
    simp only [planB, Bool.and_eq_true] at hB
    obtain ⟨⟨hr, hfree⟩, hB'⟩ := hB
    simp only [evD] at h
    split at h
    · rename_i o ho
      rw [nthL_eq] at ho
      have ho' : ops[i]? = some o := by simpa using ho
      cases hp : isPure S o with
      | false => rw [hp] at h; exact h.elim
      | true =>
        rw [hp] at h
        simp only [cond_true] at h
        obtain ⟨v, f', hy, hf', hk⟩ := pure_yields hS hf hg.holds hp h
        exact wpAny_take ho' hsel hfree hr (fun c a' w' hq => hP c _ _ _ _ hq) hy (evD_ok hS hsel hQ hP r _ f' L _ w hB' (inv.set (by simpa using hr)) hk hf' hg)
    · exact h.elim
  | .group H r, listed, f, L, a, w, hB, inv, h, hf, hg => by
    simp only [planB, Bool.and_eq_true] at hB
    obtain ⟨⟨⟨hgB, hanc⟩, hend⟩, hB'⟩ := hB
    simp only [evD] at h
    have hanc' : ∀ i ∈ H, ∀ j, j ∉ H → (∃ oj, ops[j]? = some oj) → ∀ listed', ClosedX ops listed listed' → listed'.getD j true = false → j ∈ Region.ready .any ops listed' → listed'.getD i false = true := by
      intro i hi j hj ⟨oj, hoj⟩ listed' inv' hun hjr
      have h1 := List.all_eq_true.1 (List.all_eq_true.1 hanc i hi) j (List.mem_range.2 (Array.getElem?_eq_some_iff.1 hoj).1)
      simp only [Bool.or_eq_true] at h1
      rcases h1 with (h1 | h1) | h1
      · have := inv'.2 j h1
        rw [getD_both hun] at this
        cases this
      · exact absurd (by simpa using h1) hj
      · refine anc_listed inv'.1 ops.size j h1 ?_
        intro oj' hoj' e he hb
        obtain ⟨_, o2, ho2, hall⟩ := mem_ready.1 hjr
        have : oj' = o2 := Option.some.inj (hoj'.symm.trans ho2)
        subst this
        exact hall e he hb
    have hend' : ∀ j ∈ H, j ∉ Region.ready .any ops (setAll H listed) := by
      intro j hj; have := List.all_eq_true.1 hend j hj; simpa using this
    have hw := wpAnyH_walk (P := S.P) (C := Good Γ L) (H := H) (Q := fun a' => ∃ f', evD S ops r f' L K ∧ FrOk f' a') hsel hanc' H listed a (fun _ h => h) ⟨inv, fun _ h => h⟩ hend' hgB
      (evG_ok hS (Γ := Γ) hg.holds (fun f' a' hk hf' => ⟨f', hk, hf'⟩) H f a h hf)
    have hcl : ∀ (l : List Nat) (li : Array Bool), Closed ops li → groupB ops l li = true → Closed ops (setAll l li) := by
      intro l
      induction l with
      | nil => exact fun li h _ => h
      | cons i l ih =>
        intro li h hB
        simp only [groupB, Bool.and_eq_true] at hB
        exact ih _ (h.set (by simpa using hB.1.1)) hB.2
    refine wpAny_of_group (H := H) (g := Plan.count r) ?_ H.length listed a w hg hw
    rintro listed' a' w' ⟨rfl, f', hk, hf'⟩ hg'
    exact evD_ok hS hsel hQ hP r _ f' L a' w' hB' (hcl H listed inv hgB) hk hf' hg'
  | .eff i r, listed, f, L, a, w, hB, inv, h, hf, hg => by
    simp only [planB, Bool.and_eq_true, decide_eq_true_eq] at hB
    obtain ⟨hr, hB'⟩ := hB
    simp only [evD] at h
    have hri : i ∈ Region.ready .any ops listed := by rw [hr]; exact .head _
    split at h
    · rename_i o ho
      rw [nthL_eq] at ho
      have ho' : ops[i]? = some o := by simpa using ho
      refine wpAny_all hr (by simp) fun j hj => ?_
      have hji : j = i := by simpa using hj
      subst hji
      obtain ⟨h1, h2⟩ := guardK_ok hf h
      unfold wpOp
      simp only [ho']
      cases hw : Region.wanted o (yielded ops a.tmps) with
      | true =>
        simp only [if_true]
        refine .inl (effK_ok hS hf (Γ := Γ) (h1 hw) w hg _ Q fun v L' w' hk hg' => ?_)
        rw [putK_eq] at hk
        exact evD_ok hS hsel hQ hP r _ _ L' _ w' hB' (inv.set hri) hk (hf.put _ _) hg'
      | false =>
        have := h2 hw
        rw [skipK_eq] at this
        simp only [Bool.false_eq_true, if_false]
        exact evD_ok hS hsel hQ hP r _ _ L _ w hB' (inv.set hri) this (hf.skip _) hg
    · exact h.elim
  | .two i p i2 q, listed, f, L, a, w, hB, inv, h, hf, hg => by
    simp only [planB, Bool.and_eq_true, decide_eq_true_eq] at hB
    obtain ⟨⟨⟨hr, hcnt⟩, hB1⟩, hB2⟩ := hB
    have hcnt := Nat.eq_of_beq_eq_true hcnt
    simp only [evD] at h
    have hri : i ∈ Region.ready .any ops listed := by rw [hr]; exact .head _
    have hri2 : i2 ∈ Region.ready .any ops listed := by rw [hr]; exact .tail _ (.head _)
    obtain ⟨ha, hb⟩ := h
    refine wpAny_all hr (by simp) fun j hj => ?_
    have hji : j = i ∨ j = i2 := by simpa using hj
    rcases hji with hji | hji
    · subst hji
      split at ha
      · rename_i o ho
        rw [nthL_eq] at ho
        have ho' : ops[j]? = some o := by simpa using ho
        obtain ⟨h1, h2⟩ := guardK_ok hf ha
        unfold wpOp
        simp only [ho']
        cases hw : Region.wanted o (yielded ops a.tmps) with
        | true =>
          simp only [if_true]
          refine .inl (effK_ok hS hf (Γ := Γ) (h1 hw) w hg _ Q fun v L' w' hk hg' => ?_)
          rw [putK_eq] at hk
          exact evD_ok hS hsel hQ hP p _ _ L' _ w' hB1 (inv.set hri) hk (hf.put _ _) hg'
        | false =>
          have := h2 hw
          rw [skipK_eq] at this
          simp only [Bool.false_eq_true, if_false]
          exact evD_ok hS hsel hQ hP p _ _ L _ w hB1 (inv.set hri) this (hf.skip _) hg
      · exact ha.elim
    · subst hji
      split at hb
      · rename_i o ho
        rw [nthL_eq] at ho
        have ho' : ops[j]? = some o := by simpa using ho
        obtain ⟨h1, h2⟩ := guardK_ok hf hb
        unfold wpOp
        simp only [ho']
        rw [hcnt]
        cases hw : Region.wanted o (yielded ops a.tmps) with
        | true =>
          simp only [if_true]
          refine .inl (effK_ok hS hf (Γ := Γ) (h1 hw) w hg _ Q fun v L' w' hk hg' => ?_)
          rw [putK_eq] at hk
          exact evD_ok hS hsel hQ hP q _ _ L' _ w' hB2 (inv.set hri2) hk (hf.put _ _) hg'
        | false =>
          have := h2 hw
          rw [skipK_eq] at this
          simp only [Bool.false_eq_true, if_false]
          exact evD_ok hS hsel hQ hP q _ _ L _ w hB2 (inv.set hri2) this (hf.skip _) hg
      · exact hb.elim

end Go.Proofs.Ytloknkdomgeolaa.She
