/- Part of a small program logic: code and functions. -/
import Derived.Test.YtloknkdomgeolaaSheH
import Derived.Deep.LoopGhost
namespace Go.Proofs.Ytloknkdomgeolaa.She
set_option linter.all false
open Go

def evOps (S : Sig) (ops : Array Oper) : List Oper → Fr → SH → (Fr → SH → Prop) → Prop
  | [], f, L, K => K f L
  | o :: r, f, L, K => guardK ops o f (effK S o f L fun v L' => putK f o.dst v fun f' => evOps S ops r f' L' K) (skipK f o.dst fun f' => evOps S ops r f' L K)

def anyGuard : List Oper → Bool
  | [] => false
  | o :: r => o.guard.isSome || anyGuard r

def memN (i : Nat) : List Nat → Bool
  | [] => false
  | j :: r => Nat.beq i j || memN i r

def dstsOps : List Oper → List Nat
  | [] => []
  | o :: r => match o.dst with
    | some d => d :: dstsOps r
    | none => dstsOps r

def dstsC : Code → List Nat
  | .region _ ops _ => dstsOps ops.toList
  | .seq a b => dstsC a ++ dstsC b
  | .cond _ a b => dstsC a ++ dstsC b
  | .block _ c => dstsC c
  | .loop c => dstsC c
  | .scope c => dstsC c
  | _ => []

def mask (ds : List Nat) : Nat → Fr → Fr
  | _, [] => []
  | i, x :: r => (bif memN i ds then none else x) :: mask ds (i + 1) r

def lookV : List (Nat × Value) → Nat → Option Value
  | [], _ => none
  | (j, v) :: r, i => bif Nat.beq i j then some v else lookV r i

def havoc (ds : List Nat) (vals : List (Nat × Value)) : Nat → Fr → Fr
  | _, [] => []
  | i, x :: r => (bif memN i ds then lookV vals i else x) :: havoc ds vals (i + 1) r

def lookK : List (Nat × Value) → Nat → (Option Value → Prop) → Prop
  | [], _, k => k none
  | (j, v) :: r, i, k => match Nat.beq i j with
    | true => force v fun v' => k (some v')
    | false => lookK r i k
theorem lookK_eq : ∀ (l : List (Nat × Value)) (i : Nat) (k : Option Value → Prop), lookK l i k = k (lookV l i)
  | [], _, _ => rfl
  | (j, v) :: r, i, k => by
    simp only [lookK, lookV]
    cases Nat.beq i j with
    | true => simp only [force_eq, cond_true]
    | false => simp only [lookK_eq r i k, cond_false]

def havocK (ds : List Nat) (vals : List (Nat × Value)) : Nat → Fr → (Fr → Prop) → Prop
  | _, [], k => k []
  | i, x :: r, k => match memN i ds with
    | true => lookK vals i fun v => havocK ds vals (i + 1) r fun r' => k (v :: r')
    | false => havocK ds vals (i + 1) r fun r' => k (x :: r')
theorem havocK_eq (ds : List Nat) (vals : List (Nat × Value)) : ∀ (f : Fr) (i : Nat) (k : Fr → Prop), havocK ds vals i f k = k (havoc ds vals i f)
  | [], _, _ => rfl
  | x :: r, i, k => by
    simp only [havocK, havoc]
    cases memN i ds with
    | true => simp only [lookK_eq, havocK_eq ds vals r, cond_true]
    | false => simp only [havocK_eq ds vals r, cond_false]

def MatchP (f : Fr) : List (Nat × Value) → Prop
  | [] => True
  | (i, v) :: r => getF f i = some v ∧ MatchP f r

theorem MatchP.look {f : Fr} : ∀ {vals : List (Nat × Value)} {i : Nat} {v : Value}, MatchP f vals → lookV vals i = some v → getF f i = some v
  | [], _, _, _, h => by simp [lookV] at h
  | (j, u) :: r, i, v, hm, h => by
    simp only [lookV] at h
    cases hb : Nat.beq i j with
    | true =>
      rw [hb] at h; simp only [cond_true] at h
      cases h
      have := Nat.eq_of_beq_eq_true hb
      subst this; exact hm.1
    | false => rw [hb] at h; exact MatchP.look hm.2 h

theorem havoc_length (ds : List Nat) (vals : List (Nat × Value)) : ∀ (f : Fr) (i : Nat), (havoc ds vals i f).length = f.length
  | [], _ => rfl
  | _ :: r, i => by simp [havoc, havoc_length ds vals r]
theorem mask_length (ds : List Nat) : ∀ (f : Fr) (i : Nat), (mask ds i f).length = f.length
  | [], _ => rfl
  | _ :: r, i => by simp [mask, mask_length ds r]
theorem getF_havoc (ds : List Nat) (vals : List (Nat × Value)) : ∀ (f : Fr) (i j : Nat), getF (havoc ds vals i f) j = if j < f.length then (if memN (i + j) ds then lookV vals (i + j) else getF f j) else none
  | [], _, j => by cases j <;> simp [havoc, getF]
  | x :: r, i, 0 => by simp [havoc, getF]
  | x :: r, i, j + 1 => by
    simp only [havoc, getF, getF_havoc ds vals r (i + 1) j, List.length_cons, Nat.add_lt_add_iff_right]
    rw [show i + 1 + j = i + (j + 1) by omega]
theorem getF_mask (ds : List Nat) : ∀ (f : Fr) (i j : Nat), getF (mask ds i f) j = if memN (i + j) ds then none else getF f j
  | [], _, j => by cases j <;> simp [mask, getF]
  | x :: r, i, 0 => by simp [mask, getF]
  | x :: r, i, j + 1 => by
    simp only [mask, getF, getF_mask ds r (i + 1) j]
    rw [show i + 1 + j = i + (j + 1) by omega]

theorem FrOk.havoc {ds : List Nat} {vals : List (Nat × Value)} {f f' : Fr} {a : Act} (hf : FrOk f' a) (hm : MatchP f' vals) (hk : mask ds 0 f' = mask ds 0 f) : FrOk (havoc ds vals 0 f) a := by
  have hl : f'.length = f.length := by rw [← mask_length ds f' 0, hk, mask_length]
  refine ⟨hf.defers, by rw [havoc_length, ← hl]; exact hf.size, fun i v h => ?_⟩
  rw [getF_havoc] at h
  simp only [Nat.zero_add] at h
  split at h
  · split at h
    · exact hf.slot i v (hm.look h)
    · rename_i hn
      have h1 := getF_mask ds f' 0 i
      have h2 := getF_mask ds f 0 i
      rw [hk, h2] at h1
      simp only [Nat.zero_add, if_neg hn] at h1
      exact hf.slot i v (by rw [← h1]; exact h)
  · cases h

/-! ### Events of code -/
/-- Where ways meet: what is known there, of a number of things of one's own. -/
def Met (ds : List Nat) (f : Fr) {α : Type} (inv : α → Prop) (fr : α → List (Nat × Value)) (sh : α → SH) (f' : Fr) (L' : SH) : Prop :=
  ∃ x, inv x ∧ MatchP f' (fr x) ∧ mask ds 0 f' = mask ds 0 f ∧ Takes L' (sh x)

inductive EvCut (ds : List Nat) (f : Fr) (body : (Fr → SH → Prop) → Prop) (K : Fr → SH → Prop) : Prop
  | direct (h : body K)
  | cut {α : Type} (inv : α → Prop) (fr : α → List (Nat × Value)) (sh : α → SH) (h : body (Met ds f inv fr sh)) (k : ∀ x, inv x → havocK ds (fr x) 0 f fun f' => listK (sh x) fun L' => K f' L')

def metK (K : Exit → Fr → SH → Prop) (M : Fr → SH → Prop) (e : Exit) (f : Fr) (L : SH) : Prop :=
  match e with
  | .normal => M f L
  | .exit i => K (.exit i) f L
  | .goto i => K (.goto i) f L
  | .ret => K .ret f L
  | .panic c => K (.panic c) f L
  | .outgrown => K .outgrown f L

inductive EvIf (ds : List Nat) (g : Bool) (f : Fr) (A B : (Exit → Fr → SH → Prop) → Prop) (K : Exit → Fr → SH → Prop) : Prop
  | br (h : EvBr g (A K) (B K))
  | cut {α : Type} (inv : α → Prop) (fr : α → List (Nat × Value)) (sh : α → SH) (h : EvBr g (A (metK K (Met ds f inv fr sh))) (B (metK K (Met ds f inv fr sh)))) (k : ∀ x, inv x → havocK ds (fr x) 0 f fun f' => listK (sh x) fun L' => K .normal f' L')

inductive EvLoop (ds : List Nat) (f : Fr) (L : SH) (body : Fr → SH → (Exit → Fr → SH → Prop) → Prop) (K : Exit → Fr → SH → Prop) : Prop
  | mk {α : Type} (inv : α → Prop) (μ : α → Nat) (fr : α → List (Nat × Value)) (sh : α → SH) (entry : Met ds f inv fr sh f L)
      (round : ∀ x, inv x → havocK ds (fr x) 0 f fun f' => listK (sh x) fun L' => body f' L' (metK K (Met ds f (fun y => inv y ∧ μ y < μ x) fr sh)))

inductive EvDraw (S : Sig) (ops : Array Oper) (f : Fr) (L : SH) (K : Fr → SH → Prop) : Prop
  | cut {α : Type} (inv : α → Prop) (fr : α → List (Nat × Value)) (sh : α → SH) (plan : Plan) (hB : (Region.noSelect ops && planB S ops plan (Array.replicate ops.size false) && Nat.beq (Plan.count plan) ops.size) = true)
      (h : evD S ops plan f L (Met (dstsOps ops.toList) f inv fr sh)) (k : ∀ x, inv x → havocK (dstsOps ops.toList) (fr x) 0 f fun f' => listK (sh x) fun L' => K f' L')
  | mk (plan : Plan) (hB : (Region.noSelect ops && planB S ops plan (Array.replicate ops.size false) && Nat.beq (Plan.count plan) ops.size) = true) (h : evD S ops plan f L K)

def blockK (id : Nat) (K : Exit → Fr → SH → Prop) (e : Exit) (f : Fr) (L : SH) : Prop :=
  match e with
  | .normal => K .normal f L
  | .exit i => match Nat.beq i id with
    | true => K .normal f L
    | false => K (.exit i) f L
  | .goto i => K (.goto i) f L
  | .ret => K .ret f L
  | .panic c => K (.panic c) f L
  | .outgrown => K .outgrown f L

def scopeK (K : Exit → Fr → SH → Prop) (e : Exit) (f : Fr) (L : SH) : Prop :=
  match e with
  | .normal => K .normal f L
  | .exit i => K (.exit i) f L
  | .goto _ => False
  | .ret => K .ret f L
  | .panic c => K (.panic c) f L
  | .outgrown => K .outgrown f L

def ev (S : Sig) : Code → Fr → SH → (Exit → Fr → SH → Prop) → Prop
  | .skip, f, L, K => K .normal f L
  | .region _ ops draw, f, L, K => match draw, anyGuard ops.toList with
    | true, true => EvCut (dstsOps ops.toList) f (fun k => EvDraw S ops f L k) (K .normal)
    | true, false => EvDraw S ops f L (K .normal)
    | false, true => EvCut (dstsOps ops.toList) f (fun k => evOps S ops ops.toList f L k) (K .normal)
    | false, false => evOps S ops ops.toList f L (K .normal)
  | .seq a b, f, L, K => ev S a f L (metK K fun f L => ev S b f L K)
  | .cond c a b, f, L, K => rd f c fun
    | .bool g => EvIf (dstsC a ++ dstsC b) g f (fun K => ev S a f L K) (fun K => ev S b f L K) K
    | _ => False
  | .block id c, f, L, K => ev S c f L (blockK id K)
  | .loop c, f, L, K => EvLoop (dstsC c) f L (fun f L K => ev S c f L K) K
  | .exit id, f, L, K => K (.exit id) f L
  | .ret, f, L, K => K .ret f L
  | .label _, f, L, K => K .normal f L
  | .scope c, f, L, K => ev S c f L (scopeK K)
  | .goto l, f, L, K => K (.goto l) f L
  | .rangeFunc .., _, _, _ => False
  | .refuse _, _, _, _ => False

theorem evOps_ok {S : Sig} (hS : S.Ok) {ops : Array Oper} {Γ : Ctx} {K : Fr → SH → Prop} {Q : Exit → Act → World → Prop} (hQ : ∀ f L a w, K f L → FrOk f a → Good Γ L w → Q .normal a w) :
    ∀ (l : List Oper) (f : Fr) (L : SH) (a : Act) (w : World), evOps S ops l f L K → FrOk f a → Good Γ L w → wpList S.P ops Q l a w
  | [], f, L, a, w, h, hf, hg => hQ f L a w h hf hg
  | o :: r, f, L, a, w, h, hf, hg => by
    simp only [evOps] at h
    obtain ⟨h1, h2⟩ := guardK_ok hf h
    unfold wpList
    split
    · rename_i hw
      refine .inl (effK_ok hS hf (Γ := Γ) (h1 hw) w hg _ Q fun v L' w' hk hg' => ?_)
      rw [putK_eq] at hk
      exact evOps_ok hS hQ r _ L' _ w' hk (hf.put _ _) hg'
    · rename_i hw
      have := h2 (by simpa using hw)
      rw [skipK_eq] at this
      exact evOps_ok hS hQ r _ L _ w this (hf.skip _) hg

/-- What a run leaves. -/
def Post (Γ : Ctx) (K : Exit → Fr → SH → Prop) (e : Exit) (a : Act) (w : World) : Prop :=
  (∃ f L, K e f L ∧ FrOk f a ∧ Good Γ L w)

theorem Met.use {Γ : Ctx} {ds : List Nat} {f f' : Fr} {L' : SH} {α : Type} {inv : α → Prop} {fr : α → List (Nat × Value)} {sh : α → SH} {a : Act} {w : World} (h : Met ds f inv fr sh f' L') (hf : FrOk f' a) (hg : Good Γ L' w) :
    ∃ x, inv x ∧ FrOk (havoc ds (fr x) 0 f) a ∧ Good Γ (sh x) w := by
  obtain ⟨x, h1, h2, h3, h4⟩ := h
  exact ⟨x, h1, hf.havoc h2 h3, hg.takes h4⟩

theorem draw_ok {S : Sig} (hS : S.Ok) (hm : S.P.follows .mixedOrders = true) {id : Nat} {ops : Array Oper} {Γ : Ctx} {K : Fr → SH → Prop} {Q : Exit → Act → World → Prop} (hQ : ∀ f L a w, K f L → FrOk f a → Good Γ L w → Q .normal a w)
    (hP : ∀ c a w a' w', Q (.panic c) a w → Q (.panic c) a' w') {f : Fr} {L : SH} {a : Act} {w : World} (h : EvDraw S ops f L K) (hf : FrOk f a) (hg : Good Γ L w) : (Code.region id ops true).wp S.P Q a w := by
  have key : ∀ (plan : Plan) (K' : Fr → SH → Prop), (Region.noSelect ops && planB S ops plan (Array.replicate ops.size false) && Nat.beq (Plan.count plan) ops.size) = true → (∀ f L a w, K' f L → FrOk f a → Good Γ L w → Q .normal a w) →
      evD S ops plan f L K' → (Code.region id ops true).wp S.P Q a w := by
    intro plan K' hB hQ' h
    simp only [Bool.and_eq_true] at hB
    have hc := Nat.eq_of_beq_eq_true hB.2
    refine wp_region_any hm ?_
    have hcl : Closed ops (Array.replicate ops.size false) := ⟨by simp, fun j oj _ hl => by
      exfalso
      by_cases hj : j < ops.size
      · simp [hj] at hl
      · simp [hj] at hl⟩
    have := evD_ok hS hB.1.1 hQ' hP plan _ f L a { w with drawn := w.drawn + 1 } hB.1.2 hcl h hf (hg.same rfl rfl rfl rfl)
    rw [hc] at this
    exact this
  cases h with
  | mk plan hB h => exact key plan K hB hQ h
  | cut inv fr sh plan hB h k =>
    refine key plan _ hB (fun f' L' a' w' hmet hf' hg' => ?_) h
    obtain ⟨x, hx, hf2, hg2⟩ := Met.use hmet hf' hg'
    have := k x hx
    rw [havocK_eq, listK_eq] at this
    exact hQ _ _ _ _ this hf2 hg2

/-- **Code.** -/
theorem ev_ok {S : Sig} (hS : S.Ok) (hm : S.P.follows .mixedOrders = true) {Γ : Ctx} : ∀ (c : Code) (f : Fr) (L : SH) (K : Exit → Fr → SH → Prop) (Q : Exit → Act → World → Prop) (a : Act) (w : World),
    (∀ e f L a w, K e f L → FrOk f a → Good Γ L w → Q e a w) → (∀ c a w a' w', Q (.panic c) a w → Q (.panic c) a' w') → ev S c f L K → FrOk f a → Good Γ L w → c.wp S.P Q a w
  | .skip, f, L, K, Q, a, w, hQ, _, h, hf, hg => wp_skip (hQ _ _ _ _ _ h hf hg)
  | .region id ops draw, f, L, K, Q, a, w, hQ, hP, h, hf, hg => by
    simp only [ev] at h
    have reg : ∀ (K' : Fr → SH → Prop), (∀ f L a w, K' f L → FrOk f a → Good Γ L w → Q .normal a w) → evOps S ops ops.toList f L K' → (Code.region id ops false).wp S.P Q a w := fun K' hQ' h' =>
      wp_region_list (evOps_ok hS hQ' ops.toList f L a w h' hf hg)
    have dr : ∀ (K' : Fr → SH → Prop), (∀ f L a w, K' f L → FrOk f a → Good Γ L w → Q .normal a w) → EvDraw S ops f L K' → (Code.region id ops true).wp S.P Q a w := fun K' hQ' h' =>
      draw_ok hS hm hQ' hP h' hf hg
    have cutQ : ∀ {α : Type} (inv : α → Prop) (fr : α → List (Nat × Value)) (sh : α → SH), (∀ x, inv x → havocK (dstsOps ops.toList) (fr x) 0 f fun f' => listK (sh x) fun L' => K .normal f' L') →
        ∀ f' L' a w, Met (dstsOps ops.toList) f inv fr sh f' L' → FrOk f' a → Good Γ L' w → Q .normal a w := by
      intro α inv fr sh k f' L' a w hmet hf' hg'
      obtain ⟨x, hx, hf2, hg2⟩ := hmet.use hf' hg'
      have := k x hx
      rw [havocK_eq, listK_eq] at this
      exact hQ _ _ _ _ _ this hf2 hg2
    split at h
    · cases h with
      | direct h => exact dr _ (fun f L a w => hQ .normal f L a w) h
      | cut inv fr sh h k => exact dr _ (cutQ inv fr sh k) h
    · exact dr _ (fun f L a w => hQ .normal f L a w) h
    · cases h with
      | direct h => exact reg _ (fun f L a w => hQ .normal f L a w) h
      | cut inv fr sh h k => exact reg _ (cutQ inv fr sh k) h
    · exact reg _ (fun f L a w => hQ .normal f L a w) h
  | .seq x y, f, L, K, Q, a, w, hQ, hP, h, hf, hg => by
    simp only [ev] at h
    refine wp_seq (ev_ok hS hm x f L _ _ a w ?_ ?_ h hf hg)
    · intro e f' L' a' w' hk hf' hg'
      cases e with
      | normal => exact ev_ok hS hm y f' L' K Q a' w' hQ hP hk hf' hg'
      | exit i => exact hQ _ _ _ _ _ hk hf' hg'
      | goto i => exact hQ _ _ _ _ _ hk hf' hg'
      | ret => exact hQ _ _ _ _ _ hk hf' hg'
      | panic c => exact hQ _ _ _ _ _ hk hf' hg'
      | outgrown => exact hQ _ _ _ _ _ hk hf' hg'
    · exact fun c a w a' w' h => hP c a w a' w' h
  | .cond c x y, f, L, K, Q, a, w, hQ, hP, h, hf, hg => by
    simp only [ev] at h
    have h := rd_ok hf h
    split at h
    · rename_i g hc
      cases h with
      | br h =>
        have h := h.ok
        exact wp_cond_split hc (fun hg1 => ev_ok hS hm x f L K Q a w hQ hP (h.1 hg1) hf hg) (fun hg1 => ev_ok hS hm y f L K Q a w hQ hP (h.2 hg1) hf hg)
      | cut inv fr sh h k =>
        have h := h.ok
        have hQ' : ∀ e f' L' a w, metK K (Met (dstsC x ++ dstsC y) f inv fr sh) e f' L' → FrOk f' a → Good Γ L' w → Q e a w := by
          intro e f' L' a' w' hk hf' hg'
          cases e with
          | normal =>
            obtain ⟨z, hz, hf2, hg2⟩ := Met.use hk hf' hg'
            have := k z hz
            rw [havocK_eq, listK_eq] at this
            exact hQ _ _ _ _ _ this hf2 hg2
          | exit i => exact hQ _ _ _ _ _ hk hf' hg'
          | goto i => exact hQ _ _ _ _ _ hk hf' hg'
          | ret => exact hQ _ _ _ _ _ hk hf' hg'
          | panic c => exact hQ _ _ _ _ _ hk hf' hg'
          | outgrown => exact hQ _ _ _ _ _ hk hf' hg'
        exact wp_cond_split hc (fun hg1 => ev_ok hS hm x f L _ Q a w hQ' hP (h.1 hg1) hf hg) (fun hg1 => ev_ok hS hm y f L _ Q a w hQ' hP (h.2 hg1) hf hg)
    · exact h.elim
  | .block id x, f, L, K, Q, a, w, hQ, hP, h, hf, hg => by
    simp only [ev] at h
    refine wp_block (ev_ok hS hm x f L _ _ a w ?_ ?_ h hf hg)
    · intro e f' L' a' w' hk hf' hg'
      cases e with
      | normal => exact hQ _ _ _ _ _ hk hf' hg'
      | exit i =>
        simp only [blockK] at hk
        simp only [Exit.inBlock]
        split at hk
        · rename_i hb
          have := Nat.eq_of_beq_eq_true hb
          subst this
          rw [if_pos rfl]
          exact hQ _ _ _ _ _ hk hf' hg'
        · rename_i hb
          rw [if_neg (fun he => by subst he; simp at hb)]
          exact hQ _ _ _ _ _ hk hf' hg'
      | goto i => exact hQ _ _ _ _ _ hk hf' hg'
      | ret => exact hQ _ _ _ _ _ hk hf' hg'
      | panic c => exact hQ _ _ _ _ _ hk hf' hg'
      | outgrown => exact hQ _ _ _ _ _ hk hf' hg'
    · exact fun c a w a' w' h => hP c a w a' w' h
  | .loop x, f, L, K, Q, a, w, hQ, hP, h, hf, hg => by
    simp only [ev] at h
    obtain ⟨inv, μ, fr, sh, entry, round⟩ := h
    obtain ⟨x0, hx0, hf0, hg0⟩ := entry.use hf hg
    refine wp_loop_ghost (fun n a w => ∃ y, inv y ∧ μ y = n ∧ FrOk (havoc (dstsC x) (fr y) 0 f) a ∧ Good Γ (sh y) w) (μ x0) ⟨x0, hx0, rfl, hf0, hg0⟩ ?_
    rintro n a' w' ⟨y, hy, rfl, hfy, hgy⟩
    have hr := round y hy
    rw [havocK_eq, listK_eq] at hr
    refine ev_ok hS hm x _ _ _ _ a' w' ?_ ?_ hr hfy hgy
    · intro e f' L' a2 w2 hk hf' hg'
      cases e with
      | normal =>
        obtain ⟨z, ⟨hz, hlt⟩, hf2, hg2⟩ := Met.use hk hf' hg'
        exact ⟨μ z, hlt, z, hz, rfl, hf2, hg2⟩
      | exit i => exact hQ _ _ _ _ _ hk hf' hg'
      | goto i => exact hQ _ _ _ _ _ hk hf' hg'
      | ret => exact hQ _ _ _ _ _ hk hf' hg'
      | panic c => exact hQ _ _ _ _ _ hk hf' hg'
      | outgrown => exact hQ _ _ _ _ _ hk hf' hg'
    · exact fun c a w a' w' h => hP c a w a' w' h
  | .exit id, f, L, K, Q, a, w, hQ, _, h, hf, hg => wp_exit (hQ _ _ _ _ _ h hf hg)
  | .ret, f, L, K, Q, a, w, hQ, _, h, hf, hg => wp_ret (hQ _ _ _ _ _ h hf hg)
  | .label l, f, L, K, Q, a, w, hQ, _, h, hf, hg => wp_label (hQ _ _ _ _ _ h hf hg)
  | .goto l, f, L, K, Q, a, w, hQ, _, h, hf, hg => wp_goto (hQ _ _ _ _ _ h hf hg)
  | .scope x, f, L, K, Q, a, w, hQ, hP, h, hf, hg => by
    simp only [ev] at h
    refine wp_scope_straight (ev_ok hS hm x f L _ _ a w ?_ ?_ h hf hg)
    · intro e f' L' a' w' hk hf' hg'
      cases e with
      | normal => exact hQ _ _ _ _ _ hk hf' hg'
      | exit i => exact hQ _ _ _ _ _ hk hf' hg'
      | goto i => exact hk.elim
      | ret => exact hQ _ _ _ _ _ hk hf' hg'
      | panic c => exact hQ _ _ _ _ _ hk hf' hg'
      | outgrown => exact hQ _ _ _ _ _ hk hf' hg'
    · exact fun c a w a' w' h => hP c a w a' w' h
  | .rangeFunc .., _, _, _, _, _, _, _, _, h, _, _ => h.elim
  | .refuse _, _, _, _, _, _, _, _, _, h, _, _ => h.elim

/-! ### Functions -/
inductive EvRet (L : SH) (v : Value) (post : Value → SH → Prop) : Prop
  | mk (O' : SH) (ht : Takes L O') (hs : shared O' = []) (h : post v O')

def resK (S : Sig) (f : Fr) (L : SH) : List ResultVar → (List Value → Prop) → Prop
  | [], k => k []
  | .tmp t :: r, k => match getF f t with
    | some v => resK S f L r fun vs => k (v :: vs)
    | none => False
  | .cell t ty :: r, k => match getF f t with
    | some (.pointer (some a)) => loadK S ty a L fun v => resK S f L r fun vs => k (v :: vs)
    | _ => False

def oneOr : List Value → Value
  | [v] => v
  | vs => .tuple ⟨vs⟩

def endK (S : Sig) (rs : List ResultVar) (post : Value → SH → Prop) (e : Exit) (f : Fr) (L : SH) : Prop :=
  match e with
  | .normal => resK S f L rs fun vs => EvRet L (oneOr vs) post
  | .ret => resK S f L rs fun vs => EvRet L (oneOr vs) post
  | _ => False

def resRd (tmps : Array Value) (x : ResultVar) : Sem Value :=
  match x with
  | .tmp t => pure (tmps.getD t undef)
  | .cell a t => do loadVar t (← asAddr (tmps.getD a undef))

theorem resK_ok {S : Sig} (hS : S.Ok) {f : Fr} {L : SH} {a : Act} (hf : FrOk f a) {w : World} (hw : Holds w L) : ∀ (rs : List ResultVar) (k : List Value → Prop), resK S f L rs k →
    ∃ vs, k vs ∧ (rs.mapM (resRd a.tmps)).run S.P w = .ok vs w
  | [], k, h => ⟨[], h, by simp⟩
  | .tmp t :: r, k, h => by
    simp only [resK] at h
    split at h
    · rename_i v hv
      have hs := hf.slot t v hv
      obtain ⟨vs, h1, h2⟩ := resK_ok hS hf hw r _ h
      exact ⟨v :: vs, h1, by simp [List.mapM_cons, resRd, hs, h2]⟩
    · exact h.elim
  | .cell t ty :: r, k, h => by
    simp only [resK] at h
    split at h
    · rename_i ad hv
      have hs := hf.slot t _ hv
      obtain ⟨v, h1, h2⟩ := loadK_ok hS h
      obtain ⟨vs, h3, h4⟩ := resK_ok hS hf hw r _ h1
      have h5 : (loadVar ty ad).run S.P w = .ok v w := by
        have := h2 w hw
        simpa [Instr.loadAt, Instr.sureAddr] using this
      exact ⟨v :: vs, h3, by simp [List.mapM_cons, resRd, hs, asAddr, h5, h4]⟩
    · exact h.elim

def frame0 (args : List Value) (n : Nat) : Fr := args.map some ++ List.replicate (n - args.length) none

/-- **A function's contract, out of its code.** -/
theorem Spec.of_ev {S : Sig} (hS : S.Ok) (hm : S.P.follows .mixedOrders = true) {k : Nat} {fn : Func} {c : Code} {args : List Value} {O : SH} {post : Value → SH → Prop} (hf : S.P.funcs[k]? = some fn) (hb : fn.body = some c) (hn : (fn.name == "runtime.NumGoroutine") = false)
    (h : listK (frame0 args fn.ntmps) fun f => ev S c f O (endK S fn.results.toList post)) : Spec S.P k args O post := by
  refine ⟨⟨fn, hf, by simp [hb], hn⟩, fun w h1 h2 h3 => ?_⟩
  rw [listK_eq] at h
  let Γ : Ctx := ⟨w, owned O⟩
  have hg : Good Γ O w := ⟨Keep.refl _ _, h1, h2, h3, fun b hb => .inl hb⟩
  refine calls_of_wp hf hb ?_
  refine ev_ok hS hm c _ O _ _ _ w ?_ ?_ h ?_ hg
  · intro e f L a w' hk hf' hg'
    have fin : (resK S f L fn.results.toList fun vs => EvRet L (oneOr vs) post) → a.defers = [] ∧ ∃ v, (results fn a.tmps).run S.P w' = .ok v w' ∧ ∃ v' O', Ending.returned v = .returned v' ∧ post v' O' ∧ Left O w O' w' := by
      intro hr
      obtain ⟨vs, ⟨O', ht, hs, hpost⟩, hrun⟩ := resK_ok hS hf' hg'.holds _ _ hr
      have hgO := hg'.takes ht
      refine ⟨hf'.defers, oneOr vs, ?_, oneOr vs, O', rfl, hpost, hgO.keep, hgO.holds, hgO.nodup, hgO.apart, fun b hb => ?_⟩
      · have hmr : (fn.results.mapM (resRd a.tmps)).run S.P w' = .ok vs.toArray w' := by
          rw [Array.mapM_eq_mapM_toList, Sem.run_map, hrun]; rfl
        have hres : results fn a.tmps = (do let vs ← fn.results.mapM (resRd a.tmps); pure (if h : vs.size = 1 then vs[0] else .tuple vs)) := rfl
        rw [hres, Sem.run_bind, hmr]
        simp only [Result.andThen_ok, Sem.run_pure]
        congr 1
        cases vs with
        | nil => rfl
        | cons v r =>
          cases r with
          | nil => rfl
          | cons u r => simp [oneOr]
      · rcases hb with hb | hb
        · exact hgO.own b hb
        · rw [hs] at hb; cases hb
    cases e with
    | normal => exact fin hk
    | ret => exact fin hk
    | exit i => exact hk.elim
    | goto i => exact hk.elim
    | panic c => exact hk.elim
    | outgrown => exact hk.elim
  · rintro c a w a' w' ⟨_, v, O', h, _⟩
    cases h
  · refine ⟨rfl, by simp [frame0], fun i v h => ?_⟩
    have getF_eq : ∀ (f : Fr) (i : Nat), getF f i = (f[i]?).join := by
      intro f
      induction f with
      | nil => intro i; simp [getF]
      | cons x r ih => intro i; cases i <;> simp [getF, ih]
    rw [getF_eq] at h
    unfold frame0 at h
    by_cases hi : i < args.length
    · rw [List.getElem?_append_left (by simpa using hi)] at h
      simp only [List.getElem?_map, List.getElem?_eq_getElem hi, Option.map_some, Option.join_some] at h
      cases h
      rw [Array.getElem?_append_left (by simpa using hi)]
      simp [hi]
    · rw [List.getElem?_append_right (by simpa using hi), List.getElem?_replicate] at h
      split at h <;> cases h

end Go.Proofs.Ytloknkdomgeolaa.She
