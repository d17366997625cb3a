/- Payloads of slots, in plain terms: what is laid can be read; what is apart takes no more room than there is. -/
import Derived.Test.YtloknkdomgeolaaSlE
namespace Go.Proofs.Ytloknkdomgeolaa.She
set_option linter.all false
open Go
set_option maxRecDepth 10000

theorem nb_set (l : List UInt8) (i : Nat) (b : UInt8) (j : Nat) : nb (l.set i b) j = if i = j ∧ i < l.length then b.toNat else nb l j := by
  unfold nb
  rw [List.getD_eq_getElem?_getD, List.getD_eq_getElem?_getD, List.getElem?_set]
  by_cases h : i = j
  · subst h
    by_cases h2 : i < l.length
    · simp [h2]
    · simp [h2]
  · simp [h]

theorem tw_setTw_same {l : List UInt8} {i n : Nat} (h : i + 1 < l.length) (hn : n < 65536) : tw (setTw l i n) i = n := by
  unfold tw setTw
  rw [nb_set, nb_set, nb_set, if_neg (by omega), if_pos ⟨rfl, by omega⟩, if_pos ⟨rfl, by simp; omega⟩]
  simp only [UInt8.toNat_ofNat']
  omega

theorem tw_setTw_ne {l : List UInt8} {i n k : Nat} (h : k + 1 < i ∨ i + 1 < k) : tw (setTw l i n) k = tw l k := by
  unfold tw setTw
  rw [nb_set, nb_set, nb_set, nb_set, if_neg (by omega), if_neg (by omega), if_neg (by omega), if_neg (by omega)]

theorem setTw_drop {l : List UInt8} {i n k : Nat} (h : i + 1 < k) : (setTw l i n).drop k = l.drop k := by
  unfold setTw
  rw [List.drop_set_of_lt h, List.drop_set_of_lt (by omega)]

theorem layN_drop (b : List UInt8) (xs : List (Nat × Nat)) (k : Nat) : ∀ i, 4 + 4 * i ≤ k → (layN b xs i).drop k = b.drop k
  | 0, _ => rfl
  | i + 1, h => by rw [layN, setTw_drop (by omega), setTw_drop (by omega), layN_drop b xs k i (by omega)]

theorem layN_tw (b : List UInt8) (xs : List (Nat × Nat)) (k : Nat) (hk : k ≤ 2) : ∀ i, tw (layN b xs i) k = tw b k
  | 0 => rfl
  | i + 1 => by rw [layN, tw_setTw_ne (by omega), tw_setTw_ne (by omega), layN_tw b xs k hk i]

theorem layN_slot {b : List UInt8} {xs : List (Nat × Nat)} (hb : 4 + 4 * xs.length ≤ b.length) (hx : ∀ x ∈ xs, x.1 < 65536 ∧ x.2 < 65536) : ∀ i, i ≤ xs.length → ∀ j, j < i → slot (layN b xs i) j = xs.getD j (0, 0)
  | 0, _, j, hj => absurd hj (by omega)
  | i + 1, hi, j, hj => by
    have hlen := layN_length b xs i
    have hm : xs.getD i (0, 0) ∈ xs := by
      rw [List.getD_eq_getElem?_getD, List.getElem?_eq_getElem (by omega)]; exact List.getElem_mem _
    obtain ⟨h1, h2⟩ := hx _ hm
    by_cases hji : j = i
    · subst hji
      unfold slot
      rw [layN, tw_setTw_ne (by omega), tw_setTw_same (by rw [hlen]; omega) h1, tw_setTw_same (by simp; omega) h2]
    · have ih := layN_slot hb hx i (by omega) j (by omega)
      unfold slot at ih ⊢
      rw [layN, tw_setTw_ne (by omega), tw_setTw_ne (by omega), tw_setTw_ne (by omega), tw_setTw_ne (by omega)]
      exact ih

/-- What `with` lays can be read. -/
theorem withB_read {b : List UInt8} {xs : List (Nat × Nat)} {heap : Nat} (hb : 4 + 4 * xs.length ≤ b.length) (hl : b.length < 1000) (hx : ∀ x ∈ xs, x.1 < 65536 ∧ x.2 < 65536) (hh : heap < 65536) :
    tw (withB b xs heap) 0 = xs.length ∧ tw (withB b xs heap) 2 = heap ∧ slotsOf (withB b xs heap) xs.length = xs ∧ ∀ k, 4 + 4 * xs.length ≤ k → (withB b xs heap).drop k = b.drop k := by
  unfold withB
  refine ⟨?_, ?_, ?_, fun k hk => ?_⟩
  · rw [layN_tw _ _ _ (by omega), tw_setTw_ne (by omega), tw_setTw_same (by omega) (by omega)]
  · rw [layN_tw _ _ _ (by omega), tw_setTw_same (by simp; omega) hh]
  · apply List.ext_getElem (by simp)
    intro i h1 h2
    have := layN_slot (b := setTw (setTw b 0 xs.length) 2 heap) (by simpa using hb) hx xs.length (by omega) i h2
    simp only [slotsOf, List.getElem_map, List.getElem_range]
    rw [this, List.getD_eq_getElem?_getD, List.getElem?_eq_getElem h2]
    rfl
  · rw [layN_drop _ _ _ _ hk, setTw_drop (by omega), setTw_drop (by omega)]

theorem cutB_eq (l : List UInt8) (x : Nat × Nat) : cutB l x = (l.drop x.1).take x.2 := by
  unfold cutB; rw [List.drop_take]; congr 1; omega
theorem cutB_length {l : List UInt8} {x : Nat × Nat} (h : x.1 + x.2 ≤ l.length) : (cutB l x).length = x.2 := by
  rw [cutB_eq]; simp; omega

/-- Slots of a heap that begins at h: each within, no two on one another. -/
def GoodX (h : Nat) (xs : List (Nat × Nat)) : Prop := (∀ x ∈ xs, h ≤ x.1 ∧ x.1 + x.2 ≤ 232) ∧ xs.Pairwise apartP
theorem apartP_symm {x y : Nat × Nat} (h : apartP x y) : apartP y x := by unfold apartP at *; omega

theorem sound_iff (l : List UInt8) : SoundP l ↔ tw l 2 ≤ 232 ∧ 4 + 4 * tw l 0 ≤ tw l 2 ∧ GoodX (tw l 2) (slotsOf l (tw l 0)) := by
  unfold SoundP GoodX
  refine and_congr_right fun _ => and_congr_right fun _ => ⟨fun h => ⟨fun x hx => ?_, ?_⟩, fun h i hi => ⟨?_, fun j hj => ?_⟩⟩
  · obtain ⟨i, hi, rfl⟩ := List.mem_map.1 hx
    exact (h i (by simpa using hi)).1
  · rw [List.pairwise_iff_getElem]
    intro i j hi hj hij
    simp only [slotsOf, List.getElem_map, List.getElem_range]
    exact apartP_symm ((h j (by simpa using hj)).2 i hij)
  · exact h.1 _ (List.mem_map.2 ⟨i, by simpa using hi, rfl⟩)
  · have := List.pairwise_iff_getElem.1 h.2 j i (by simp; omega) (by simpa using hi) hj
    simp only [slotsOf, List.getElem_map, List.getElem_range] at this
    exact apartP_symm this

/-! ### Room -/
def sumL : List Nat → Nat
  | [] => 0
  | x :: r => x + sumL r
theorem sumL_append : ∀ a b : List Nat, sumL (a ++ b) = sumL a + sumL b
  | [], b => by simp [sumL]
  | x :: r, b => by simp [sumL, sumL_append r b, Nat.add_assoc]

def sumR (f : Nat → Nat) : Nat → Nat
  | 0 => 0
  | n + 1 => sumR f n + f n
theorem sumR_add (f g : Nat → Nat) : ∀ n, sumR (fun k => f k + g k) n = sumR f n + sumR g n
  | 0 => rfl
  | n + 1 => by simp only [sumR, sumR_add f g n]; omega
theorem sumR_le {f g : Nat → Nat} (h : ∀ k, f k ≤ g k) : ∀ n, sumR f n ≤ sumR g n
  | 0 => Nat.le_refl _
  | n + 1 => by have := sumR_le h n; have := h n; simp only [sumR]; omega
def ind (a n k : Nat) : Nat := if a ≤ k ∧ k < a + n then 1 else 0
theorem sumR_ind (a n : Nat) : ∀ m, sumR (ind a n) m = min m (a + n) - min m a
  | 0 => by simp [sumR]
  | m + 1 => by
    simp only [sumR, sumR_ind a n m, ind]
    split <;> omega
theorem sumR_zero : ∀ n, sumR (fun _ => 0) n = 0
  | 0 => rfl
  | n + 1 => by simp [sumR, sumR_zero n]
def cov (xs : List (Nat × Nat)) (k : Nat) : Nat := sumL (xs.map fun x => ind x.1 x.2 k)

theorem sumR_cov : ∀ (xs : List (Nat × Nat)), (∀ x ∈ xs, x.1 + x.2 ≤ 232) → sumR (cov xs) 232 = sumL (xs.map (·.2))
  | [], _ => by simp only [cov, List.map_nil, sumL]; exact sumR_zero 232
  | x :: r, h => by
    have e : cov (x :: r) = fun k => ind x.1 x.2 k + cov r k := by funext k; simp [cov, sumL]
    rw [e, sumR_add, sumR_cov r (fun y hy => h y (.tail _ hy))]
    have h1 := h x (.head _)
    have := sumR_ind x.1 x.2 232
    simp only [List.map_cons, sumL]
    have e2 : sumR (ind x.1 x.2) 232 = x.2 := by omega
    rw [show (sumR fun k => ind x.1 x.2 k) = sumR (ind x.1 x.2) from rfl, e2]

theorem cov_zero : ∀ (xs : List (Nat × Nat)) (k : Nat), (∀ x ∈ xs, ¬ (x.1 ≤ k ∧ k < x.1 + x.2)) → cov xs k = 0
  | [], _, _ => rfl
  | x :: r, k, h => by
    have e : cov (x :: r) k = ind x.1 x.2 k + cov r k := by simp [cov, sumL]
    rw [e, cov_zero r k (fun y hy => h y (.tail _ hy)), ind, if_neg (h x (.head _))]
theorem cov_le : ∀ (xs : List (Nat × Nat)) (k : Nat), xs.Pairwise apartP → cov xs k ≤ 1
  | [], _, _ => by simp [cov, sumL]
  | x :: r, k, h => by
    have e : cov (x :: r) k = ind x.1 x.2 k + cov r k := by simp [cov, sumL]
    rw [List.pairwise_cons] at h
    by_cases hx : x.1 ≤ k ∧ k < x.1 + x.2
    · have hz := cov_zero r k fun y hy hk => by
        have := h.1 y hy
        unfold apartP at this
        omega
      rw [e, hz, ind, if_pos hx]
      exact Nat.le_refl _
    · rw [e, ind, if_neg hx, Nat.zero_add]
      exact cov_le r k h.2

/-- What is apart takes no more room than there is. -/
theorem GoodX.sum {h : Nat} {xs : List (Nat × Nat)} (hg : GoodX h xs) (hh : h ≤ 232) : sumL (xs.map (·.2)) ≤ 232 - h := by
  rw [← sumR_cov xs fun x hx => (hg.1 x hx).2]
  have h1 : ∀ k, cov xs k ≤ ind h 232 k := by
    intro k
    by_cases hk : h ≤ k
    · by_cases hk2 : k < h + 232
      · rw [ind, if_pos ⟨hk, hk2⟩]; exact cov_le xs k hg.2
      · rw [cov_zero xs k fun x hx hc => by have := (hg.1 x hx).2; omega]; exact Nat.zero_le _
    · rw [cov_zero xs k fun x hx hc => by have := (hg.1 x hx).1; omega]; exact Nat.zero_le _
  have h2 := sumR_le h1 232
  rw [sumR_ind] at h2
  omega

/-! ### Records -/
theorem roomN_eq (l : List UInt8) : ∀ n, roomN l n = 228 - (4 * n + sumL ((slotsOf l n).map (·.2)))
  | 0 => by simp [roomN, slotsOf, sumL]
  | n + 1 => by
    rw [roomN, roomN_eq l n, slotsOf_succ, List.map_append, sumL_append]
    simp only [List.map_cons, List.map_nil, sumL, slot]
    omega

/-- The room that a list of records leaves. -/
def roomL (rs : List (List UInt8)) : Int := 228 - (4 * rs.length + sumL (rs.map List.length) : Nat)

theorem chk_good {l : List UInt8} (h : chk l = 0) : l.length = 232 ∧ tw l 2 ≤ 232 ∧ 4 + 4 * tw l 0 ≤ tw l 2 ∧ GoodX (tw l 2) (slotsOf l (tw l 0)) := by
  obtain ⟨h1, h2⟩ := chk_zero h
  exact ⟨h1, (sound_iff l).1 h2⟩
theorem recs_eq {l : List UInt8} (h : chk l = 0) : recs l = (slotsOf l (tw l 0)).map (cutB l) := by simp [recs, h, recsOf]
theorem recs_lens {l : List UInt8} (h : chk l = 0) : (recs l).map List.length = (slotsOf l (tw l 0)).map (·.2) := by
  obtain ⟨h1, h2, h3, h4⟩ := chk_good h
  rw [recs_eq h, List.map_map]
  apply List.map_congr_left
  intro x hx
  exact cutB_length (by have := (h4.1 x hx).2; omega)
theorem room_eq {l : List UInt8} (h : chk l = 0) : room l = roomL (recs l) := by
  have e : (recs l).length = tw l 0 := by rw [recs_eq h]; simp
  simp only [room, h, if_true, roomN_eq, roomL, recs_lens h, e]
  omega
theorem recs_sum {l : List UInt8} (h : chk l = 0) : sumL ((recs l).map List.length) ≤ 232 - tw l 2 := by
  obtain ⟨h1, h2, h3, h4⟩ := chk_good h
  rw [recs_lens h]; exact h4.sum h2

/-- A payload that `with` lays over a sound heap. -/
theorem withB_sound {b : List UInt8} {xs : List (Nat × Nat)} {heap : Nat} (hb : b.length = 232) (hh : heap ≤ 232) (hn : 4 + 4 * xs.length ≤ heap) (hg : GoodX heap xs) :
    chk (withB b xs heap) = 0 ∧ tw (withB b xs heap) 0 = xs.length ∧ tw (withB b xs heap) 2 = heap ∧ slotsOf (withB b xs heap) xs.length = xs ∧ recs (withB b xs heap) = xs.map (cutB b) := by
  have hlt : ∀ x ∈ xs, x.1 < 65536 ∧ x.2 < 65536 := fun x hx => by have := hg.1 x hx; omega
  obtain ⟨r1, r2, r3, r4⟩ := withB_read (b := b) (xs := xs) (heap := heap) (by omega) (by omega) hlt (by omega)
  have hc : chk (withB b xs heap) = 0 := chk_of (by simpa using hb) ((sound_iff _).2 ⟨by omega, by omega, by rw [r1, r2, r3]; exact hg⟩)
  refine ⟨hc, r1, r2, r3, ?_⟩
  rw [recs_eq hc, r1, r3]
  apply List.map_congr_left
  intro x hx
  rw [cutB_eq, cutB_eq, r4 _ (by have := hg.1 x hx; omega)]

/-! ### Compact -/
/-- Where record i ends, from below, when records are pushed together. -/
def posN (rs : List (List UInt8)) (i : Nat) : Nat := 232 - sumL ((rs.take i).map List.length)
def tosN (rs : List (List UInt8)) (n : Nat) : List (Nat × Nat) := (List.range n).map fun i => (posN rs (i + 1), (rs.getD i []).length)
def compBuf (rs : List (List UInt8)) (i : Nat) : List UInt8 := List.replicate (posN rs i) 0 ++ (rs.take i).reverse.flatten
def compact (rs : List (List UInt8)) : List UInt8 := withB (compBuf rs rs.length) (tosN rs rs.length) (posN rs rs.length)

theorem take_succ_getD {α : Type} {l : List α} {i : Nat} (h : i < l.length) (d : α) : l.take (i + 1) = l.take i ++ [l.getD i d] := by
  rw [List.take_succ_eq_append_getElem h, List.getD_eq_getElem?_getD, List.getElem?_eq_getElem h]; rfl

theorem sumL_take_succ {rs : List (List UInt8)} {i : Nat} (h : i < rs.length) : sumL ((rs.take (i + 1)).map List.length) = sumL ((rs.take i).map List.length) + (rs.getD i []).length := by
  rw [take_succ_getD h [], List.map_append, sumL_append]; simp [sumL]
theorem sumL_take_le (rs : List (List UInt8)) (i : Nat) : sumL ((rs.take i).map List.length) ≤ sumL (rs.map List.length) := by
  have e : rs.map List.length = (rs.take i).map List.length ++ (rs.drop i).map List.length := by rw [← List.map_append, List.take_append_drop]
  rw [e, sumL_append]; omega
theorem posN_succ {rs : List (List UInt8)} {i : Nat} (h : i < rs.length) (hs : sumL (rs.map List.length) ≤ 232) : posN rs (i + 1) + (rs.getD i []).length = posN rs i ∧ posN rs i ≤ 232 := by
  have := sumL_take_succ h
  have := sumL_take_le rs (i + 1)
  unfold posN; omega
theorem flatten_rev_length : ∀ rs : List (List UInt8), rs.reverse.flatten.length = sumL (rs.map List.length)
  | [] => rfl
  | x :: r => by simp [flatten_rev_length r, sumL, List.sum_append]; omega
theorem compBuf_length (rs : List (List UInt8)) (i : Nat) (hs : sumL (rs.map List.length) ≤ 232) : (compBuf rs i).length = 232 := by
  have := sumL_take_le rs i
  rw [compBuf, List.length_append, flatten_rev_length, List.length_replicate]; unfold posN; omega
theorem compBuf_succ {rs : List (List UInt8)} {i : Nat} (h : i < rs.length) (hs : sumL (rs.map List.length) ≤ 232) : over (compBuf rs i) (posN rs (i + 1)) (rs.getD i []) = compBuf rs (i + 1) := by
  obtain ⟨h1, h2⟩ := posN_succ h hs
  unfold over compBuf
  rw [take_succ_getD h []]
  rw [List.take_append_of_le_length (by simp; omega), List.take_replicate, Nat.min_eq_left (by omega), h1, List.drop_append_of_le_length (by simp)]
  simp
theorem tosN_succ (rs : List (List UInt8)) (n : Nat) : tosN rs (n + 1) = tosN rs n ++ [(posN rs (n + 1), (rs.getD n []).length)] := by simp [tosN, List.range_succ]
@[simp] theorem tosN_length (rs : List (List UInt8)) (n : Nat) : (tosN rs n).length = n := by simp [tosN]

theorem posN_anti {rs : List (List UInt8)} (hs : sumL (rs.map List.length) ≤ 232) {i : Nat} : ∀ {j : Nat}, i ≤ j → j ≤ rs.length → posN rs j ≤ posN rs i
  | 0, h, _ => by rw [show i = 0 by omega]; exact Nat.le_refl _
  | j + 1, h, hj => by
    by_cases hij : i = j + 1
    · subst hij; exact Nat.le_refl _
    · have := posN_anti hs (i := i) (j := j) (by omega) (by omega)
      have := posN_succ (rs := rs) (i := j) (by omega) hs
      omega

theorem cut_mid (a r t : List UInt8) {p n : Nat} (hp : p = a.length) (hn : n = r.length) : cutB (a ++ r ++ t) (p, n) = r := by
  subst hp; subst hn
  rw [cutB_eq]; simp

/-- What a buffer holds behind the heap's beginning, a longer one holds, too. -/
theorem compBuf_drop {rs : List (List UInt8)} (hs : sumL (rs.map List.length) ≤ 232) {i : Nat} : ∀ {j : Nat}, i ≤ j → j ≤ rs.length → (compBuf rs j).drop (posN rs i) = (rs.take i).reverse.flatten
  | 0, h, _ => by
    have : i = 0 := by omega
    subst this; simp [compBuf]
  | j + 1, h, hj => by
    by_cases hij : i = j + 1
    · subst hij; simp [compBuf]
    · have ih := compBuf_drop hs (i := i) (j := j) (by omega) (by omega)
      have h1 := posN_anti hs (i := i) (j := j) (by omega) (by omega)
      obtain ⟨h2, h3⟩ := posN_succ (rs := rs) (i := j) (by omega) hs
      have hl := compBuf_length rs j hs
      rw [← compBuf_succ (by omega) hs, over, List.drop_append, List.drop_of_length_le (by rw [List.length_append, List.length_take]; omega), List.nil_append, List.drop_drop]
      rw [show posN rs (j + 1) + (rs.getD j []).length + (posN rs i - (List.take (posN rs (j + 1)) (compBuf rs j) ++ rs.getD j []).length) = posN rs i by simp [-List.getD_eq_getElem?_getD]; omega]
      exact ih

theorem rev_flat (a : List (List UInt8)) (x : List UInt8) : (a ++ [x]).reverse.flatten = x ++ a.reverse.flatten := by simp
theorem compact_ok {rs : List (List UInt8)} (h : 4 + 4 * rs.length + sumL (rs.map List.length) ≤ 232) :
    chk (compact rs) = 0 ∧ recs (compact rs) = rs ∧ tw (compact rs) 2 = 232 - sumL (rs.map List.length) ∧ tw (compact rs) 0 = rs.length := by
  have hs : sumL (rs.map List.length) ≤ 232 := by omega
  have hp : posN rs rs.length = 232 - sumL (rs.map List.length) := by unfold posN; rw [List.take_length]
  have hg : GoodX (posN rs rs.length) (tosN rs rs.length) := by
    refine ⟨fun x hx => ?_, ?_⟩
    · obtain ⟨i, hi, rfl⟩ := List.mem_map.1 hx
      have hi : i < rs.length := by simpa using hi
      have h1 := posN_anti hs (i := i + 1) (j := rs.length) (by omega) (by omega)
      have h2 := posN_succ hi hs
      dsimp only
      omega
    · rw [List.pairwise_iff_getElem]
      intro i j hi hj hij
      simp only [tosN, List.getElem_map, List.getElem_range]
      have hj : j < rs.length := by simpa using hj
      have h1 := posN_anti hs (i := i + 1) (j := j) (by omega) (by omega)
      have h2 := posN_succ hj hs
      unfold apartP
      omega
  have hb := compBuf_length rs rs.length hs
  obtain ⟨s1, s2, s3, s4, s5⟩ := withB_sound (b := compBuf rs rs.length) hb (by omega) (by simp; omega) hg
  refine ⟨s1, ?_, by rw [← hp]; exact s3, by rw [← tosN_length rs rs.length]; exact s2⟩
  show recs (withB _ _ _) = rs
  rw [s5]
  apply List.ext_getElem (by simp)
  intro i h1 h2
  simp only [tosN, List.getElem_map, List.getElem_range]
  rw [cutB_eq, compBuf_drop hs (by omega) (by omega), take_succ_getD h2 [], rev_flat, List.take_left]
  simp [List.getD, h2]

/-! ### Insert, Delete -/
def ins (rs : List (List UInt8)) (i : Nat) (r : List UInt8) : List (List UInt8) := rs.take i ++ [r] ++ rs.drop i
def del (rs : List (List UInt8)) (i : Nat) : List (List UInt8) := rs.take i ++ rs.drop (i + 1)

theorem over_cut {b r : List UInt8} {h : Nat} (hl : h + r.length ≤ b.length) : cutB (over b h r) (h, r.length) = r := by
  unfold over
  exact cut_mid _ _ _ (by simp; omega) rfl
theorem over_drop {b r : List UInt8} {h k : Nat} (hl : h + r.length ≤ b.length) (hk : h + r.length ≤ k) : (over b h r).drop k = b.drop k := by
  unfold over
  rw [List.drop_append, List.drop_of_length_le (by simp; omega), List.nil_append, List.drop_drop]
  congr 1
  simp; omega

/-- Into a payload in which there is room at once. -/
def insX (b : List UInt8) (i : Nat) (r : List UInt8) : List UInt8 :=
  withB (over b (tw b 2 - r.length) r) ((slotsOf b (tw b 0)).take i ++ [(tw b 2 - r.length, r.length)] ++ (slotsOf b (tw b 0)).drop i) (tw b 2 - r.length)

theorem insX_ok {b r : List UInt8} {i : Nat} (h : chk b = 0) (hi : i ≤ tw b 0) (hr : 4 + 4 * (tw b 0 + 1) + r.length ≤ tw b 2) : chk (insX b i r) = 0 ∧ recs (insX b i r) = ins (recs b) i r := by
  obtain ⟨h1, h2, h3, h4⟩ := chk_good h
  have hlen := slotsOf_length b (tw b 0)
  have hol : (over b (tw b 2 - r.length) r).length = 232 := by rw [over_length (by omega)]; exact h1
  have hg : GoodX (tw b 2 - r.length) ((slotsOf b (tw b 0)).take i ++ [(tw b 2 - r.length, r.length)] ++ (slotsOf b (tw b 0)).drop i) := by
    refine ⟨fun x hx => ?_, ?_⟩
    · simp only [List.mem_append, List.mem_singleton] at hx
      rcases hx with (hx | hx) | hx
      · have := h4.1 x (List.mem_of_mem_take hx); omega
      · subst hx; dsimp only; omega
      · have := h4.1 x (List.mem_of_mem_drop hx); omega
    · have hp : List.Perm ((slotsOf b (tw b 0)).take i ++ [(tw b 2 - r.length, r.length)] ++ (slotsOf b (tw b 0)).drop i) ((tw b 2 - r.length, r.length) :: slotsOf b (tw b 0)) := by
        have := List.perm_middle (a := (tw b 2 - r.length, r.length)) (l₁ := (slotsOf b (tw b 0)).take i) (l₂ := (slotsOf b (tw b 0)).drop i)
        rw [List.take_append_drop] at this
        simpa using this
      rw [hp.pairwise_iff (fun h => apartP_symm h), List.pairwise_cons]
      refine ⟨fun x hx => ?_, h4.2⟩
      have := h4.1 x hx
      unfold apartP; dsimp only; omega
  obtain ⟨s1, s2, s3, s4, s5⟩ := withB_sound (b := over b (tw b 2 - r.length) r) hol (by omega) (by simp; omega) hg
  refine ⟨s1, ?_⟩
  show recs (withB _ _ _) = _
  have hcut : ∀ x ∈ slotsOf b (tw b 0), cutB (over b (tw b 2 - r.length) r) x = cutB b x := fun x hx => by
    rw [cutB_eq, cutB_eq, over_drop (by omega) (by have := h4.1 x hx; omega)]
  rw [s5, ins, recs_eq h, List.map_append, List.map_append, List.map_singleton, over_cut (by omega), ← List.map_take, ← List.map_drop]
  rw [List.map_congr_left (f := cutB (over b (tw b 2 - r.length) r)) (g := cutB b) fun x hx => hcut x (List.mem_of_mem_take hx)]
  rw [List.map_congr_left (f := cutB (over b (tw b 2 - r.length) r)) (g := cutB b) fun x hx => hcut x (List.mem_of_mem_drop hx)]

/-- What Insert lays. -/
def insB (b : List UInt8) (i : Nat) (r : List UInt8) : List UInt8 := insX (if 4 + 4 * (tw b 0 + 1) + r.length > tw b 2 then compact (recs b) else b) i r
theorem recs_n {b : List UInt8} (h : chk b = 0) : (recs b).length = tw b 0 := by rw [recs_eq h]; simp
theorem recs_room {b : List UInt8} (h : chk b = 0) : 4 + 4 * (recs b).length + sumL ((recs b).map List.length) ≤ 232 := by
  obtain ⟨h1, h2, h3, h4⟩ := chk_good h
  have := recs_sum h
  rw [recs_n h]; omega
theorem insB_ok {b r : List UInt8} {i : Nat} (h : chk b = 0) (hi : i ≤ (recs b).length) (hr : (r.length : Int) ≤ roomL (recs b) - 4) : chk (insB b i r) = 0 ∧ recs (insB b i r) = ins (recs b) i r := by
  unfold insB
  have hn := recs_n h
  split
  · obtain ⟨c1, c2, c3, c4⟩ := compact_ok (recs_room h)
    have := insX_ok (r := r) c1 (i := i) (by omega) (by unfold roomL at hr; omega)
    rw [c2] at this
    exact this
  · exact insX_ok h (by omega) (by omega)

def delB (b : List UInt8) (i : Nat) : List UInt8 := withB b ((slotsOf b (tw b 0)).take i ++ (slotsOf b (tw b 0)).drop (i + 1)) (tw b 2)
theorem delB_ok {b : List UInt8} {i : Nat} (h : chk b = 0) (hi : i < (recs b).length) : chk (delB b i) = 0 ∧ recs (delB b i) = del (recs b) i := by
  obtain ⟨h1, h2, h3, h4⟩ := chk_good h
  have hn := recs_n h
  have hsub : List.Sublist ((slotsOf b (tw b 0)).take i ++ (slotsOf b (tw b 0)).drop (i + 1)) (slotsOf b (tw b 0)) := by
    have e : slotsOf b (tw b 0) = (slotsOf b (tw b 0)).take i ++ (slotsOf b (tw b 0)).drop i := (List.take_append_drop _ _).symm
    conv => rhs; rw [e]
    refine List.Sublist.append_left ?_ _
    rw [← List.drop_drop]
    exact List.drop_sublist _ _
  have hg : GoodX (tw b 2) ((slotsOf b (tw b 0)).take i ++ (slotsOf b (tw b 0)).drop (i + 1)) := ⟨fun x hx => h4.1 x (hsub.subset hx), h4.2.sublist hsub⟩
  obtain ⟨s1, s2, s3, s4, s5⟩ := withB_sound h1 h2 (by simp; omega) hg
  refine ⟨s1, ?_⟩
  show recs (withB _ _ _) = _
  rw [s5, del, recs_eq h, List.map_append, List.map_take, List.map_drop]

theorem mem_sumL {rs : List (List UInt8)} {r : List UInt8} (h : r ∈ rs) : r.length ≤ sumL (rs.map List.length) := by
  induction rs with
  | nil => cases h
  | cons x t ih =>
    simp only [List.map_cons, sumL]
    cases h with
    | head => omega
    | tail _ h => have := ih h; omega

end Go.Proofs.Ytloknkdomgeolaa.She
