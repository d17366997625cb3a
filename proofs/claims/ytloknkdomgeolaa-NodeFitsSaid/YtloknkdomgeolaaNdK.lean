/- Nodes: both halves of a node that has room but for one entry have room; the law NodeFits, walked. -/
import Derived.Test.YtloknkdomgeolaaNdJ
namespace Go.Proofs.Ytloknkdomgeolaa.She
set_option linter.all false
open Go
set_option pp.maxSteps 600
set_option maxRecDepth 10000
set_option maxHeartbeats 4000000

/-! ### The plain law -/
theorem roomL_recsN (leaf : Bool) (l : List En) : roomL (recsN leaf l) = 223 - (bytL l : Int) := by
  have h : ∀ l : List En, sumL ((l.map recE).map List.length) + 4 * l.length = bytL l := by
    intro l
    induction l with
    | nil => rfl
    | cons x r ih =>
      have e : bytL (x :: r) = bytE x + bytL r := by simp [bytL, sumL]
      rw [e, ← ih]
      simp only [List.map_cons, sumL, recE_length, List.length_cons, bytE]
      omega
  have hk : (kindB leaf).length = 1 := by cases leaf <;> rfl
  have := h l
  simp only [roomL, recsN, List.length_cons, List.length_map, List.map_cons, sumL, hk]
  omega

theorem first_over {m : List En} {d : Nat} (hd : 0 < d) : ∀ k, k ≤ m.length → bytL (m.take k) < d ∨ ∃ i, 1 ≤ i ∧ i ≤ k ∧ d ≤ bytL (m.take i) ∧ bytL (m.take (i - 1)) < d
  | 0, _ => .inl (by simp [bytL, sumL]; exact hd)
  | k + 1, hk => by
    rcases first_over (m := m) hd k (by omega) with h | ⟨i, h1, h2, h3, h4⟩
    · by_cases hb : bytL (m.take (k + 1)) < d
      · exact .inl hb
      · exact .inr ⟨k + 1, by omega, by omega, by omega, by simpa using h⟩
    · exact .inr ⟨i, h1, by omega, h3, h4⟩

theorem halves_fit {m : List En} {at_ : Nat} (hb : Best m at_) (h2 : 2 ≤ m.length) (hE : ∀ x ∈ m, bytE x ≤ 79) (hT : bytL m ≤ 302) : bytL (m.take at_) ≤ 223 ∧ bytL (m.drop at_) ≤ 223 := by
  obtain ⟨h1, h3, hmin⟩ := hb.1 h2
  have hsum : bytL (m.take at_) + bytL (m.drop at_) = bytL m := by rw [← bytL_append, List.take_append_drop]
  have key : ∃ i, 1 ≤ i ∧ i < m.length ∧ bytL (m.take i) ≤ 223 ∧ bytL m ≤ 223 + bytL (m.take i) := by
    by_cases hT2 : bytL m ≤ 223
    · exact ⟨1, by omega, by omega, Nat.le_trans (bytL_take_le m 1) hT2, by omega⟩
    · have hlast : bytL m = bytL (m.take (m.length - 1)) + bytE (m.getD (m.length - 1) d0) := by
        have := take_succ_getD (l := m) (i := m.length - 1) (by omega) d0
        rw [show m.length - 1 + 1 = m.length by omega, List.take_length] at this
        conv => lhs; rw [this]
        rw [bytL_append, bytL_one]
      have hl79 := hE _ (getD_mem (l := m) (i := m.length - 1) (by omega))
      rcases first_over (m := m) (d := bytL m - 223) (by omega) (m.length - 1) (by omega) with h | ⟨i, i1, i2, i3, i4⟩
      · omega
      · have hs := take_succ_getD (l := m) (i := i - 1) (by omega) d0
        rw [show i - 1 + 1 = i by omega] at hs
        have h79 := hE _ (getD_mem (l := m) (i := i - 1) (by omega))
        have e : bytL (m.take i) = bytL (m.take (i - 1)) + bytE (m.getD (i - 1) d0) := by
          conv => lhs; rw [hs]
          rw [bytL_append, bytL_one]
        exact ⟨i, i1, by omega, by omega, by omega⟩
  obtain ⟨i, i1, i2, i3, i4⟩ := key
  have hm := (hmin i i1 i2).1
  have hle := bytL_take_le m i
  have hle2 := bytL_take_le m at_
  unfold apartN at hm
  omega

theorem okN_take {leaf : Bool} {l : List En} (h : okN leaf l = true) (n : Nat) : okN leaf (l.take n) = true := by
  obtain ⟨h1, h2⟩ := okN_iff.1 h
  exact okN_iff.2 ⟨fun x hx => h1 x (List.mem_of_mem_take hx), h2.take n⟩
theorem okN_drop {leaf : Bool} {l : List En} (h : okN leaf l = true) (n : Nat) : okN leaf (l.drop n) = true := by
  obtain ⟨h1, h2⟩ := okN_iff.1 h
  exact okN_iff.2 ⟨fun x hx => h1 x (List.mem_of_mem_drop hx), h2.drop n⟩
theorem OkE.byt {leaf : Bool} {x : En} (h : OkE leaf x) : bytE x ≤ 79 := by
  obtain ⟨h1, h2, _⟩ := h
  unfold bytE; omega

/-! ### Find, whatever the entries are -/
theorem search_any (l : List En) (k : List UInt8) (ao : Option Addr) (n c : Nat) (hn : l.length = n) (hn2 : n ≤ 10000) :
    Spec Try.prog 57 [.slice ao n c, .string ⟨⟨k⟩⟩, .func (.func 58) #[] #[]] [.view ao 87 (entV l)]
      (fun v O => (∃ (i : Nat) (b : Bool), i ≤ n ∧ v = .tuple #[.int .i64 i, .bool b]) ∧ O = []) := by
  refine Spec.of_ev S_ok S_mixed Try.func57 rfl rfl ?_
  repeat ((conv => whnf); (first | refine nowA ?_ | refine numN ?_ | refine numI ?_ | refine EvVal.ofN ?_ | refine EvNew.mk fun _ => ?_ | refine EvLoad.mk _ rfl _ rfl ?_ | refine divA ?_))
  refine EvLoop.mk (α := Nat × Nat) (fun x => x.1 ≤ x.2 ∧ x.2 ≤ n) (fun x => x.2 - x.1)
    (fun x => [(9, .int .i64 x.1), (10, .int .i64 x.2)]) (fun _ => [.view ao 87 (entV l)]) ?_ ?_
  · exact metA (0, n) ⟨by omega, by omega⟩
  rintro ⟨i, j⟩ ⟨hij, hj⟩
  dsimp only at hij hj ⊢
  repeat ((conv => whnf); (first | refine nowA ?_ | refine numN ?_ | refine numI ?_ | refine EvVal.ofN ?_ | refine EvNew.mk fun _ => ?_ | refine EvLoad.mk _ rfl _ rfl ?_ | refine divA ?_))
  refine EvIf.br (brD (fun hlt => ?_) (fun hge => ?_))
  · repeat ((conv => whnf); (first | refine nowA ?_ | refine numN ?_ | refine numI ?_ | refine EvVal.ofN ?_ | refine EvNew.mk fun _ => ?_ | refine EvLoad.mk _ rfl _ rfl ?_ | refine divA ?_))
    refine EvPow.mk 2 (by decide) ?_
    refine EvVal.nat ?_
    repeat ((conv => whnf); (first | refine nowA ?_ | refine numN ?_ | refine numI ?_ | refine EvVal.ofN ?_ | refine EvNew.mk fun _ => ?_ | refine EvLoad.mk _ rfl _ rfl ?_ | refine divA ?_))
    have hm : (i + j) / 2 < l.length := by omega
    refine EvIdx.sl ((i + j) / 2) rfl (by omega) (by rw [entV_length]; omega) ?_
    refine EvLoadN.mk ((i + j) / 2 * 3) rfl _ rfl (entV_get hm) ?_
    refine callA (findx_spec (l.getD ((i + j) / 2) d0) k) ?_
    rintro _ _ ⟨rfl, rfl⟩
    repeat ((conv => whnf); (first | refine nowA ?_ | refine numN ?_ | refine numI ?_ | refine EvVal.ofN ?_ | refine EvNew.mk fun _ => ?_ | refine EvLoad.mk _ rfl _ rfl ?_ | refine divA ?_))
    refine EvIf.br (brD (fun hc => ?_) (fun hc => ?_))
    · repeat ((conv => whnf); (first | refine nowA ?_ | refine numN ?_ | refine numI ?_ | refine EvVal.ofN ?_ | refine EvNew.mk fun _ => ?_ | refine EvLoad.mk _ rfl _ rfl ?_ | refine divA ?_))
      exact metA ((i + j) / 2 + 1, j) ⟨⟨by dsimp only; omega, hj⟩, by dsimp only; omega⟩
    · repeat ((conv => whnf); (first | refine nowA ?_ | refine numN ?_ | refine numI ?_ | refine EvVal.ofN ?_ | refine EvNew.mk fun _ => ?_ | refine EvLoad.mk _ rfl _ rfl ?_ | refine divA ?_))
      exact metA (i, (i + j) / 2) ⟨⟨by dsimp only; omega, by dsimp only; omega⟩, by dsimp only; omega⟩
  · have e : i = j := by omega
    subst e
    repeat ((conv => whnf); (first | refine nowA ?_ | refine numN ?_ | refine numI ?_ | refine EvVal.ofN ?_ | refine EvNew.mk fun _ => ?_ | refine EvLoad.mk _ rfl _ rfl ?_ | refine divA ?_))
    refine EvCut.direct ?_
    by_cases hin : (i : Int) < n
    · repeat ((conv => whnf); (first | (first | (first | refine nowA ?_ | refine numN ?_ | refine numI ?_ | refine EvVal.ofN ?_ | refine EvNew.mk fun _ => ?_ | refine EvLoad.mk _ rfl _ rfl ?_ | refine divA ?_) | refine loadNA ?_ | refine EvStore.lit ⟨rfl, by decide⟩ (by rfl) ?_) | (first | refine brT ?_ | refine brF ?_ | refine iteT ?_ | refine iteF ?_)))
      have hm : i < l.length := by omega
      refine EvIdx.sl i rfl (by omega) (by rw [entV_length]; omega) ?_
      repeat ((conv => whnf); (first | (first | (first | refine nowA ?_ | refine numN ?_ | refine numI ?_ | refine EvVal.ofN ?_ | refine EvNew.mk fun _ => ?_ | refine EvLoad.mk _ rfl _ rfl ?_ | refine divA ?_) | refine loadNA ?_ | refine EvStore.lit ⟨rfl, by decide⟩ (by rfl) ?_) | (first | refine brT ?_ | refine brF ?_ | refine iteT ?_ | refine iteF ?_)))
      refine EvLoadN.mk (i * 3) rfl _ rfl (entV_get hm) ?_
      repeat ((conv => whnf); (first | (first | (first | refine nowA ?_ | refine numN ?_ | refine numI ?_ | refine EvVal.ofN ?_ | refine EvNew.mk fun _ => ?_ | refine EvLoad.mk _ rfl _ rfl ?_ | refine divA ?_) | refine loadNA ?_ | refine EvStore.lit ⟨rfl, by decide⟩ (by rfl) ?_) | (first | refine brT ?_ | refine brF ?_ | refine iteT ?_ | refine iteF ?_)))
      refine callA (findx_spec (l.getD i d0) k) ?_
      rintro _ _ ⟨rfl, rfl⟩
      repeat ((conv => whnf); (first | (first | (first | refine nowA ?_ | refine numN ?_ | refine numI ?_ | refine EvVal.ofN ?_ | refine EvNew.mk fun _ => ?_ | refine EvLoad.mk _ rfl _ rfl ?_ | refine divA ?_) | refine loadNA ?_ | refine EvStore.lit ⟨rfl, by decide⟩ (by rfl) ?_) | (first | refine brT ?_ | refine brF ?_ | refine iteT ?_ | refine iteF ?_)))
      exact retA ⟨⟨i, _, hj, rfl⟩, rfl⟩
    · repeat ((conv => whnf); (first | (first | (first | refine nowA ?_ | refine numN ?_ | refine numI ?_ | refine EvVal.ofN ?_ | refine EvNew.mk fun _ => ?_ | refine EvLoad.mk _ rfl _ rfl ?_ | refine divA ?_) | refine loadNA ?_ | refine EvStore.lit ⟨rfl, by decide⟩ (by rfl) ?_) | (first | refine brT ?_ | refine brF ?_ | refine iteT ?_ | refine iteF ?_)))
      exact retA ⟨⟨i, _, hj, rfl⟩, rfl⟩

theorem find_any (leaf : Bool) (l : List En) (k : List UInt8) (ao : Option Addr) (n c : Nat) (hn : l.length = n) (hn2 : n ≤ 10000) :
    Spec Try.prog 43 [.agg #[.bool leaf, .slice ao n c], .string ⟨⟨k⟩⟩] [.view ao 87 (entV l)] (fun v O => (∃ (i : Nat) (b : Bool), i ≤ n ∧ v = .tuple #[.int .i64 i, .bool b]) ∧ O = []) := by
  refine Spec.of_ev S_ok S_mixed Try.func43 rfl rfl ?_
  refine EvNew.mk fun q => ?_
  repeat ((conv => whnf); (first | (first | refine nowA ?_ | refine numN ?_ | refine numI ?_ | refine EvVal.ofN ?_ | refine EvNew.mk fun _ => ?_ | refine EvLoad.mk _ rfl _ rfl ?_ | refine divA ?_) | refine loadNA ?_ | refine EvStore.lit ⟨rfl, by decide⟩ (by rfl) ?_))
  refine callA (search_any l k ao n c hn hn2) ?_
  rintro _ _ ⟨⟨i, b, hi, rfl⟩, rfl⟩
  repeat ((conv => whnf); (first | (first | refine nowA ?_ | refine numN ?_ | refine numI ?_ | refine EvVal.ofN ?_ | refine EvNew.mk fun _ => ?_ | refine EvLoad.mk _ rfl _ rfl ?_ | refine divA ?_) | refine loadNA ?_ | refine EvStore.lit ⟨rfl, by decide⟩ (by rfl) ?_))
  exact retA ⟨⟨i, b, hi, rfl⟩, rfl⟩

/-! ### The law -/
def enA (x : En) : Value := .agg ⟨enC x⟩
def insE (l : List En) (k : Nat) (x : En) : List En := l.take k ++ x :: l.drop k
theorem insE_length {l : List En} {k : Nat} {x : En} (h : k ≤ l.length) : (insE l k x).length = l.length + 1 := by simp [insE]; omega

theorem nodeFits_spec (leaf : Bool) (l : List En) (x : En) (ao : Option Addr) (n c : Nat) (hn : l.length = n) (hc : n ≤ c) (hn2 : n ≤ 9223372036854775807) (hl : ∀ x ∈ l, x.key.length ≤ 9223372036854775807 ∧ x.val.length ≤ 9223372036854775807)
    (hx : x.key.length ≤ 9223372036854775807 ∧ x.val.length ≤ 9223372036854775807) :
    Spec Try.prog 12 [.agg #[.bool leaf, .slice ao n c], .agg #[.string ⟨⟨x.key⟩⟩, .string ⟨⟨x.val⟩⟩, .int .i64 x.far]] [.view ao 70 (entV l)] (fun v O => v = .bool true ∧ O = []) := by
  refine Spec.of_ev S_ok S_mixed Try.func12 rfl rfl ?_
  refine EvNew.mk fun p => ?_
  refine EvNew.mk fun q => ?_
  repeat ((conv => whnf); (first | (first | refine nowA ?_ | refine numN ?_ | refine numI ?_ | refine EvVal.ofN ?_ | refine EvNew.mk fun _ => ?_ | refine EvLoad.mk _ rfl _ rfl ?_ | refine divA ?_) | refine loadNA ?_ | refine EvStore.lit ⟨rfl, by decide⟩ (by rfl) ?_))
  refine EvCut.direct ?_
  repeat ((conv => whnf); (first | (first | refine nowA ?_ | refine numN ?_ | refine numI ?_ | refine EvVal.ofN ?_ | refine EvNew.mk fun _ => ?_ | refine EvLoad.mk _ rfl _ rfl ?_ | refine divA ?_) | refine loadNA ?_ | refine EvStore.lit ⟨rfl, by decide⟩ (by rfl) ?_))
  refine callA (light_spec leaf l ao n c hn hn2 hl) ?_
  rintro _ _ ⟨hv, rfl⟩
  rcases hv with ⟨hL, rfl⟩ | ⟨_, rfl⟩
  case inr =>
    repeat ((conv => whnf); (first | (first | (first | refine nowA ?_ | refine numN ?_ | refine numI ?_ | refine EvVal.ofN ?_ | refine EvNew.mk fun _ => ?_ | refine EvLoad.mk _ rfl _ rfl ?_ | refine divA ?_) | refine loadNA ?_ | refine EvStore.lit ⟨rfl, by decide⟩ (by rfl) ?_) | (first | refine brT ?_ | refine brF ?_ | refine iteT ?_ | refine iteF ?_)))
    refine EvIf.br (brT ?_)
    refine callA awake18_spec ?_
    rintro _ _ ⟨rfl, rfl⟩
    repeat ((conv => whnf); (first | (first | refine nowA ?_ | refine numN ?_ | refine numI ?_ | refine EvVal.ofN ?_ | refine EvNew.mk fun _ => ?_ | refine EvLoad.mk _ rfl _ rfl ?_ | refine divA ?_) | refine loadNA ?_ | refine EvStore.lit ⟨rfl, by decide⟩ (by rfl) ?_))
    exact retA ⟨rfl, rfl⟩
  have hn60 : n ≤ 60 := by have := hL.1; omega
  by_cases hk200 : (x.key.length : Int) > 200
  · repeat ((conv => whnf); (first | (first | (first | refine nowA ?_ | refine numN ?_ | refine numI ?_ | refine EvVal.ofN ?_ | refine EvNew.mk fun _ => ?_ | refine EvLoad.mk _ rfl _ rfl ?_ | refine divA ?_) | refine loadNA ?_ | refine EvStore.lit ⟨rfl, by decide⟩ (by rfl) ?_) | (first | refine brT ?_ | refine brF ?_ | refine iteT ?_ | refine iteF ?_)))
    refine EvIf.br (brT ?_)
    refine callA awake18_spec ?_
    rintro _ _ ⟨rfl, rfl⟩
    repeat ((conv => whnf); (first | (first | refine nowA ?_ | refine numN ?_ | refine numI ?_ | refine EvVal.ofN ?_ | refine EvNew.mk fun _ => ?_ | refine EvLoad.mk _ rfl _ rfl ?_ | refine divA ?_) | refine loadNA ?_ | refine EvStore.lit ⟨rfl, by decide⟩ (by rfl) ?_))
    exact retA ⟨rfl, rfl⟩
  by_cases hv200 : (x.val.length : Int) > 200
  · repeat ((conv => whnf); (first | (first | (first | refine nowA ?_ | refine numN ?_ | refine numI ?_ | refine EvVal.ofN ?_ | refine EvNew.mk fun _ => ?_ | refine EvLoad.mk _ rfl _ rfl ?_ | refine divA ?_) | refine loadNA ?_ | refine EvStore.lit ⟨rfl, by decide⟩ (by rfl) ?_) | (first | refine brT ?_ | refine brF ?_ | refine iteT ?_ | refine iteF ?_)))
    refine EvIf.br (brT ?_)
    refine callA awake18_spec ?_
    rintro _ _ ⟨rfl, rfl⟩
    repeat ((conv => whnf); (first | (first | refine nowA ?_ | refine numN ?_ | refine numI ?_ | refine EvVal.ofN ?_ | refine EvNew.mk fun _ => ?_ | refine EvLoad.mk _ rfl _ rfl ?_ | refine divA ?_) | refine loadNA ?_ | refine EvStore.lit ⟨rfl, by decide⟩ (by rfl) ?_))
    exact retA ⟨rfl, rfl⟩
  repeat ((conv => whnf); (first | (first | (first | refine nowA ?_ | refine numN ?_ | refine numI ?_ | refine EvVal.ofN ?_ | refine EvNew.mk fun _ => ?_ | refine EvLoad.mk _ rfl _ rfl ?_ | refine divA ?_) | refine loadNA ?_ | refine EvStore.lit ⟨rfl, by decide⟩ (by rfl) ?_) | (first | refine brT ?_ | refine brF ?_ | refine iteT ?_ | refine iteF ?_)))
  refine EvIf.br (brF ?_)
  repeat ((conv => whnf); (first | (first | refine nowA ?_ | refine numN ?_ | refine numI ?_ | refine EvVal.ofN ?_ | refine EvNew.mk fun _ => ?_ | refine EvLoad.mk _ rfl _ rfl ?_ | refine divA ?_) | refine loadNA ?_ | refine EvStore.lit ⟨rfl, by decide⟩ (by rfl) ?_))
  refine callA (to18_spec leaf l ao n c hn (by omega)) ?_
  rintro _ _ ⟨a1, c1, hc1, rfl, rfl⟩
  repeat ((conv => whnf); (first | (first | refine nowA ?_ | refine numN ?_ | refine numI ?_ | refine EvVal.ofN ?_ | refine EvNew.mk fun _ => ?_ | refine EvLoad.mk _ rfl _ rfl ?_ | refine divA ?_) | refine loadNA ?_ | refine EvStore.lit ⟨rfl, by decide⟩ (by rfl) ?_))
  refine callA (nput_spec leaf l a1 n c1 hn hL.lit (by omega)) ?_
  rintro _ _ ⟨hv, rfl⟩
  rcases hv with ⟨hok, rfl⟩ | ⟨hok, hroom, rfl⟩ | ⟨hok, hroom, b2, hb, hbr, rfl⟩
  case inl =>
    repeat ((conv => whnf); (first | (first | refine nowA ?_ | refine numN ?_ | refine numI ?_ | refine EvVal.ofN ?_ | refine EvNew.mk fun _ => ?_ | refine EvLoad.mk _ rfl _ rfl ?_ | refine divA ?_) | refine loadNA ?_ | refine EvStore.lit ⟨rfl, by decide⟩ (by rfl) ?_))
    refine EvDraw.mk (.take 2 (.ahead [.push [0], .push [3], .eff 1] (.eff 4 (.take 5 (.take 6 (.take 7 (.take 8 (.take 9 .nil)))))))) (by kernel_rfl) ?_
    repeat ((conv => whnf); (first | (first | refine nowA ?_ | refine numN ?_ | refine numI ?_ | refine EvVal.ofN ?_ | refine EvNew.mk fun _ => ?_ | refine EvLoad.mk _ rfl _ rfl ?_ | refine divA ?_) | refine loadNA ?_ | refine EvStore.lit ⟨rfl, by decide⟩ (by rfl) ?_))
    refine EvAhead.all ?_
    conv => whnf
    apply EvPush.mk; case hv => ((repeat ((conv => whnf); (first | (first | (first | refine nowA ?_ | refine numN ?_ | refine numI ?_ | refine EvVal.ofN ?_ | refine EvNew.mk fun _ => ?_ | refine EvLoad.mk _ rfl _ rfl ?_ | refine divA ?_) | refine loadNA ?_ | refine EvStore.lit ⟨rfl, by decide⟩ (by rfl) ?_) | (refine keepE (by repeat (first | exact Kp.all | refine Kp.keep ?_ | refine Kp.junk rfl ?_)) ?_)))); refine keepW rfl ?_; repeat (first | exact Kp.all | refine Kp.keep ?_ | refine Kp.junk rfl ?_))
    conv => whnf
    apply EvPush.mk; case hv => ((repeat ((conv => whnf); (first | (first | (first | refine nowA ?_ | refine numN ?_ | refine numI ?_ | refine EvVal.ofN ?_ | refine EvNew.mk fun _ => ?_ | refine EvLoad.mk _ rfl _ rfl ?_ | refine divA ?_) | refine loadNA ?_ | refine EvStore.lit ⟨rfl, by decide⟩ (by rfl) ?_) | (refine keepE (by repeat (first | exact Kp.all | refine Kp.keep ?_ | refine Kp.junk rfl ?_)) ?_)))); refine keepW rfl ?_; repeat (first | exact Kp.all | refine Kp.keep ?_ | refine Kp.junk rfl ?_))
    conv => whnf
    refine callA (to18_spec leaf l ao n c hn (by omega)) ?_
    rintro _ _ ⟨a2, c2, hc2, rfl, rfl⟩
    repeat ((conv => whnf); (first | (first | (first | refine nowA ?_ | refine numN ?_ | refine numI ?_ | refine EvVal.ofN ?_ | refine EvNew.mk fun _ => ?_ | refine EvLoad.mk _ rfl _ rfl ?_ | refine divA ?_) | refine loadNA ?_ | refine EvStore.lit ⟨rfl, by decide⟩ (by rfl) ?_) | (refine keepE (by repeat (first | exact Kp.all | refine Kp.keep ?_ | refine Kp.junk rfl ?_)) ?_)))
    refine callA (find_any leaf l x.key a2 n c2 hn (by omega)) ?_
    rintro _ _ ⟨⟨i, b, hi, rfl⟩, rfl⟩
    repeat ((conv => whnf); (first | (first | refine nowA ?_ | refine numN ?_ | refine numI ?_ | refine EvVal.ofN ?_ | refine EvNew.mk fun _ => ?_ | refine EvLoad.mk _ rfl _ rfl ?_ | refine divA ?_) | refine loadNA ?_ | refine EvStore.lit ⟨rfl, by decide⟩ (by rfl) ?_))
    refine EvCut.direct ?_
    repeat ((conv => whnf); (first | (first | (first | refine nowA ?_ | refine numN ?_ | refine numI ?_ | refine EvVal.ofN ?_ | refine EvNew.mk fun _ => ?_ | refine EvLoad.mk _ rfl _ rfl ?_ | refine divA ?_) | refine loadNA ?_ | refine EvStore.lit ⟨rfl, by decide⟩ (by rfl) ?_) | (first | refine brT ?_ | refine brF ?_ | refine iteT ?_ | refine iteF ?_)))
    refine EvIf.br (brT ?_)
    refine callA awake18_spec ?_
    rintro _ _ ⟨rfl, rfl⟩
    repeat ((conv => whnf); (first | (first | (first | refine nowA ?_ | refine numN ?_ | refine numI ?_ | refine EvVal.ofN ?_ | refine EvNew.mk fun _ => ?_ | refine EvLoad.mk _ rfl _ rfl ?_ | refine divA ?_) | refine loadNA ?_ | refine EvStore.lit ⟨rfl, by decide⟩ (by rfl) ?_) | (first | refine brT ?_ | refine brF ?_ | refine iteT ?_ | refine iteF ?_)))
    exact retA ⟨rfl, rfl⟩
  case inr.inl =>
    repeat ((conv => whnf); (first | (first | refine nowA ?_ | refine numN ?_ | refine numI ?_ | refine EvVal.ofN ?_ | refine EvNew.mk fun _ => ?_ | refine EvLoad.mk _ rfl _ rfl ?_ | refine divA ?_) | refine loadNA ?_ | refine EvStore.lit ⟨rfl, by decide⟩ (by rfl) ?_))
    refine EvDraw.mk (.take 2 (.ahead [.push [0], .push [3], .eff 1] (.eff 4 (.take 5 (.take 6 (.take 7 (.take 8 (.take 9 .nil)))))))) (by kernel_rfl) ?_
    repeat ((conv => whnf); (first | (first | refine nowA ?_ | refine numN ?_ | refine numI ?_ | refine EvVal.ofN ?_ | refine EvNew.mk fun _ => ?_ | refine EvLoad.mk _ rfl _ rfl ?_ | refine divA ?_) | refine loadNA ?_ | refine EvStore.lit ⟨rfl, by decide⟩ (by rfl) ?_))
    refine EvAhead.all ?_
    conv => whnf
    apply EvPush.mk; case hv => ((repeat ((conv => whnf); (first | (first | (first | refine nowA ?_ | refine numN ?_ | refine numI ?_ | refine EvVal.ofN ?_ | refine EvNew.mk fun _ => ?_ | refine EvLoad.mk _ rfl _ rfl ?_ | refine divA ?_) | refine loadNA ?_ | refine EvStore.lit ⟨rfl, by decide⟩ (by rfl) ?_) | (refine keepE (by repeat (first | exact Kp.all | refine Kp.keep ?_ | refine Kp.junk rfl ?_)) ?_)))); refine keepW rfl ?_; repeat (first | exact Kp.all | refine Kp.keep ?_ | refine Kp.junk rfl ?_))
    conv => whnf
    apply EvPush.mk; case hv => ((repeat ((conv => whnf); (first | (first | (first | refine nowA ?_ | refine numN ?_ | refine numI ?_ | refine EvVal.ofN ?_ | refine EvNew.mk fun _ => ?_ | refine EvLoad.mk _ rfl _ rfl ?_ | refine divA ?_) | refine loadNA ?_ | refine EvStore.lit ⟨rfl, by decide⟩ (by rfl) ?_) | (refine keepE (by repeat (first | exact Kp.all | refine Kp.keep ?_ | refine Kp.junk rfl ?_)) ?_)))); refine keepW rfl ?_; repeat (first | exact Kp.all | refine Kp.keep ?_ | refine Kp.junk rfl ?_))
    conv => whnf
    refine callA (to18_spec leaf l ao n c hn (by omega)) ?_
    rintro _ _ ⟨a2, c2, hc2, rfl, rfl⟩
    repeat ((conv => whnf); (first | (first | (first | refine nowA ?_ | refine numN ?_ | refine numI ?_ | refine EvVal.ofN ?_ | refine EvNew.mk fun _ => ?_ | refine EvLoad.mk _ rfl _ rfl ?_ | refine divA ?_) | refine loadNA ?_ | refine EvStore.lit ⟨rfl, by decide⟩ (by rfl) ?_) | (refine keepE (by repeat (first | exact Kp.all | refine Kp.keep ?_ | refine Kp.junk rfl ?_)) ?_)))
    refine callA (find_any leaf l x.key a2 n c2 hn (by omega)) ?_
    rintro _ _ ⟨⟨i, b, hi, rfl⟩, rfl⟩
    repeat ((conv => whnf); (first | (first | refine nowA ?_ | refine numN ?_ | refine numI ?_ | refine EvVal.ofN ?_ | refine EvNew.mk fun _ => ?_ | refine EvLoad.mk _ rfl _ rfl ?_ | refine divA ?_) | refine loadNA ?_ | refine EvStore.lit ⟨rfl, by decide⟩ (by rfl) ?_))
    refine EvCut.direct ?_
    repeat ((conv => whnf); (first | (first | (first | refine nowA ?_ | refine numN ?_ | refine numI ?_ | refine EvVal.ofN ?_ | refine EvNew.mk fun _ => ?_ | refine EvLoad.mk _ rfl _ rfl ?_ | refine divA ?_) | refine loadNA ?_ | refine EvStore.lit ⟨rfl, by decide⟩ (by rfl) ?_) | (first | refine brT ?_ | refine brF ?_ | refine iteT ?_ | refine iteF ?_)))
    refine EvIf.br (brT ?_)
    refine callA awake18_spec ?_
    rintro _ _ ⟨rfl, rfl⟩
    repeat ((conv => whnf); (first | (first | (first | refine nowA ?_ | refine numN ?_ | refine numI ?_ | refine EvVal.ofN ?_ | refine EvNew.mk fun _ => ?_ | refine EvLoad.mk _ rfl _ rfl ?_ | refine divA ?_) | refine loadNA ?_ | refine EvStore.lit ⟨rfl, by decide⟩ (by rfl) ?_) | (first | refine brT ?_ | refine brF ?_ | refine iteT ?_ | refine iteF ?_)))
    exact retA ⟨rfl, rfl⟩
  obtain ⟨hE, hs⟩ := okN_iff.1 hok
  have hle := lowB_le l x.key
  rw [roomL_recsN] at hroom
  repeat ((conv => whnf); (first | (first | refine nowA ?_ | refine numN ?_ | refine numI ?_ | refine EvVal.ofN ?_ | refine EvNew.mk fun _ => ?_ | refine EvLoad.mk _ rfl _ rfl ?_ | refine divA ?_) | refine loadNA ?_ | refine EvStore.lit ⟨rfl, by decide⟩ (by rfl) ?_))
  refine EvDraw.mk (.take 2 (.ahead [.push [0], .push [3], .eff 1] (.eff 4 (.take 5 (.take 6 (.take 7 (.take 8 (.take 9 .nil)))))))) (by kernel_rfl) ?_
  repeat ((conv => whnf); (first | (first | refine nowA ?_ | refine numN ?_ | refine numI ?_ | refine EvVal.ofN ?_ | refine EvNew.mk fun _ => ?_ | refine EvLoad.mk _ rfl _ rfl ?_ | refine divA ?_) | refine loadNA ?_ | refine EvStore.lit ⟨rfl, by decide⟩ (by rfl) ?_))
  refine EvAhead.all ?_
  conv => whnf
  apply EvPush.mk; case hv => ((repeat ((conv => whnf); (first | (first | (first | refine nowA ?_ | refine numN ?_ | refine numI ?_ | refine EvVal.ofN ?_ | refine EvNew.mk fun _ => ?_ | refine EvLoad.mk _ rfl _ rfl ?_ | refine divA ?_) | refine loadNA ?_ | refine EvStore.lit ⟨rfl, by decide⟩ (by rfl) ?_) | (refine keepE (by repeat (first | exact Kp.all | refine Kp.keep ?_ | refine Kp.junk rfl ?_)) ?_)))); refine keepW rfl ?_; repeat (first | exact Kp.all | refine Kp.keep ?_ | refine Kp.junk rfl ?_))
  conv => whnf
  apply EvPush.mk; case hv => ((repeat ((conv => whnf); (first | (first | (first | refine nowA ?_ | refine numN ?_ | refine numI ?_ | refine EvVal.ofN ?_ | refine EvNew.mk fun _ => ?_ | refine EvLoad.mk _ rfl _ rfl ?_ | refine divA ?_) | refine loadNA ?_ | refine EvStore.lit ⟨rfl, by decide⟩ (by rfl) ?_) | (refine keepE (by repeat (first | exact Kp.all | refine Kp.keep ?_ | refine Kp.junk rfl ?_)) ?_)))); refine keepW rfl ?_; repeat (first | exact Kp.all | refine Kp.keep ?_ | refine Kp.junk rfl ?_))
  conv => whnf
  refine callA (to18_spec leaf l ao n c hn (by omega)) ?_
  rintro _ _ ⟨a2, c2, hc2, rfl, rfl⟩
  repeat ((conv => whnf); (first | (first | (first | refine nowA ?_ | refine numN ?_ | refine numI ?_ | refine EvVal.ofN ?_ | refine EvNew.mk fun _ => ?_ | refine EvLoad.mk _ rfl _ rfl ?_ | refine divA ?_) | refine loadNA ?_ | refine EvStore.lit ⟨rfl, by decide⟩ (by rfl) ?_) | (refine keepE (by repeat (first | exact Kp.all | refine Kp.keep ?_ | refine Kp.junk rfl ?_)) ?_)))
  refine callA (find_spec leaf l x.key a2 n c2 hn (by omega) hs) ?_
  rintro _ _ ⟨rfl, rfl⟩
  generalize hk : lowB l x.key = k at *
  cases hasB l x.key
  case true =>
    repeat ((conv => whnf); (first | (first | refine nowA ?_ | refine numN ?_ | refine numI ?_ | refine EvVal.ofN ?_ | refine EvNew.mk fun _ => ?_ | refine EvLoad.mk _ rfl _ rfl ?_ | refine divA ?_) | refine loadNA ?_ | refine EvStore.lit ⟨rfl, by decide⟩ (by rfl) ?_))
    refine EvCut.direct ?_
    repeat ((conv => whnf); (first | (first | (first | refine nowA ?_ | refine numN ?_ | refine numI ?_ | refine EvVal.ofN ?_ | refine EvNew.mk fun _ => ?_ | refine EvLoad.mk _ rfl _ rfl ?_ | refine divA ?_) | refine loadNA ?_ | refine EvStore.lit ⟨rfl, by decide⟩ (by rfl) ?_) | (first | refine brT ?_ | refine brF ?_ | refine iteT ?_ | refine iteF ?_)))
    refine EvIf.br (brT ?_)
    refine callA awake18_spec ?_
    rintro _ _ ⟨rfl, rfl⟩
    repeat ((conv => whnf); (first | (first | (first | refine nowA ?_ | refine numN ?_ | refine numI ?_ | refine EvVal.ofN ?_ | refine EvNew.mk fun _ => ?_ | refine EvLoad.mk _ rfl _ rfl ?_ | refine divA ?_) | refine loadNA ?_ | refine EvStore.lit ⟨rfl, by decide⟩ (by rfl) ?_) | (first | refine brT ?_ | refine brF ?_ | refine iteT ?_ | refine iteF ?_)))
    exact retA ⟨rfl, rfl⟩
  have hk0 : ¬ (k : Int) < 0 := by omega
  have hkn : ¬ (k : Int) > (n : Int) := by omega
  repeat ((conv => whnf); (first | (first | refine nowA ?_ | refine numN ?_ | refine numI ?_ | refine EvVal.ofN ?_ | refine EvNew.mk fun _ => ?_ | refine EvLoad.mk _ rfl _ rfl ?_ | refine divA ?_) | refine loadNA ?_ | refine EvStore.lit ⟨rfl, by decide⟩ (by rfl) ?_))
  refine EvCut.direct ?_
  repeat ((conv => whnf); (first | (first | (first | refine nowA ?_ | refine numN ?_ | refine numI ?_ | refine EvVal.ofN ?_ | refine EvNew.mk fun _ => ?_ | refine EvLoad.mk _ rfl _ rfl ?_ | refine divA ?_) | refine loadNA ?_ | refine EvStore.lit ⟨rfl, by decide⟩ (by rfl) ?_) | (first | refine brT ?_ | refine brF ?_ | refine iteT ?_ | refine iteF ?_)))
  refine EvIf.br (brF ?_)
  have hEl : (entV l).length = n * 3 := by rw [entV_length, hn]
  refine EvDraw.mk (.take 0 (.take 3 (.take 5 (.take 11 (.take 13 (.ahead [.push [1], .push [4,6], .push [8], .push [12,14], .late [9], .late [17], .eff 2, .eff 7, .pull 9, .eff 10, .eff 15, .push [16], .pull 17] (.eff 18 .nil))))))) (by kernel_rfl) ?_
  repeat ((conv => whnf); (first | (first | refine nowA ?_ | refine numN ?_ | refine numI ?_ | refine EvVal.ofN ?_ | refine EvNew.mk fun _ => ?_ | refine EvLoad.mk _ rfl _ rfl ?_ | refine divA ?_) | refine loadNA ?_ | refine EvStore.lit ⟨rfl, by decide⟩ (by rfl) ?_))
  refine EvAhead.all ?_
  conv => whnf
  apply EvPush.mk; case hv => ((repeat ((conv => whnf); (first | (first | (first | refine nowA ?_ | refine numN ?_ | refine numI ?_ | refine EvVal.ofN ?_ | refine EvNew.mk fun _ => ?_ | refine EvLoad.mk _ rfl _ rfl ?_ | refine divA ?_) | refine loadNA ?_ | refine EvStore.lit ⟨rfl, by decide⟩ (by rfl) ?_) | (refine keepE (by repeat (first | exact Kp.all | refine Kp.keep ?_ | refine Kp.junk rfl ?_)) ?_)))); refine keepW rfl ?_; repeat (first | exact Kp.all | refine Kp.keep ?_ | refine Kp.junk rfl ?_))
  conv => whnf
  apply EvPush.mk; case hv => ((repeat ((conv => whnf); (first | (first | (first | refine nowA ?_ | refine numN ?_ | refine numI ?_ | refine EvVal.ofN ?_ | refine EvNew.mk fun _ => ?_ | refine EvLoad.mk _ rfl _ rfl ?_ | refine divA ?_) | refine loadNA ?_ | refine EvStore.lit ⟨rfl, by decide⟩ (by rfl) ?_) | (refine keepE (by repeat (first | exact Kp.all | refine Kp.keep ?_ | refine Kp.junk rfl ?_)) ?_)))); refine keepW rfl ?_; repeat (first | exact Kp.all | refine Kp.keep ?_ | refine Kp.junk rfl ?_))
  conv => whnf
  apply EvPush.mk; case hv => ((repeat ((conv => whnf); (first | (first | (first | refine nowA ?_ | refine numN ?_ | refine numI ?_ | refine EvVal.ofN ?_ | refine EvNew.mk fun _ => ?_ | refine EvLoad.mk _ rfl _ rfl ?_ | refine divA ?_) | refine loadNA ?_ | refine EvStore.lit ⟨rfl, by decide⟩ (by rfl) ?_) | (refine keepE (by repeat (first | exact Kp.all | refine Kp.keep ?_ | refine Kp.junk rfl ?_)) ?_)))); refine keepW rfl ?_; repeat (first | exact Kp.all | refine Kp.keep ?_ | refine Kp.junk rfl ?_))
  conv => whnf
  apply EvPush.mk
  case hv =>
    repeat ((conv => whnf); (first | (first | (first | refine nowA ?_ | refine numN ?_ | refine numI ?_ | refine EvVal.ofN ?_ | refine EvNew.mk fun _ => ?_ | refine EvLoad.mk _ rfl _ rfl ?_ | refine divA ?_) | refine loadNA ?_ | refine EvStore.lit ⟨rfl, by decide⟩ (by rfl) ?_) | (refine keepE (by repeat (first | exact Kp.all | refine Kp.keep ?_ | refine Kp.junk rfl ?_)) ?_)))
    refine EvVal.rfl ?_
    conv => whnf
    refine EvVal.rfl ?_
    repeat ((conv => whnf); (first | (first | (first | refine nowA ?_ | refine numN ?_ | refine numI ?_ | refine EvVal.ofN ?_ | refine EvNew.mk fun _ => ?_ | refine EvLoad.mk _ rfl _ rfl ?_ | refine divA ?_) | refine loadNA ?_ | refine EvStore.lit ⟨rfl, by decide⟩ (by rfl) ?_) | (refine keepE (by repeat (first | exact Kp.all | refine Kp.keep ?_ | refine Kp.junk rfl ?_)) ?_)))
    refine keepW rfl ?_
    repeat (first | exact Kp.all | refine Kp.keep ?_ | refine Kp.junk rfl ?_)
  conv => whnf
  refine EvLate.mk (fun v J => ∃ b, v = .slice (some ⟨b, 0, none⟩) 1 1 ∧ J = [.row (some ⟨b, 0, none⟩) 1 70 3 (enC x)]) ?_ ?_
  · repeat ((conv => whnf); (first | (first | (first | refine nowA ?_ | refine numN ?_ | refine numI ?_ | refine EvVal.ofN ?_ | refine EvNew.mk fun _ => ?_ | refine EvLoad.mk _ rfl _ rfl ?_ | refine divA ?_) | refine loadNA ?_ | refine EvStore.lit ⟨rfl, by decide⟩ (by rfl) ?_) | (refine keepE (by repeat (first | exact Kp.all | refine Kp.keep ?_ | refine Kp.junk rfl ?_)) ?_)))
    exact EvKeepJ.mk _ (.junk rfl (Keeps.refl _)) ⟨_, rfl, rfl⟩
  conv => whnf
  refine EvLate.mk (fun v J => ∃ b, v = .pointer (some ⟨b, 0, none⟩) ∧ J = [.blk b 53 [.bool false, .slice none 0 0]]) ?_ ?_
  · repeat ((conv => whnf); (first | (first | (first | refine nowA ?_ | refine numN ?_ | refine numI ?_ | refine EvVal.ofN ?_ | refine EvNew.mk fun _ => ?_ | refine EvLoad.mk _ rfl _ rfl ?_ | refine divA ?_) | refine loadNA ?_ | refine EvStore.lit ⟨rfl, by decide⟩ (by rfl) ?_) | (refine keepE (by repeat (first | exact Kp.all | refine Kp.keep ?_ | refine Kp.junk rfl ?_)) ?_)))
    exact EvKeepJ.mk _ (.junk rfl (Keeps.refl _)) ⟨_, rfl, rfl⟩
  repeat ((conv => whnf); (first | (first | (first | refine nowA ?_ | refine numN ?_ | refine numI ?_ | refine EvVal.ofN ?_ | refine EvNew.mk fun _ => ?_ | refine EvLoad.mk _ rfl _ rfl ?_ | refine divA ?_) | refine loadNA ?_ | refine EvStore.lit ⟨rfl, by decide⟩ (by rfl) ?_) | (refine keepE (by repeat (first | exact Kp.all | refine Kp.keep ?_ | refine Kp.junk rfl ?_)) ?_)))
  rename_i b0
  refine EvSrc.mk k (entV (l.take k)) (src_sl S_ok rfl rfl (by decide) k c _ (entV_take l k) (by rw [hEl]; omega) (allOne_entV _)) ?_
  refine EvApp.own ⟨rfl, rfl, rfl, by decide⟩ rfl (allOne_entV _) (by omega) k (by omega) ?_
  intro a5 c5 hc5
  rw [List.nil_append]
  repeat ((conv => whnf); (first | (first | (first | refine nowA ?_ | refine numN ?_ | refine numI ?_ | refine EvVal.ofN ?_ | refine EvNew.mk fun _ => ?_ | refine EvLoad.mk _ rfl _ rfl ?_ | refine divA ?_) | refine loadNA ?_ | refine EvStore.lit ⟨rfl, by decide⟩ (by rfl) ?_) | (refine keepE (by repeat (first | exact Kp.all | refine Kp.keep ?_ | refine Kp.junk rfl ?_)) ?_)))
  conv => whnf
  rintro _ _ ⟨b9, rfl, rfl⟩
  repeat ((conv => whnf); (first | (first | (first | refine nowA ?_ | refine numN ?_ | refine numI ?_ | refine EvVal.ofN ?_ | refine EvNew.mk fun _ => ?_ | refine EvLoad.mk _ rfl _ rfl ?_ | refine divA ?_) | refine loadNA ?_ | refine EvStore.lit ⟨rfl, by decide⟩ (by rfl) ?_) | (refine keepE (by repeat (first | exact Kp.all | refine Kp.keep ?_ | refine Kp.junk rfl ?_)) ?_)))
  refine EvSrc.mk 1 (enC x) (src_sl S_ok rfl rfl (by decide) 1 1 _ rfl (by simp [enC]) rfl) ?_
  refine EvApp.own ⟨rfl, rfl, rfl, by decide⟩ (by rw [entV_length, List.length_take]; omega) rfl (by omega) (k + 1) rfl ?_
  intro a6 c6 hc6
  rw [show entV (l.take k) ++ enC x = entV (l.take k ++ [x]) by rw [entV_append]; rfl]
  repeat ((conv => whnf); (first | (first | (first | refine nowA ?_ | refine numN ?_ | refine numI ?_ | refine EvVal.ofN ?_ | refine EvNew.mk fun _ => ?_ | refine EvLoad.mk _ rfl _ rfl ?_ | refine divA ?_) | refine loadNA ?_ | refine EvStore.lit ⟨rfl, by decide⟩ (by rfl) ?_) | (refine keepE (by repeat (first | exact Kp.all | refine Kp.keep ?_ | refine Kp.junk rfl ?_)) ?_)))
  refine EvSrc.mk (n - k) (entV (l.drop k)) (src_sub S_ok rfl rfl (by decide) (k * 3) _ _ _ (fun h => by have := of_decide_eq_true h; omega) _ (by rw [entV_sub, List.take_of_length_le (by simp; omega)]) (by rw [hEl]; omega) (allOne_entV _)) ?_
  refine EvApp.own ⟨rfl, rfl, rfl, by decide⟩ (by simp only [entV_length, List.length_append, List.length_take, List.length_cons, List.length_nil]; omega) (allOne_entV _) (by omega) (n + 1) (by omega) ?_
  intro a7 c7 hc7
  rw [← entV_append, show l.take k ++ [x] ++ l.drop k = insE l k x by simp [insE]]
  repeat ((conv => whnf); (first | (first | (first | refine nowA ?_ | refine numN ?_ | refine numI ?_ | refine EvVal.ofN ?_ | refine EvNew.mk fun _ => ?_ | refine EvLoad.mk _ rfl _ rfl ?_ | refine divA ?_) | refine loadNA ?_ | refine EvStore.lit ⟨rfl, by decide⟩ (by rfl) ?_) | (refine keepE (by repeat (first | exact Kp.all | refine Kp.keep ?_ | refine Kp.junk rfl ?_)) ?_)))
  conv => whnf
  apply EvPush.mk; case hv => ((repeat ((conv => whnf); (first | (first | (first | refine nowA ?_ | refine numN ?_ | refine numI ?_ | refine EvVal.ofN ?_ | refine EvNew.mk fun _ => ?_ | refine EvLoad.mk _ rfl _ rfl ?_ | refine divA ?_) | refine loadNA ?_ | refine EvStore.lit ⟨rfl, by decide⟩ (by rfl) ?_) | (refine keepE (by repeat (first | exact Kp.all | refine Kp.keep ?_ | refine Kp.junk rfl ?_)) ?_)))); refine keepW rfl ?_; repeat (first | exact Kp.all | refine Kp.keep ?_ | refine Kp.junk rfl ?_))
  conv => whnf
  rintro _ _ ⟨b17, rfl, rfl⟩
  repeat ((conv => whnf); (first | (first | refine nowA ?_ | refine numN ?_ | refine numI ?_ | refine EvVal.ofN ?_ | refine EvNew.mk fun _ => ?_ | refine EvLoad.mk _ rfl _ rfl ?_ | refine divA ?_) | refine loadNA ?_ | refine EvStore.lit ⟨rfl, by decide⟩ (by rfl) ?_))
  have hml : (insE l k x).length = n + 1 := by rw [insE_length (by omega), hn]
  have hmLit : Lit (insE l k x) := by
    intro y hy
    simp only [insE, List.mem_append, List.mem_cons] at hy
    have hx2 : x.key.length ≤ 10000 ∧ x.val.length ≤ 10000 := by omega
    rcases hy with h | rfl | h
    · exact hL.lit y (List.mem_of_mem_take h)
    · exact hx2
    · exact hL.lit y (List.mem_of_mem_drop h)
  refine EvCut.direct ?_
  repeat ((conv => whnf); (first | (first | refine nowA ?_ | refine numN ?_ | refine numI ?_ | refine EvVal.ofN ?_ | refine EvNew.mk fun _ => ?_ | refine EvLoad.mk _ rfl _ rfl ?_ | refine divA ?_) | refine loadNA ?_ | refine EvStore.lit ⟨rfl, by decide⟩ (by rfl) ?_))
  refine callA (right18_spec leaf (insE l k x) a7 (n + 1) c7 hml hmLit (by omega)) ?_
  rintro _ _ ⟨rfl, rfl⟩
  cases hok2 : okN leaf (insE l k x)
  case false =>
    repeat ((conv => whnf); (first | (first | (first | refine nowA ?_ | refine numN ?_ | refine numI ?_ | refine EvVal.ofN ?_ | refine EvNew.mk fun _ => ?_ | refine EvLoad.mk _ rfl _ rfl ?_ | refine divA ?_) | refine loadNA ?_ | refine EvStore.lit ⟨rfl, by decide⟩ (by rfl) ?_) | (first | refine brT ?_ | refine brF ?_ | refine iteT ?_ | refine iteF ?_)))
    refine EvIf.br (brT ?_)
    refine callA awake18_spec ?_
    rintro _ _ ⟨rfl, rfl⟩
    repeat ((conv => whnf); (first | (first | (first | refine nowA ?_ | refine numN ?_ | refine numI ?_ | refine EvVal.ofN ?_ | refine EvNew.mk fun _ => ?_ | refine EvLoad.mk _ rfl _ rfl ?_ | refine divA ?_) | refine loadNA ?_ | refine EvStore.lit ⟨rfl, by decide⟩ (by rfl) ?_) | (first | refine brT ?_ | refine brF ?_ | refine iteT ?_ | refine iteF ?_)))
    exact retA ⟨rfl, rfl⟩
  by_cases h2 : ((n + 1 : Nat) : Int) < 2
  · repeat ((conv => whnf); (first | (first | (first | refine nowA ?_ | refine numN ?_ | refine numI ?_ | refine EvVal.ofN ?_ | refine EvNew.mk fun _ => ?_ | refine EvLoad.mk _ rfl _ rfl ?_ | refine divA ?_) | refine loadNA ?_ | refine EvStore.lit ⟨rfl, by decide⟩ (by rfl) ?_) | (first | refine brT ?_ | refine brF ?_ | refine iteT ?_ | refine iteF ?_)))
    refine EvIf.br (brT ?_)
    refine callA awake18_spec ?_
    rintro _ _ ⟨rfl, rfl⟩
    repeat ((conv => whnf); (first | (first | (first | refine nowA ?_ | refine numN ?_ | refine numI ?_ | refine EvVal.ofN ?_ | refine EvNew.mk fun _ => ?_ | refine EvLoad.mk _ rfl _ rfl ?_ | refine divA ?_) | refine loadNA ?_ | refine EvStore.lit ⟨rfl, by decide⟩ (by rfl) ?_) | (first | refine brT ?_ | refine brF ?_ | refine iteT ?_ | refine iteF ?_)))
    exact retA ⟨rfl, rfl⟩
  repeat ((conv => whnf); (first | (first | (first | refine nowA ?_ | refine numN ?_ | refine numI ?_ | refine EvVal.ofN ?_ | refine EvNew.mk fun _ => ?_ | refine EvLoad.mk _ rfl _ rfl ?_ | refine divA ?_) | refine loadNA ?_ | refine EvStore.lit ⟨rfl, by decide⟩ (by rfl) ?_) | (first | refine brT ?_ | refine brF ?_ | refine iteT ?_ | refine iteF ?_)))
  refine EvIf.br (brF ?_)
  repeat ((conv => whnf); (first | (first | (first | refine nowA ?_ | refine numN ?_ | refine numI ?_ | refine EvVal.ofN ?_ | refine EvNew.mk fun _ => ?_ | refine EvLoad.mk _ rfl _ rfl ?_ | refine divA ?_) | refine loadNA ?_ | refine EvStore.lit ⟨rfl, by decide⟩ (by rfl) ?_) | (first | refine brT ?_ | refine brF ?_ | refine iteT ?_ | refine iteF ?_)))
  refine callA (to18_spec leaf (insE l k x) a7 (n + 1) c7 hml (by omega)) ?_
  rintro _ _ ⟨a8, c8, hc8, rfl, rfl⟩
  repeat ((conv => whnf); (first | (first | (first | refine nowA ?_ | refine numN ?_ | refine numI ?_ | refine EvVal.ofN ?_ | refine EvNew.mk fun _ => ?_ | refine EvLoad.mk _ rfl _ rfl ?_ | refine divA ?_) | refine loadNA ?_ | refine EvStore.lit ⟨rfl, by decide⟩ (by rfl) ?_) | (first | refine brT ?_ | refine brF ?_ | refine iteT ?_ | refine iteF ?_)))
  refine callA (halves_spec leaf (insE l k x) a8 (n + 1) c8 hml hmLit (by omega) hc8) ?_
  rintro _ _ ⟨at_, aa, ca, ab, cb, hbest, hat, hca, hcb, rfl, rfl⟩
  have hE2 := (okN_iff.1 hok2).1
  have hbx : bytL (insE l k x) ≤ 302 := by
    have e : bytL (insE l k x) = bytL (l.take k) + (bytE x + bytL (l.drop k)) := by
      unfold insE
      rw [bytL_append, show x :: l.drop k = [x] ++ l.drop k from rfl, bytL_append, bytL_one]
    have e2 : bytL (l.take k) + bytL (l.drop k) = bytL l := by rw [← bytL_append, List.take_append_drop]
    have e3 := (hE2 x (by simp [insE])).byt
    omega
  obtain ⟨f1, f2⟩ := halves_fit hbest (by omega) (fun y hy => (hE2 y hy).byt) hbx
  have hok3 := okN_take hok2 at_
  have hok4 := okN_drop hok2 at_
  repeat ((conv => whnf); (first | (first | (first | refine nowA ?_ | refine numN ?_ | refine numI ?_ | refine EvVal.ofN ?_ | refine EvNew.mk fun _ => ?_ | refine EvLoad.mk _ rfl _ rfl ?_ | refine divA ?_) | refine loadNA ?_ | refine EvStore.lit ⟨rfl, by decide⟩ (by rfl) ?_) | (first | refine brT ?_ | refine brF ?_ | refine iteT ?_ | refine iteF ?_)))
  refine callA (nput_spec leaf ((insE l k x).take at_) aa at_ ca (by rw [List.length_take]; omega) (hmLit.sub (List.take_subset _ _)) (by omega)) ?_
  rintro _ _ ⟨hv, rfl⟩
  rcases hv with ⟨hbad, _⟩ | ⟨_, hbad, _⟩ | ⟨_, _, b3, _, _, rfl⟩
  · rw [hok3] at hbad; cases hbad
  · rw [roomL_recsN] at hbad; omega
  repeat ((conv => whnf); (first | (first | (first | refine nowA ?_ | refine numN ?_ | refine numI ?_ | refine EvVal.ofN ?_ | refine EvNew.mk fun _ => ?_ | refine EvLoad.mk _ rfl _ rfl ?_ | refine divA ?_) | refine loadNA ?_ | refine EvStore.lit ⟨rfl, by decide⟩ (by rfl) ?_) | (first | refine brT ?_ | refine brF ?_ | refine iteT ?_ | refine iteF ?_)))
  refine callA (nput_spec leaf ((insE l k x).drop at_) ab (n + 1 - at_) cb (by rw [List.length_drop]; omega) (hmLit.sub (List.drop_subset _ _)) (by omega)) ?_
  rintro _ _ ⟨hv, rfl⟩
  rcases hv with ⟨hbad, _⟩ | ⟨_, hbad, _⟩ | ⟨_, _, b4, _, _, rfl⟩
  · rw [hok4] at hbad; cases hbad
  · rw [roomL_recsN] at hbad; omega
  repeat ((conv => whnf); (first | (first | (first | refine nowA ?_ | refine numN ?_ | refine numI ?_ | refine EvVal.ofN ?_ | refine EvNew.mk fun _ => ?_ | refine EvLoad.mk _ rfl _ rfl ?_ | refine divA ?_) | refine loadNA ?_ | refine EvStore.lit ⟨rfl, by decide⟩ (by rfl) ?_) | (first | refine brT ?_ | refine brF ?_ | refine iteT ?_ | refine iteF ?_)))
  conv => whnf
  refine EvCut.direct ?_
  refine callA awake18_spec ?_
  rintro _ _ ⟨rfl, rfl⟩
  repeat ((conv => whnf); (first | (first | (first | refine nowA ?_ | refine numN ?_ | refine numI ?_ | refine EvVal.ofN ?_ | refine EvNew.mk fun _ => ?_ | refine EvLoad.mk _ rfl _ rfl ?_ | refine divA ?_) | refine loadNA ?_ | refine EvStore.lit ⟨rfl, by decide⟩ (by rfl) ?_) | (first | refine brT ?_ | refine brF ?_ | refine iteT ?_ | refine iteF ?_)))
  exact retA ⟨rfl, rfl⟩
end Go.Proofs.Ytloknkdomgeolaa.She
