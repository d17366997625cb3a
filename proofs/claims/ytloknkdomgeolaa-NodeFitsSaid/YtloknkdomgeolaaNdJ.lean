/- Nodes: the document's records, walked; the laws NodePuts, walked. -/
import Derived.Test.YtloknkdomgeolaaNdH
import Derived.Test.YtloknkdomgeolaaSheV
namespace Go.Proofs.Ytloknkdomgeolaa.She
set_option linter.all false
open Go
set_option pp.maxSteps 600
set_option maxRecDepth 10000
set_option maxHeartbeats 4000000

theorem records18_spec (leaf : Bool) (l : List En) (ao : Option Addr) (n c : Nat) (hn : l.length = n) (hn2 : n ≤ 9000) (hE : ∀ x ∈ l, OkE leaf x) :
    Spec Try.prog 38 [.agg #[.bool leaf, .slice ao n c]] [.view ao 70 (entV l)]
      (fun v O => ∃ a' c', n + 1 ≤ c' ∧ v = .slice a' (n + 1) c' ∧ O = [.row a' c' 9 1 (strV (recsN leaf l))]) := by
  refine Spec.of_ev S_ok S_mixed Try.func38 rfl rfl ?_
  refine EvNew.mk fun q => ?_
  repeat ((conv => whnf); (first | (first | refine nowA ?_ | refine numN ?_ | refine numI ?_ | refine EvVal.ofN ?_ | refine EvNew.mk fun _ => ?_ | refine EvLoad.mk _ rfl _ rfl ?_ | refine divA ?_) | refine loadNA ?_ | refine EvStore.lit ⟨rfl, by decide⟩ (by rfl) ?_))
  rename_i b0
  refine EvIf.cut (α := Nat) (fun _ => True) (fun b => [(3, .slice (some ⟨b, 0, none⟩) 1 1)]) (fun b => [.row (some ⟨b, 0, none⟩) 1 9 1 (strV [kindB leaf]), .blk q 53 [.bool leaf, .slice ao n c], .view ao 70 (entV l)]) ?_ ?_
  · cases leaf
    · refine brF ?_
      repeat ((conv => whnf); (first | (first | refine nowA ?_ | refine numN ?_ | refine numI ?_ | refine EvVal.ofN ?_ | refine EvNew.mk fun _ => ?_ | refine EvLoad.mk _ rfl _ rfl ?_ | refine divA ?_) | refine loadNA ?_ | refine EvStore.lit ⟨rfl, by decide⟩ (by rfl) ?_))
      exact metA b0 trivial
    · refine brT ?_
      repeat ((conv => whnf); (first | (first | refine nowA ?_ | refine numN ?_ | refine numI ?_ | refine EvVal.ofN ?_ | refine EvNew.mk fun _ => ?_ | refine EvLoad.mk _ rfl _ rfl ?_ | refine divA ?_) | refine loadNA ?_ | refine EvStore.lit ⟨rfl, by decide⟩ (by rfl) ?_))
      rename_i b1
      exact metA b1 trivial
  intro b _
  repeat ((conv => whnf); (first | (first | refine nowA ?_ | refine numN ?_ | refine numI ?_ | refine EvVal.ofN ?_ | refine EvNew.mk fun _ => ?_ | refine EvLoad.mk _ rfl _ rfl ?_ | refine divA ?_) | refine loadNA ?_ | refine EvStore.lit ⟨rfl, by decide⟩ (by rfl) ?_))
  refine EvLoop.mk (α := Nat × Option Addr × Nat) (fun x => x.1 ≤ n ∧ x.1 + 1 ≤ x.2.2) (fun x => n - x.1) (fun x => [(4, .int .i64 x.1), (3, .slice x.2.1 (x.1 + 1) x.2.2)]) (fun x => [.row x.2.1 x.2.2 9 1 (strV (recsN leaf (l.take x.1))), .blk q 53 [.bool leaf, .slice ao n c], .view ao 70 (entV l)]) ?_ ?_
  · exact metA (0, some ⟨b, 0, none⟩, 1) ⟨by omega, by dsimp only; omega⟩
  rintro ⟨i, ap, cp⟩ ⟨hi, hcp⟩
  dsimp only at hi hcp ⊢
  repeat ((conv => whnf); (first | refine nowA ?_ | refine numN ?_ | refine numI ?_ | refine EvVal.ofN ?_ | refine EvNew.mk fun _ => ?_ | refine EvLoad.mk _ rfl _ rfl ?_ | refine divA ?_))
  refine EvIf.br (brD (fun hlt => ?_) (fun hge => ?_))
  · have hlt : i < l.length := by omega
    have hxE := hE _ (getD_mem hlt)
    obtain ⟨hx1, hx2, hx3, hx4, hx5⟩ := hxE
    have hfar : -1 ≤ (l.getD i d0).far := by split at hx3 <;> omega
    obtain ⟨m, hm⟩ : ∃ m : Nat, (l.getD i d0).far + 1 = (m : Int) := ⟨((l.getD i d0).far + 1).toNat, by omega⟩
    have hm' : ((l.getD i d0).far + 1).toNat = m := by omega
    have hr : recE (l.getD i d0) = [UInt8.ofNat (l.getD i d0).key.length] ++ (l.getD i d0).key ++ twoB m ++ (l.getD i d0).val := by unfold recE; rw [hm']
    repeat ((conv => whnf); (first | refine nowA ?_ | refine numN ?_ | refine numI ?_ | refine EvVal.ofN ?_ | refine EvNew.mk fun _ => ?_ | refine EvLoad.mk _ rfl _ rfl ?_ | refine divA ?_))
    refine EvIdx.sl i rfl (by omega) (by rw [entV_length]; omega) ?_
    refine EvLoadN.mk (i * 3) rfl _ rfl (entV_get hlt) ?_
    refine EvNew.mk fun p => ?_
    repeat ((conv => whnf); (first | (first | refine nowA ?_ | refine numN ?_ | refine numI ?_ | refine EvVal.ofN ?_ | refine EvNew.mk fun _ => ?_ | refine EvLoad.mk _ rfl _ rfl ?_ | refine divA ?_) | refine loadNA ?_ | refine EvStore.lit ⟨rfl, by decide⟩ (by rfl) ?_))
    refine EvDraw.mk (.take 0 (.take 1 (.take 7 (.take 10 (.take 15 (.ahead [.push [2,3,4], .push [5,6], .push [8,9], .push [11,12,13,14], .push [16,17]] (.eff 18 (.eff 19 (.take 20 .nil))))))))) (by kernel_rfl) ?_
    repeat ((conv => whnf); (first | (first | refine nowA ?_ | refine numN ?_ | refine numI ?_ | refine EvVal.ofN ?_ | refine EvNew.mk fun _ => ?_ | refine EvLoad.mk _ rfl _ rfl ?_ | refine divA ?_) | refine loadNA ?_ | refine EvStore.lit ⟨rfl, by decide⟩ (by rfl) ?_))
    refine EvAhead.all ?_
    conv => whnf
    apply EvPush.mk
    case hv =>
      repeat ((conv => whnf); (first | (first | (first | refine nowA ?_ | refine numN ?_ | refine numI ?_ | refine EvVal.ofN ?_ | refine EvNew.mk fun _ => ?_ | refine EvLoad.mk _ rfl _ rfl ?_ | refine divA ?_) | refine loadNA ?_ | refine EvStore.lit ⟨rfl, by decide⟩ (by rfl) ?_) | (refine keepE (by repeat (first | exact Kp.all | refine Kp.keep ?_ | refine Kp.junk rfl ?_)) ?_)))
      refine keepW rfl ?_
      repeat (first | exact Kp.all | refine Kp.keep ?_ | refine Kp.junk rfl ?_)
    conv => whnf
    apply EvPush.mk
    case hv =>
      repeat ((conv => whnf); (first | (first | (first | refine nowA ?_ | refine numN ?_ | refine numI ?_ | refine EvVal.ofN ?_ | refine EvNew.mk fun _ => ?_ | refine EvLoad.mk _ rfl _ rfl ?_ | refine divA ?_) | refine loadNA ?_ | refine EvStore.lit ⟨rfl, by decide⟩ (by rfl) ?_) | (refine keepE (by repeat (first | exact Kp.all | refine Kp.keep ?_ | refine Kp.junk rfl ?_)) ?_)))
      refine EvStr.mk [UInt8.ofNat (l.getD i d0).key.length] rfl (by show [Value.int .u8 _] = [Value.int .u8 _]; rw [UInt8.toNat_ofNat', Nat.mod_eq_of_lt (by omega)]) ?_
      repeat ((conv => whnf); (first | (first | (first | refine nowA ?_ | refine numN ?_ | refine numI ?_ | refine EvVal.ofN ?_ | refine EvNew.mk fun _ => ?_ | refine EvLoad.mk _ rfl _ rfl ?_ | refine divA ?_) | refine loadNA ?_ | refine EvStore.lit ⟨rfl, by decide⟩ (by rfl) ?_) | (refine keepE (by repeat (first | exact Kp.all | refine Kp.keep ?_ | refine Kp.junk rfl ?_)) ?_)))
      refine keepW rfl ?_
      repeat (first | exact Kp.all | refine Kp.keep ?_ | refine Kp.junk rfl ?_)
    conv => whnf
    apply EvPush.mk
    case hv =>
      repeat ((conv => whnf); (first | (first | (first | refine nowA ?_ | refine numN ?_ | refine numI ?_ | refine EvVal.ofN ?_ | refine EvNew.mk fun _ => ?_ | refine EvLoad.mk _ rfl _ rfl ?_ | refine divA ?_) | refine loadNA ?_ | refine EvStore.lit ⟨rfl, by decide⟩ (by rfl) ?_) | (refine keepE (by repeat (first | exact Kp.all | refine Kp.keep ?_ | refine Kp.junk rfl ?_)) ?_)))
      refine EvNow.mk (by simp only [List.length_append, List.length_cons, List.length_nil]; omega) ?_
      repeat ((conv => whnf); (first | (first | (first | refine nowA ?_ | refine numN ?_ | refine numI ?_ | refine EvVal.ofN ?_ | refine EvNew.mk fun _ => ?_ | refine EvLoad.mk _ rfl _ rfl ?_ | refine divA ?_) | refine loadNA ?_ | refine EvStore.lit ⟨rfl, by decide⟩ (by rfl) ?_) | (refine keepE (by repeat (first | exact Kp.all | refine Kp.keep ?_ | refine Kp.junk rfl ?_)) ?_)))
      refine keepW rfl ?_
      repeat (first | exact Kp.all | refine Kp.keep ?_ | refine Kp.junk rfl ?_)
    conv => whnf
    apply EvPush.mk
    case hv =>
      repeat ((conv => whnf); (first | (first | (first | refine nowA ?_ | refine numN ?_ | refine numI ?_ | refine EvVal.ofN ?_ | refine EvNew.mk fun _ => ?_ | refine EvLoad.mk _ rfl _ rfl ?_ | refine divA ?_) | refine loadNA ?_ | refine EvStore.lit ⟨rfl, by decide⟩ (by rfl) ?_) | (refine keepE (by repeat (first | exact Kp.all | refine Kp.keep ?_ | refine Kp.junk rfl ?_)) ?_)))
      rw [hm]
      refine callA (rtwo_spec m (by omega)) ?_
      rintro _ _ ⟨rfl, rfl⟩
      repeat ((conv => whnf); (first | (first | (first | refine nowA ?_ | refine numN ?_ | refine numI ?_ | refine EvVal.ofN ?_ | refine EvNew.mk fun _ => ?_ | refine EvLoad.mk _ rfl _ rfl ?_ | refine divA ?_) | refine loadNA ?_ | refine EvStore.lit ⟨rfl, by decide⟩ (by rfl) ?_) | (refine keepE (by repeat (first | exact Kp.all | refine Kp.keep ?_ | refine Kp.junk rfl ?_)) ?_)))
      refine EvNow.mk (by simp only [twoB, List.length_append, List.length_cons, List.length_nil]; omega) ?_
      repeat ((conv => whnf); (first | (first | (first | refine nowA ?_ | refine numN ?_ | refine numI ?_ | refine EvVal.ofN ?_ | refine EvNew.mk fun _ => ?_ | refine EvLoad.mk _ rfl _ rfl ?_ | refine divA ?_) | refine loadNA ?_ | refine EvStore.lit ⟨rfl, by decide⟩ (by rfl) ?_) | (refine keepE (by repeat (first | exact Kp.all | refine Kp.keep ?_ | refine Kp.junk rfl ?_)) ?_)))
      refine keepW rfl ?_
      repeat (first | exact Kp.all | refine Kp.keep ?_ | refine Kp.junk rfl ?_)
    conv => whnf
    apply EvPush.mk
    case hv =>
      repeat ((conv => whnf); (first | (first | (first | refine nowA ?_ | refine numN ?_ | refine numI ?_ | refine EvVal.ofN ?_ | refine EvNew.mk fun _ => ?_ | refine EvLoad.mk _ rfl _ rfl ?_ | refine divA ?_) | refine loadNA ?_ | refine EvStore.lit ⟨rfl, by decide⟩ (by rfl) ?_) | (refine keepE (by repeat (first | exact Kp.all | refine Kp.keep ?_ | refine Kp.junk rfl ?_)) ?_)))
      refine EvNow.mk (by simp only [twoB, List.length_append, List.length_cons, List.length_nil]; omega) ?_
      repeat ((conv => whnf); (first | (first | (first | refine nowA ?_ | refine numN ?_ | refine numI ?_ | refine EvVal.ofN ?_ | refine EvNew.mk fun _ => ?_ | refine EvLoad.mk _ rfl _ rfl ?_ | refine divA ?_) | refine loadNA ?_ | refine EvStore.lit ⟨rfl, by decide⟩ (by rfl) ?_) | (refine keepE (by repeat (first | exact Kp.all | refine Kp.keep ?_ | refine Kp.junk rfl ?_)) ?_)))
      refine keepW rfl ?_
      repeat (first | exact Kp.all | refine Kp.keep ?_ | refine Kp.junk rfl ?_)
    repeat ((conv => whnf); (first | (first | refine nowA ?_ | refine numN ?_ | refine numI ?_ | refine EvVal.ofN ?_ | refine EvNew.mk fun _ => ?_ | refine EvLoad.mk _ rfl _ rfl ?_ | refine divA ?_) | refine loadNA ?_ | refine EvStore.lit ⟨rfl, by decide⟩ (by rfl) ?_))
    refine EvSrc.mk 1 (strV [recE (l.getD i d0)]) (src_sl S_ok rfl rfl (by decide) 1 1 _ (by rw [hr]; rfl) (by simp) rfl) ?_
    refine EvApp.own ⟨rfl, rfl, rfl, by decide⟩ (by simp [recsN]; omega) (allOne_strV _) (by omega) (i + 1 + 1) rfl ?_
    intro a' c' hc'
    rw [← strV_append]
    have e : recsN leaf (l.take (i + 1)) = recsN leaf (l.take i) ++ [recE (l.getD i d0)] := by
      simp only [recsN, take_succ_getD hlt d0, List.map_append, List.map_cons, List.map_nil, List.cons_append]
    rw [← e]
    repeat ((conv => whnf); (first | (first | refine nowA ?_ | refine numN ?_ | refine numI ?_ | refine EvVal.ofN ?_ | refine EvNew.mk fun _ => ?_ | refine EvLoad.mk _ rfl _ rfl ?_ | refine divA ?_) | refine loadNA ?_ | refine EvStore.lit ⟨rfl, by decide⟩ (by rfl) ?_))
    exact metA (i + 1, a', c') ⟨⟨by dsimp only; omega, hc'⟩, by dsimp only; omega⟩
  · have e : i = n := by omega
    subst e
    have e2 : l.take i = l := by rw [← hn, List.take_length]
    rw [e2]
    repeat ((conv => whnf); (first | (first | refine nowA ?_ | refine numN ?_ | refine numI ?_ | refine EvVal.ofN ?_ | refine EvNew.mk fun _ => ?_ | refine EvLoad.mk _ rfl _ rfl ?_ | refine divA ?_) | refine loadNA ?_ | refine EvStore.lit ⟨rfl, by decide⟩ (by rfl) ?_))
    exact retA ⟨ap, cp, hcp, rfl, rfl⟩

theorem recsN_len {leaf : Bool} {l : List En} (hE : ∀ x ∈ l, OkE leaf x) : ∀ r ∈ recsN leaf l, r.length ≤ 10000 := by
  intro r hr
  simp only [recsN, List.mem_cons, List.mem_map] at hr
  rcases hr with rfl | ⟨x, hx, rfl⟩
  · cases leaf <;> decide
  · have := hE x hx
    rw [recE_length]
    have h1 := this.1
    have h2 := this.2.1
    omega

theorem nodePuts_spec (leaf : Bool) (l : List En) (ao : Option Addr) (n c : Nat) (hn : l.length = n) (hn2 : n ≤ 9223372036854775807) (hl : ∀ x ∈ l, x.key.length ≤ 9223372036854775807 ∧ x.val.length ≤ 9223372036854775807) :
    Spec Try.prog 8 [.agg #[.bool leaf, .slice ao n c]] [.view ao 70 (entV l)] (fun v O => v = .bool true ∧ O = []) := by
  refine Spec.of_ev S_ok S_mixed Try.func8 rfl rfl ?_
  refine EvNew.mk fun p => ?_
  repeat ((conv => whnf); (first | (first | refine nowA ?_ | refine numN ?_ | refine numI ?_ | refine EvVal.ofN ?_ | refine EvNew.mk fun _ => ?_ | refine EvLoad.mk _ rfl _ rfl ?_ | refine divA ?_) | refine loadNA ?_ | refine EvStore.lit ⟨rfl, by decide⟩ (by rfl) ?_))
  refine callA (light_spec leaf l ao n c hn hn2 hl) ?_
  rintro _ _ ⟨hv, rfl⟩
  rcases hv with ⟨hL, rfl⟩ | ⟨_, rfl⟩
  case inr =>
    repeat ((conv => whnf); (first | (first | refine nowA ?_ | refine numN ?_ | refine numI ?_ | refine EvVal.ofN ?_ | refine EvNew.mk fun _ => ?_ | refine EvLoad.mk _ rfl _ rfl ?_ | refine divA ?_) | refine loadNA ?_ | refine EvStore.lit ⟨rfl, by decide⟩ (by rfl) ?_))
    refine EvIf.br (brT ?_)
    refine callA awake18_spec ?_
    rintro _ _ ⟨rfl, rfl⟩
    repeat ((conv => whnf); (first | (first | refine nowA ?_ | refine numN ?_ | refine numI ?_ | refine EvVal.ofN ?_ | refine EvNew.mk fun _ => ?_ | refine EvLoad.mk _ rfl _ rfl ?_ | refine divA ?_) | refine loadNA ?_ | refine EvStore.lit ⟨rfl, by decide⟩ (by rfl) ?_))
    exact retA ⟨rfl, rfl⟩
  have hn60 : n ≤ 60 := by have := hL.1; omega
  repeat ((conv => whnf); (first | (first | refine nowA ?_ | refine numN ?_ | refine numI ?_ | refine EvVal.ofN ?_ | refine EvNew.mk fun _ => ?_ | refine EvLoad.mk _ rfl _ rfl ?_ | refine divA ?_) | refine loadNA ?_ | refine EvStore.lit ⟨rfl, by decide⟩ (by rfl) ?_))
  refine EvIf.br (brF ?_)
  repeat ((conv => whnf); (first | (first | refine nowA ?_ | refine numN ?_ | refine numI ?_ | refine EvVal.ofN ?_ | refine EvNew.mk fun _ => ?_ | refine EvLoad.mk _ rfl _ rfl ?_ | refine divA ?_) | refine loadNA ?_ | refine EvStore.lit ⟨rfl, by decide⟩ (by rfl) ?_))
  refine callA (to18_spec leaf l ao n c hn (by omega)) ?_
  rintro _ _ ⟨a1, c1, hc1, rfl, rfl⟩
  repeat ((conv => whnf); (first | (first | refine nowA ?_ | refine numN ?_ | refine numI ?_ | refine EvVal.ofN ?_ | refine EvNew.mk fun _ => ?_ | refine EvLoad.mk _ rfl _ rfl ?_ | refine divA ?_) | refine loadNA ?_ | refine EvStore.lit ⟨rfl, by decide⟩ (by rfl) ?_))
  refine callA (nput_spec leaf l a1 n c1 hn hL.lit (by omega)) ?_
  rintro _ _ ⟨hv, rfl⟩
  rcases hv with ⟨hok, rfl⟩ | ⟨hok, hroom, rfl⟩ | ⟨hok, hroom, b2, hb, hbr, rfl⟩
  · repeat ((conv => whnf); (first | (first | refine nowA ?_ | refine numN ?_ | refine numI ?_ | refine EvVal.ofN ?_ | refine EvNew.mk fun _ => ?_ | refine EvLoad.mk _ rfl _ rfl ?_ | refine divA ?_) | refine loadNA ?_ | refine EvStore.lit ⟨rfl, by decide⟩ (by rfl) ?_))
    refine callA (right18_spec leaf l ao n c hn hL.lit (by omega)) ?_
    rintro _ _ ⟨rfl, rfl⟩
    rw [hok]
    repeat ((conv => whnf); (first | (first | refine nowA ?_ | refine numN ?_ | refine numI ?_ | refine EvVal.ofN ?_ | refine EvNew.mk fun _ => ?_ | refine EvLoad.mk _ rfl _ rfl ?_ | refine divA ?_) | refine loadNA ?_ | refine EvStore.lit ⟨rfl, by decide⟩ (by rfl) ?_))
    refine EvIf.br (brT ?_)
    conv => whnf
    refine EvCut.direct ?_
    refine callA awake18_spec ?_
    rintro _ _ ⟨rfl, rfl⟩
    repeat ((conv => whnf); (first | (first | (first | refine nowA ?_ | refine numN ?_ | refine numI ?_ | refine EvVal.ofN ?_ | refine EvNew.mk fun _ => ?_ | refine EvLoad.mk _ rfl _ rfl ?_ | refine divA ?_) | refine loadNA ?_ | refine EvStore.lit ⟨rfl, by decide⟩ (by rfl) ?_) | (first | refine brT ?_ | refine brF ?_ | refine iteT ?_ | refine iteF ?_)))
    exact retA ⟨rfl, rfl⟩
  · have hE := (okN_iff.1 hok).1
    repeat ((conv => whnf); (first | (first | refine nowA ?_ | refine numN ?_ | refine numI ?_ | refine EvVal.ofN ?_ | refine EvNew.mk fun _ => ?_ | refine EvLoad.mk _ rfl _ rfl ?_ | refine divA ?_) | refine loadNA ?_ | refine EvStore.lit ⟨rfl, by decide⟩ (by rfl) ?_))
    refine callA (right18_spec leaf l ao n c hn hL.lit (by omega)) ?_
    rintro _ _ ⟨rfl, rfl⟩
    rw [hok]
    repeat ((conv => whnf); (first | (first | refine nowA ?_ | refine numN ?_ | refine numI ?_ | refine EvVal.ofN ?_ | refine EvNew.mk fun _ => ?_ | refine EvLoad.mk _ rfl _ rfl ?_ | refine divA ?_) | refine loadNA ?_ | refine EvStore.lit ⟨rfl, by decide⟩ (by rfl) ?_))
    refine EvIf.br (brF ?_)
    repeat ((conv => whnf); (first | (first | refine nowA ?_ | refine numN ?_ | refine numI ?_ | refine EvVal.ofN ?_ | refine EvNew.mk fun _ => ?_ | refine EvLoad.mk _ rfl _ rfl ?_ | refine divA ?_) | refine loadNA ?_ | refine EvStore.lit ⟨rfl, by decide⟩ (by rfl) ?_))
    refine callA (records18_spec leaf l ao n c hn (by omega) hE) ?_
    rintro _ _ ⟨a3, c3, hc3, rfl, rfl⟩
    repeat ((conv => whnf); (first | (first | refine nowA ?_ | refine numN ?_ | refine numI ?_ | refine EvVal.ofN ?_ | refine EvNew.mk fun _ => ?_ | refine EvLoad.mk _ rfl _ rfl ?_ | refine divA ?_) | refine loadNA ?_ | refine EvStore.lit ⟨rfl, by decide⟩ (by rfl) ?_))
    refine callA (rroom_spec (recsN leaf l) a3 (n + 1) c3 (by simp [recsN, hn]) (recsN_len hE) (by omega)) ?_
    rintro _ _ ⟨rfl, rfl⟩
    repeat ((conv => whnf); (first | (first | (first | refine nowA ?_ | refine numN ?_ | refine numI ?_ | refine EvVal.ofN ?_ | refine EvNew.mk fun _ => ?_ | refine EvLoad.mk _ rfl _ rfl ?_ | refine divA ?_) | refine loadNA ?_ | refine EvStore.lit ⟨rfl, by decide⟩ (by rfl) ?_) | (first | refine brT ?_ | refine brF ?_ | refine iteT ?_ | refine iteF ?_)))
    refine EvIf.br (brT ?_)
    conv => whnf
    refine EvCut.direct ?_
    refine callA awake18_spec ?_
    rintro _ _ ⟨rfl, rfl⟩
    repeat ((conv => whnf); (first | (first | (first | refine nowA ?_ | refine numN ?_ | refine numI ?_ | refine EvVal.ofN ?_ | refine EvNew.mk fun _ => ?_ | refine EvLoad.mk _ rfl _ rfl ?_ | refine divA ?_) | refine loadNA ?_ | refine EvStore.lit ⟨rfl, by decide⟩ (by rfl) ?_) | (first | refine brT ?_ | refine brF ?_ | refine iteT ?_ | refine iteF ?_)))
    exact retA ⟨rfl, rfl⟩
  · have hE := (okN_iff.1 hok).1
    have hbl := (chk_zero hb).1
    have hroom' : ¬ roomL (recsN leaf l) < 0 := by omega
    repeat ((conv => whnf); (first | (first | refine nowA ?_ | refine numN ?_ | refine numI ?_ | refine EvVal.ofN ?_ | refine EvNew.mk fun _ => ?_ | refine EvLoad.mk _ rfl _ rfl ?_ | refine divA ?_) | refine loadNA ?_ | refine EvStore.lit ⟨rfl, by decide⟩ (by rfl) ?_))
    refine callA (right18_spec leaf l ao n c hn hL.lit (by omega)) ?_
    rintro _ _ ⟨rfl, rfl⟩
    rw [hok]
    repeat ((conv => whnf); (first | (first | refine nowA ?_ | refine numN ?_ | refine numI ?_ | refine EvVal.ofN ?_ | refine EvNew.mk fun _ => ?_ | refine EvLoad.mk _ rfl _ rfl ?_ | refine divA ?_) | refine loadNA ?_ | refine EvStore.lit ⟨rfl, by decide⟩ (by rfl) ?_))
    refine EvIf.br (brF ?_)
    repeat ((conv => whnf); (first | (first | refine nowA ?_ | refine numN ?_ | refine numI ?_ | refine EvVal.ofN ?_ | refine EvNew.mk fun _ => ?_ | refine EvLoad.mk _ rfl _ rfl ?_ | refine divA ?_) | refine loadNA ?_ | refine EvStore.lit ⟨rfl, by decide⟩ (by rfl) ?_))
    refine callA (records18_spec leaf l ao n c hn (by omega) hE) ?_
    rintro _ _ ⟨a3, c3, hc3, rfl, rfl⟩
    repeat ((conv => whnf); (first | (first | refine nowA ?_ | refine numN ?_ | refine numI ?_ | refine EvVal.ofN ?_ | refine EvNew.mk fun _ => ?_ | refine EvLoad.mk _ rfl _ rfl ?_ | refine divA ?_) | refine loadNA ?_ | refine EvStore.lit ⟨rfl, by decide⟩ (by rfl) ?_))
    refine callA (rroom_spec (recsN leaf l) a3 (n + 1) c3 (by simp [recsN, hn]) (recsN_len hE) (by omega)) ?_
    rintro _ _ ⟨rfl, rfl⟩
    repeat ((conv => whnf); (first | (first | (first | refine nowA ?_ | refine numN ?_ | refine numI ?_ | refine EvVal.ofN ?_ | refine EvNew.mk fun _ => ?_ | refine EvLoad.mk _ rfl _ rfl ?_ | refine divA ?_) | refine loadNA ?_ | refine EvStore.lit ⟨rfl, by decide⟩ (by rfl) ?_) | (first | refine brT ?_ | refine brF ?_ | refine iteT ?_ | refine iteF ?_)))
    refine EvIf.br (brF ?_)
    conv => whnf
    refine EvCut.direct ?_
    refine callA awake18_spec ?_
    rintro _ _ ⟨rfl, rfl⟩
    repeat ((conv => whnf); (first | (first | (first | refine nowA ?_ | refine numN ?_ | refine numI ?_ | refine EvVal.ofN ?_ | refine EvNew.mk fun _ => ?_ | refine EvLoad.mk _ rfl _ rfl ?_ | refine divA ?_) | refine loadNA ?_ | refine EvStore.lit ⟨rfl, by decide⟩ (by rfl) ?_) | (first | refine brT ?_ | refine brF ?_ | refine iteT ?_ | refine iteF ?_)))
    refine callA (rchk_spec b2 (by omega)) ?_
    rintro _ _ ⟨rfl, rfl⟩
    rw [hb]
    repeat ((conv => whnf); (first | (first | (first | refine nowA ?_ | refine numN ?_ | refine numI ?_ | refine EvVal.ofN ?_ | refine EvNew.mk fun _ => ?_ | refine EvLoad.mk _ rfl _ rfl ?_ | refine divA ?_) | refine loadNA ?_ | refine EvStore.lit ⟨rfl, by decide⟩ (by rfl) ?_) | (first | refine brT ?_ | refine brF ?_ | refine iteT ?_ | refine iteF ?_)))
    refine callA (rall_spec b2 hb) ?_
    rintro _ _ ⟨a4, c4, hc4, rfl, rfl⟩
    have hlen : (recs b2).length = n + 1 := by rw [hbr]; simp [recsN, hn]
    rw [hlen]
    repeat ((conv => whnf); (first | (first | (first | refine nowA ?_ | refine numN ?_ | refine numI ?_ | refine EvVal.ofN ?_ | refine EvNew.mk fun _ => ?_ | refine EvLoad.mk _ rfl _ rfl ?_ | refine divA ?_) | refine loadNA ?_ | refine EvStore.lit ⟨rfl, by decide⟩ (by rfl) ?_) | (first | refine brT ?_ | refine brF ?_ | refine iteT ?_ | refine iteF ?_)))
    refine callA (same_spec (recs b2) (recsN leaf l) a4 a3 (n + 1) c4 (n + 1) c3 hlen (by simp [recsN, hn]) (by omega) (by omega)) ?_
    rintro _ _ ⟨rfl, rfl⟩
    rw [decide_eq_true hbr]
    repeat ((conv => whnf); (first | (first | (first | refine nowA ?_ | refine numN ?_ | refine numI ?_ | refine EvVal.ofN ?_ | refine EvNew.mk fun _ => ?_ | refine EvLoad.mk _ rfl _ rfl ?_ | refine divA ?_) | refine loadNA ?_ | refine EvStore.lit ⟨rfl, by decide⟩ (by rfl) ?_) | (first | refine brT ?_ | refine brF ?_ | refine iteT ?_ | refine iteF ?_)))
    exact retA ⟨rfl, rfl⟩
end Go.Proofs.Ytloknkdomgeolaa.She
