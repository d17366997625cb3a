/- Part of a small program logic: what the evaluator says of operations that change the heap is so. -/
import Derived.Test.YtloknkdomgeolaaSheF
namespace Go.Proofs.Ytloknkdomgeolaa.She
set_option linter.all false
open Go

theorem info_of {S : Sig} (hS : S.Ok) {t : Nat} {i : TI} (h : S.T t = some i) : ∃ j z, S.P.info? t = some j ∧ j.size = i.size ∧ j.bytes = i.bytes ∧ j.zero = some z ∧ z.cells = ⟨i.zero⟩ := by
  obtain ⟨j, z, h1, h2, h3, h4, h5, _⟩ := (hS t i h).info
  exact ⟨j, z, h1, h2, h3, h4, h5⟩

theorem range_cells (z : List Value) : ∀ n, (Array.range (n * z.length)).map ((⟨z⟩ : Array Value)[· % z.length]!) = ⟨zerosV z n⟩ := by
  intro n
  apply Array.ext'
  simp only [Array.toList_map, Array.toList_range]
  induction n with
  | zero => simp [zerosV]
  | succ n ih =>
    rw [zerosV_add z n 1, Nat.succ_mul, List.range_add, List.map_append, ih]
    congr 1
    simp only [zerosV, List.append_nil, List.map_map]
    apply List.ext_getElem
    · simp
    · intro i h1 h2
      simp only [List.length_map, List.length_range] at h1
      simp [Nat.mod_eq_of_lt h1, h1]

theorem made_cells {z : Value} {zs : List Value} (hz : z.cells = ⟨zs⟩) (n : Nat) : madeCells z.cells (n * zs.length) = ⟨zerosV zs n⟩ := by
  unfold madeCells
  rw [hz]
  have := range_cells zs n
  simpa using this

theorem zero_cells {z : Value} {zs : List Value} (hz : z.cells = ⟨zs⟩) (n : Nat) : Builtin.zeroCells z.cells n = ⟨zerosV zs n⟩ := by
  unfold Builtin.zeroCells
  rw [hz]
  have := range_cells zs n
  simpa using this

theorem _root_.Go.Instr.fill_size {place : Nat → Option (Nat × Nat)} : ∀ {ps : List (Nat × Value)} {cs out : Array Value}, Instr.fill place cs ps = some out → out.size = cs.size
  | [], cs, out, h => by simp [Instr.fill] at h; rw [h]
  | (i, v) :: r, cs, out, h => by
    rw [Instr.fill] at h
    split at h
    · cases h
    · split at h
      · cases h
      · have := Instr.fill_size h
        rw [this]
        have : ∀ (l : List (Value × Nat)) (c : Array Value) (off : Nat), (l.foldl (fun cs (x : Value × Nat) => cs.setIfInBounds (off + x.2) x.1) c).size = c.size := by
          intro l
          induction l with
          | nil => intro c off; rfl
          | cons x l ih => intro c off; simp only [List.foldl_cons]; rw [ih]; simp
        rw [← Array.foldl_toList]
        exact this _ _ _

theorem storeVar_run {S : Sig} (hS : S.Ok) {t : Nat} {i : TI} (hi : S.T t = some i) {a : Addr} {v : Value} (hl : (toCells v).length = i.size) (w : World) :
    (storeVar t a v).run S.P w = (storeCells a (toCells v)).run S.P w := by
  have hc : v.cells.size = i.size := by rw [← toCells_eq]; exact hl
  have hc2 : v.cells.toList = toCells v := by rw [← toCells_eq]
  simp [storeVar, size_ok hS hi, hc, hc2]

theorem setCells_end : ∀ (ys xs sp : List Value), ys.length ≤ sp.length → setCells (xs ++ sp) xs.length ys = xs ++ ys ++ sp.drop ys.length
  | [], xs, sp, _ => by simp [setCells]
  | y :: ys, xs, [], h => by simp at h
  | y :: ys, xs, s :: sp, h => by
    simp only [setCells]
    have h1 : (xs ++ s :: sp).set xs.length y = (xs ++ [y]) ++ sp := by
      rw [List.set_append_right _ _ (Nat.le_refl _)]; simp
    rw [h1]
    have := setCells_end ys (xs ++ [y]) sp (by simpa using h)
    simp only [List.length_append, List.length_cons, List.length_nil, Nat.zero_add] at this
    rw [this]; simp

/-- append, of which it is known what the first argument is. -/
theorem append_own {S : Sig} (hS : S.Ok) {t tx e ty : Nat} {j : TI} (hu : S.P.underlying t = some (.slice e)) (hj : S.T e = some j) {ao : Option Addr} {n c m : Nat} {L : SH} {x : Value} {xs ys : List Value} {upd : Item → SH}
    (hrow : TakeRow L ao c e j.size xs upd) (hk : 0 < j.size) (hn : xs.length = n * j.size) (ho : allOne ys = true) (hb : (n + m) * j.bytes ≤ 140737488355328) (h63 : n + m ≤ 9223372036854775807) {Γ : Ctx} {w : World} (hg : Good Γ L w)
    (hs : Src S.P j.size tx x m ys w) : ∃ ao' cap' w', (Builtin.append_ #[t, tx] ty #[.slice ao n c, x]).run S.P w = .ok (.slice ao' (n + m) cap') w' ∧ Good Γ (upd (.row ao' cap' e j.size (xs ++ ys))) w' := by
  obtain ⟨A, B, hL, hupd⟩ := hrow.ok
  subst hL
  obtain ⟨q, z, q1, q2, q3, q4, q5⟩ := info_of hS hj
  have hzl : j.zero.length = j.size := (hS _ _ hj).zl
  have hit : (Item.row ao c e j.size xs).holds w := hg.holds _ (by simp)
  have hyl : ys.length = m * j.size := hs.newsLen
  have hxy : (xs ++ ys).length = (n + m) * j.size := by rw [List.length_append, hn, hyl, Nat.add_mul]
  have hgrow : c < n + m → (Builtin.firstCells q.size n (.slice ao n c)).run S.P w.drew = .ok xs.toArray w.drew →
      ∃ ao' cap' w', (Builtin.append_ #[t, tx] ty #[.slice ao n c, x]).run S.P w = .ok (.slice ao' (n + m) cap') w' ∧ Good Γ (upd (.row ao' cap' e j.size (xs ++ ys))) w' := by
    intro hc hold
    have hr := run_append_grow_src (P := S.P) w t tx ty e q z hu q1 q4 ao n c xs hold x m ys (by rw [q2]; exact hs) hc (by omega) (growslice_fits hc (by rw [q3]; exact hb))
    refine ⟨_, _, _, hr, ?_⟩
    rw [hupd]
    have hge := grownCap_ge w (n + m) c e
    have hzc := zero_cells q5 (grownCap w (n + m) c e - (n + m))
    have hd := hg.drew
    refine hd.change (it' := .row (some ⟨w.heap.size, 0, none⟩) (grownCap w (n + m) c e) e j.size (xs ++ ys)) rfl rfl rfl (by simp) (fun k hk' _ => heap_push_lt w.drew _ hk') ?_ (fun b hb => .inr (by simp [Item.owned, blksOf] at hb; subst hb; exact Nat.le_refl _)) (by simp [Item.owned, blksOf]) rfl
    refine .inr ⟨⟨w.heap.size, 0, none⟩, zerosV j.zero (grownCap w (n + m) c e - (n + m)), (0, 0), rfl, rfl, rfl, ?_, Free.zero _, ?_⟩
    · rw [hzc]
      have := heap_push_new w.drew (.cells ((xs ++ ys).toArray ++ (⟨zerosV j.zero (grownCap w (n + m) c e - (n + m))⟩ : Array Value)) e)
      have h2 : ((xs ++ ys).toArray ++ (⟨zerosV j.zero (grownCap w (n + m) c e - (n + m))⟩ : Array Value)) = ⟨(xs ++ ys) ++ zerosV j.zero (grownCap w (n + m) c e - (n + m))⟩ := by apply Array.ext'; simp
      rw [h2] at this ⊢
      exact this
    · rw [List.length_append, hxy, zerosV_length, hzl, ← Nat.add_mul]; congr 1; omega
  rcases hit with ⟨h0, h1, h2⟩ | ⟨a, sp, fr, h0, h1, h2, h3, h4, h5⟩
  · subst h0; subst h1; subst h2
    have hn0 : n = 0 := by
      have : n * j.size = 0 := by simpa using hn.symm
      rcases Nat.mul_eq_zero.1 this with h | h
      · exact h
      · omega
    subst hn0
    by_cases hm : m = 0
    · subst hm
      have hy0 : ys = [] := List.eq_nil_of_length_eq_zero (by simpa using hyl)
      subst hy0
      refine ⟨none, 0, w, ?_, by rw [hupd]; exact hg⟩
      have hcells := hs.cells
      rcases hs.kind with ⟨e', hk'⟩ | hk' <;> simp [Builtin.append_, run_underlying hu, run_underlying hk', size_ok hS hj, hs.len, hcells]
    · exact hgrow (by omega) (run_firstCells_none w.drew q.size 0 0 0)
  · subst h0
    by_cases hroom : n + m ≤ c
    · have hfit : ys.length ≤ sp.length := by
        have h6 : (n + m) * j.size ≤ c * j.size := Nat.mul_le_mul_right _ hroom
        rw [← h5, List.length_append, hn, Nat.add_mul] at h6
        omega
      obtain ⟨b, o, s⟩ := a
      simp only at h1 h2 h3
      subst h1; subst h2
      obtain ⟨w', r1, r2, r3, r4, r5, r6, r7⟩ := storeCells_run (P := S.P) ys (xs ++ sp) w xs.length 0 h3 h4 (by simp; omega) ho
      refine ⟨some ⟨b, 0, none⟩, c, w', ?_, ?_⟩
      · have hcells := hs.cells
        rw [hn] at r1
        rcases hs.kind with ⟨e', hk'⟩ | hk' <;> simp [Builtin.append_, run_underlying hu, run_underlying hk', size_ok hS hj, hs.len, hcells, hroom, Addr.add_mk, r1]
      · rw [hupd]
        refine hg.change (it' := .row (some ⟨b, 0, none⟩) c e j.size (xs ++ ys)) r3 r4 r5 (by omega) (fun k _ hk' => r7 k (by simpa [Item.owned, blksOf] using hk')) ?_ (fun b hb => .inl hb) (by simp [Item.owned, blksOf]) rfl
        have hse := setCells_end ys xs sp hfit
        refine .inr ⟨⟨b, 0, none⟩, sp.drop ys.length, fr, rfl, rfl, rfl, ?_, ?_, ?_⟩
        · rw [Nat.add_zero, hse] at r2; exact r2
        · refine h4.mono ?_; simp; omega
        · rw [← h5]; simp; omega
    · refine hgrow (by omega) ?_
      have := run_firstCells_some (P := S.P) w.drew q.size n a n c xs (by rw [q2]; exact hn) (fun i v hv => by
        obtain ⟨b, o, s⟩ := a
        simp only at h1 h2 h3
        subst h1; subst h2
        rw [Addr.add_mk, Nat.zero_add]
        exact row_some_cell (a := ⟨b, 0, none⟩) h3 hv)
      exact this

theorem append_copy {S : Sig} (hS : S.Ok) {t tx e ty : Nat} {j : TI} (hu : S.P.underlying t = some (.slice e)) (hj : S.T e = some j) {ao : Option Addr} {n c m : Nat} {L : SH} {x : Value} {zs ys : List Value}
    (hsl : HasSl L ao zs) (hk : 0 < j.size) (hn : n * j.size ≤ zs.length) (hc : c < n + m) (hb : (n + m) * j.bytes ≤ 140737488355328) (h63 : n + m ≤ 9223372036854775807) {Γ : Ctx} {w : World} (hg : Good Γ L w)
    (hs : Src S.P j.size tx x m ys w) : ∃ ao' cap' w', (Builtin.append_ #[t, tx] ty #[.slice ao n c, x]).run S.P w = .ok (.slice ao' (n + m) cap') w' ∧ Good Γ (.row ao' cap' e j.size (zs.take (n * j.size) ++ ys) :: L) w' := by
  obtain ⟨q, z, q1, q2, q3, q4, q5⟩ := info_of hS hj
  have hzl : j.zero.length = j.size := (hS _ _ hj).zl
  have hyl : ys.length = m * j.size := hs.newsLen
  have hxl : (zs.take (n * j.size)).length = n * j.size := by rw [List.length_take]; omega
  have hold : (Builtin.firstCells q.size n (.slice ao n c)).run S.P w.drew = .ok (zs.take (n * j.size)).toArray w.drew := by
    by_cases hne : zs.take (n * j.size) = []
    · have hn0 : n = 0 := by
        rw [hne] at hxl
        have : n * j.size = 0 := by simpa using hxl.symm
        rcases Nat.mul_eq_zero.1 this with h | h
        · exact h
        · omega
      rw [hne]; subst hn0
      cases ao with
      | none => exact run_firstCells_none w.drew q.size 0 0 c
      | some a => exact run_firstCells_some w.drew q.size 0 a 0 c [] (by simp) (fun i v hv => by simp at hv)
    · have hzne : zs ≠ [] := fun h => hne (by rw [h]; simp)
      obtain ⟨a, rfl, hsp, hoff, hblk⟩ := hsl.addr w hg.holds hzne
      refine run_firstCells_some w.drew q.size n a n c _ (by rw [q2]; exact hxl) (fun i v hv => ?_)
      rw [List.getElem?_take] at hv
      split at hv
      · have := hsl.cell w hg.holds i v hv
        obtain ⟨b, o, s⟩ := a
        simp only at hsp
        subst hsp
        rw [Addr.add_mk, Nat.add_comm]; exact this
      · cases hv
  have hr := run_append_grow_src (P := S.P) w t tx ty e q z hu q1 q4 ao n c _ hold x m ys (by rw [q2]; exact hs) hc (by omega) (growslice_fits hc (by rw [q3]; exact hb))
  refine ⟨_, _, _, hr, ?_⟩
  have hge := grownCap_ge w (n + m) c e
  have hzc := zero_cells q5 (grownCap w (n + m) c e - (n + m))
  refine hg.drew.newRow e j.size _ _ (zerosV j.zero (grownCap w (n + m) c e - (n + m))) (0, 0) ?_ (Free.zero _) ?_
  · rw [hzc]
    have h2 : ((zs.take (n * j.size) ++ ys).toArray ++ (⟨zerosV j.zero (grownCap w (n + m) c e - (n + m))⟩ : Array Value)) = ⟨(zs.take (n * j.size) ++ ys) ++ zerosV j.zero (grownCap w (n + m) c e - (n + m))⟩ := by apply Array.ext'; simp
    rw [h2]; rfl
  · rw [List.length_append, List.length_append, hxl, hyl, zerosV_length, hzl, ← Nat.add_mul, ← Nat.add_mul]; congr 1; omega

/-- Nothing is appended. -/
theorem append_same {S : Sig} (hS : S.Ok) {t tx e ty : Nat} {j : TI} (hu : S.P.underlying t = some (.slice e)) (hj : S.T e = some j) {ao : Option Addr} {n c m : Nat} {x : Value} {ys : List Value} (hm : m = 0) (hc : n ≤ c) {w : World}
    (hs : Src S.P j.size tx x m ys w) : (Builtin.append_ #[t, tx] ty #[.slice ao n c, x]).run S.P w = .ok (.slice ao n c) w := by
  subst hm
  have hy0 : ys = [] := List.eq_nil_of_length_eq_zero (by simpa using hs.newsLen)
  subst hy0
  have hcells := hs.cells
  cases ao with
  | none => rcases hs.kind with ⟨e', hk'⟩ | hk' <;> simp [Builtin.append_, run_underlying hu, run_underlying hk', size_ok hS hj, hs.len, hcells, hc]
  | some a => rcases hs.kind with ⟨e', hk'⟩ | hk' <;> simp [Builtin.append_, run_underlying hu, run_underlying hk', size_ok hS hj, hs.len, hcells, hc, storeCells]

theorem append_nil {S : Sig} (hS : S.Ok) {t tx e ty : Nat} {j : TI} (hu : S.P.underlying t = some (.slice e)) (hj : S.T e = some j) {m : Nat} {L : SH} {x : Value} {ys : List Value}
    (hk : 0 < j.size) (hb : m * j.bytes ≤ 140737488355328) (h63 : m ≤ 9223372036854775807) {Γ : Ctx} {w : World} (hg : Good Γ L w)
    (hs : Src S.P j.size tx x m ys w) : ∃ ao' cap' w', (Builtin.append_ #[t, tx] ty #[.slice none 0 0, x]).run S.P w = .ok (.slice ao' m cap') w' ∧ Good Γ (.row ao' cap' e j.size ys :: L) w' := by
  by_cases hm : m = 0
  · subst hm
    have hy0 : ys = [] := List.eq_nil_of_length_eq_zero (by simpa using hs.newsLen)
    subst hy0
    refine ⟨none, 0, w, ?_, ?_⟩
    · have hcells := hs.cells
      rcases hs.kind with ⟨e', hk'⟩ | hk' <;> simp [Builtin.append_, run_underlying hu, run_underlying hk', size_ok hS hj, hs.len, hcells]
    · refine ⟨hg.keep, fun y hy => ?_, by simpa [Item.owned, blksOf] using hg.nodup, fun b hb => by simpa [Item.owned, Item.shared, blksOf] using hg.apart b (by simpa [Item.shared] using hb), fun b hb => hg.own b (by simpa [Item.owned, blksOf] using hb)⟩
      cases hy with
      | head => exact .inl ⟨rfl, rfl, rfl⟩
      | tail _ hy => exact hg.holds y hy
  · have hsl : HasSl (.view none e [] :: L) none [] := inferInstance
    have hg' : Good Γ (.view none e [] :: L) w := by
      refine ⟨hg.keep, fun y hy => ?_, by simpa [Item.owned] using hg.nodup, fun b hb => by simpa [Item.owned, Item.shared] using hg.apart b (by simpa [Item.shared] using hb), fun b hb => hg.own b (by simpa [Item.owned] using hb)⟩
      cases hy with
      | head => exact .inl rfl
      | tail _ hy => exact hg.holds y hy
    obtain ⟨ao', cap', w', h1, h2⟩ := append_copy (ty := ty) (n := 0) (c := 0) hS hu hj hsl hk (by simp) (by omega) (by simpa using hb) (by omega) hg' hs
    refine ⟨ao', cap', w', by simpa using h1, ?_⟩
    have := h2.sub (L' := .row ao' cap' e j.size ys :: L) (by simp)
    simpa using this

theorem copy_run {S : Sig} (hS : S.Ok) {t tx e ty : Nat} {j : TI} (hu : S.P.underlying t = some (.slice e)) (hj : S.T e = some j) {ad : Option Addr} {n c m : Nat} {L : SH} {x : Value} {ys : List Value} {k : Value → SH → Prop}
    (hs : SrcOk S tx j.size x L m ys) (h : EvCopy ad n j.size L m ys k) {Γ : Ctx} {w : World} (hg : Good Γ L w) :
    ∃ v L' w', (Builtin.copy_ #[t, tx] ty #[.slice ad n c, x]).run S.P w = .ok v w' ∧ k v L' ∧ Good Γ L' w' := by
  have hcells := hs.cells w hg.holds (Nat.min m n) (Nat.min_le_left _ _)
  cases h with
  | own b off ha q hq ho hl zs hz h =>
    rename_i xs upd hown
    rw [listK_eq] at h
    have hqe : Nat.min m n = q := hq.symm
    rw [hqe] at hcells
    subst ha
    by_cases hy0 : ys.take (q * j.size) = []
    · have hz' : zs = xs := by rw [← hz, hy0]; rfl
      refine ⟨_, _, w, ?_, h, ?_⟩
      · rw [hy0] at hcells
        simp [Builtin.copy_, run_underlying hu, hs.len, size_ok hS hj, hqe, hcells, storeCells, goInt]
      · obtain ⟨A, B, mk, h1, h2, _⟩ := hown.own
        rw [hz', h2, ← h1]; exact hg
    · have hlen : (ys.take (q * j.size)).length = q * j.size := by
        rw [List.length_take, hs.newsLen]
        have : q * j.size ≤ m * j.size := Nat.mul_le_mul_right _ (by omega)
        omega
      obtain ⟨w', r1, r2⟩ := own_store (P := S.P) hown (vs := ys.take (q * j.size)) (off := off) (allOne_take ho _) (by rw [hlen]; exact hl) hy0 hg
      refine ⟨_, _, w', ?_, h, by rw [← hz]; exact r2⟩
      simp only [Builtin.copy_]
      simp [run_underlying hu, hs.len, size_ok hS hj, hqe, hcells, goInt]
      rw [show (ys.take (q * j.size)) = (ys.take (q * j.size)) from rfl, r1]
      rfl
  | zero hq h =>
    have hqe : Nat.min m n = 0 := hq
    rw [hqe] at hcells
    refine ⟨_, _, w, ?_, h, hg⟩
    simp only [Nat.zero_mul, List.take_zero] at hcells
    cases ad with
    | none => simp [Builtin.copy_, run_underlying hu, hs.len, size_ok hS hj, hqe, hcells, goInt]
    | some a => simp [Builtin.copy_, run_underlying hu, hs.len, size_ok hS hj, hqe, hcells, goInt, storeCells]

theorem clear_run {S : Sig} (hS : S.Ok) {t e ty : Nat} {j : TI} (hu : S.P.underlying t = some (.slice e)) (hj : S.T e = some j) {ao : Option Addr} {n c : Nat} {L : SH} {k : SH → Prop}
    (h : EvClear j.size j.zero ao n L k) {Γ : Ctx} {w : World} (hg : Good Γ L w) :
    ∃ L' w', (Builtin.clear_ #[t] ty #[.slice ao n c]).run S.P w = .ok (.tuple #[]) w' ∧ k L' ∧ Good Γ L' w' := by
  have none_case : (ao = none ∨ n = 0) → (Builtin.clear_ #[t] ty #[.slice ao n c]).run S.P w = .ok (.tuple #[]) w := by
    intro hz
    cases ao with
    | none => simp [Builtin.clear_, run_underlying hu]
    | some a =>
      have : n = 0 := hz.resolve_left (by simp)
      subst this
      simp [Builtin.clear_, run_underlying hu]
  cases h with
  | zero hn h => exact ⟨_, w, none_case hn, h, hg⟩
  | own b off ha ho hl zs hz h =>
    rename_i xs upd hown
    rw [listK_eq] at h
    by_cases hn : n = 0
    · refine ⟨_, w, none_case (.inr hn), h, ?_⟩
      obtain ⟨A, B, mk, h1, h2, _⟩ := hown.own
      subst hn
      have hz' : xs = zs := hz
      rw [← hz', h2, ← h1]; exact hg
    · subst ha
      obtain ⟨z, hz1, hz2, _⟩ := zero_ok hS hj w
      have hzl := (hS _ _ hj).zl
      by_cases hz0 : j.size = 0
      · refine ⟨_, w, ?_, h, ?_⟩
        · have hzz : zerosV j.zero n = [] := List.eq_nil_of_length_eq_zero (by rw [zerosV_length, hzl, hz0, Nat.mul_zero])
          have hzc := zero_cells hz2 n
          obtain ⟨m, rfl⟩ : ∃ m, n = m + 1 := ⟨n - 1, by omega⟩
          simp [Builtin.clear_, run_underlying hu, hz1, hzc, hzz, storeCells]
        · have hzz : zerosV j.zero n = [] := List.eq_nil_of_length_eq_zero (by rw [zerosV_length, hzl, hz0, Nat.mul_zero])
          obtain ⟨A, B, mk, h1, h2, _⟩ := hown.own
          have hz' : xs = zs := by rw [← hz, hzz]; rfl
          rw [← hz', h2, ← h1]; exact hg
      · have hlen : (zerosV j.zero n).length = n * j.size := by rw [zerosV_length, hzl]
        have hne : zerosV j.zero n ≠ [] := fun h0 => by
          have := congrArg List.length h0
          rw [hlen] at this
          rcases Nat.mul_eq_zero.1 this with h | h <;> omega
        obtain ⟨w', r1, r2⟩ := own_store (P := S.P) hown (vs := zerosV j.zero n) (off := off) (allOne_zerosV ho n) (by rw [hlen]; exact hl) hne hg
        refine ⟨_, w', ?_, h, by rw [← hz]; exact r2⟩
        have hzc := zero_cells hz2 n
        obtain ⟨m, rfl⟩ : ∃ m, n = m + 1 := ⟨n - 1, by omega⟩
        simp [Builtin.clear_, run_underlying hu, hz1, hzc, r1]

theorem run_callFunc {P : Program} {fn : Nat} (hb : HasBody P fn) (args : Array Value) (w : World) : (callFunc fn args).run P w = .ok (.enter fn args) w := by
  obtain ⟨f, h1, h2, h3⟩ := hb
  unfold callFunc
  simp only [Sem.run_bind, run_program, Result.andThen_ok, h1]
  rw [h3, h2]
  simp

/-- An operation. -/
theorem effK_ok {S : Sig} (hS : S.Ok) {o : Oper} {f : Fr} {L : SH} {k : Value → SH → Prop} {a : Act} (hf : FrOk f a) {Γ : Ctx} (h : effK S o f L k) : Does S Γ a o L k := by
  unfold effK at h
  split at h
  · rename_i t ho
    split at h
    · rename_i i hi
      obtain ⟨h⟩ := h
      refine Does.value fun w hg => ?_
      obtain ⟨z, hz1, hz2, _⟩ := zero_ok hS hi w
      refine ⟨_, _, _, ?_, h w.heap.size, hg.newBlk t i.zero⟩
      simp [execOp, ho, Instr.alloc, hz1, newVar, newRow, hz2]
    · exact h.elim
  · rename_i t x ho
    have h := rd_ok hf h
    obtain ⟨h⟩ := h
    refine Does.value fun w hg => ?_
    have h := h w.heap.size
    split at h
    · rename_i vs hv
      refine ⟨_, _, _, ?_, h, hg.newBlk t vs⟩
      simp [execOp, ho, Instr.box, newVar, newRow, hv, Value.cells]
    · rename_i hv
      refine ⟨_, _, _, ?_, h, hg.newBlk t [a.eval x]⟩
      have hc : (a.eval x).cells = ⟨[a.eval x]⟩ := by
        cases hx : a.eval x with
        | agg c => obtain ⟨c⟩ := c; exact (hv c hx).elim
        | _ => rfl
      simp [execOp, ho, Instr.box, newVar, newRow, hc]
  · rename_i t n ps ho
    have h := rdP_ok hf h
    split at h
    · rename_i e _ _ _ ht
      have hu := (hS _ _ ht).ty
      split at h
      · rename_i j hj
        simp only [tjK_eq] at h
        obtain ⟨⟨h1, h2⟩, h⟩ := h
        rw [listK_eq] at h
        obtain ⟨out, ⟨h⟩, hfill⟩ := fillK_ok h
        have hzl := (hS _ _ hj).zl
        refine Does.value fun w hg => ?_
        obtain ⟨z, hz1, hz2, _⟩ := zero_ok hS hj w
        have he : (ps.map fun (i, x) => (i, a.eval x)).toList = ps.toList.map fun x => (x.1, a.eval x.2) := by simp
        have hlen : out.length = n * j.size := by
          have := Instr.fill_size hfill
          rw [show (⟨out⟩ : Array Value).size = out.length from rfl, show (⟨zerosV j.zero n⟩ : Array Value).size = (zerosV j.zero n).length from rfl, zerosV_length, hzl] at this
          exact this
        refine ⟨_, _, { w with heap := w.heap.push (.cells ⟨out⟩ e) }, ?_, h w.heap.size, ?_⟩
        · have hrc := range_cells j.zero n
          rw [hzl] at hrc
          have hn1 : ¬ 16777216 < n * j.size := by omega
          by_cases hn : n * j.size = 0
          · have hn0 : n = 0 := by rcases Nat.mul_eq_zero.1 hn with h | h <;> omega
            subst hn0
            have h0 : (Array.range (0 * j.size)).map ((#[] : Array Value)[· % (#[] : Array Value).size]!) = ⟨zerosV j.zero 0⟩ := by apply Array.ext'; simp [zerosV]
            have h00 : (Array.range (0 * j.size)) = #[] := by simp
            rw [h00] at h0
            simp [execOp, ho, Instr.buildSlice, run_underlying hu, size_ok hS hj, newRow]
            have hfill0 : Instr.fill (fun i => some (i * j.size, j.size)) #[] (ps.toList.map fun x => (x.1, a.eval x.2)) = some ⟨out⟩ := hfill
            have hr0 : (Array.range 0).map (fun _ => (default : Value)) = #[] := by apply Array.ext'; simp
            rw [hr0, hfill0]
            simp
          · simp only [execOp, ho, Instr.buildSlice, Sem.run_bind, run_underlying hu, Result.andThen_ok, size_ok hS hj]
            rw [if_neg (by simpa using hn1), if_neg hn]
            simp only [Sem.run_bind, hz1, Sem.run_pure, Result.andThen_ok, hz2, List.size_toArray, he, newRow, hzl]
            rw [hrc, hfill]
            simp only [Sem.run_bind, Sem.run_pure, Result.andThen_ok, run_newObj]
        · exact hg.newRow e j.size n out [] (0, 0) (by simp) (Free.zero _) (by simpa using hlen)
      · exact h.elim
    · exact h.elim
  · rename_i t ad x ho
    have h := rd_ok hf (rd_ok hf h)
    split at h
    · rename_i b off hx
      split at h
      · rename_i i hi
        simp only [tiK_eq] at h
        have h : EvStore L b off (toCells (a.eval x)) i.size fun L' => k undef L' := by
          split at h
          · rename_i vs hv; rw [hv]; exact h
          · rename_i hv
            have hc : toCells (a.eval x) = [a.eval x] := by
              cases hx : a.eval x with
              | agg c => obtain ⟨c⟩ := c; exact (hv c hx).elim
              | _ => rfl
            rw [hc]; exact h
        have hlp : (toCells (a.eval x)).length = i.size ∧ 0 < i.size := by cases h <;> assumption
        obtain ⟨hl, hpos⟩ := hlp
        have key : ∃ L', k undef L' ∧ ∀ w, Good Γ L w → ∃ w', (storeCells ⟨b, off, none⟩ (toCells (a.eval x))).run S.P w = .ok () w' ∧ Good Γ L' w' := by
          have hne : toCells (a.eval x) ≠ [] := fun h => by rw [h] at hl; simp at hl; omega
          cases h with
          | lit hs ho h =>
            rename_i xs upd hown
            obtain ⟨h1, h2⟩ := storeK_ok h
            rw [listK_eq] at h2
            exact ⟨_, h2, fun w hg => own_store hown ho h1 hne hg⟩
          | mk hs ho h1 ys hy h =>
            rename_i xs upd hown
            rw [listK_eq] at h
            subst hy
            exact ⟨_, h, fun w hg => own_store hown ho h1 hne hg⟩
        obtain ⟨L', hk, hrun⟩ := key
        intro w hg K Q hK
        obtain ⟨w', r1, r2⟩ := hrun w hg
        unfold Oper.wp
        have : (execOp a.eval o).run S.P w = .ok .skip w' := by
          simp [execOp, ho, hx, Instr.storeAt, Instr.sureAddr, storeVar_run hS hi hl, r1]
        rw [this]
        exact hK undef L' w' hk r2
      · exact h.elim
    · exact h.elim
  · rename_i t l c ho
    have h := rd_ok hf (rd_ok hf h)
    split at h
    · rename_i e _ _ _ ht
      have hu := (hS _ _ ht).ty
      split at h
      · rename_i j hj
        split at h
        · rename_i kl li kc ci hl hc
          simp only [tjK_eq] at h
          cases h with
          | mk h1 hb hc' hz n m hn hm h =>
            obtain ⟨q, z, q1, q2, q3, q4, q5⟩ := info_of hS hj
            have hzl := (hS _ _ hj).zl
            refine Does.value fun w hg => ?_
            have hr := run_make (P := S.P) w t e q z hu q1 q4 kl kc li ci h1.1 h1.2 (by rw [q3]; exact hb) hc'
            refine ⟨_, _, w.alloc (.cells (madeCells z.cells (ci.toNat * q.size)) e), by simp [execOp, ho, hl, hc, hr, ← hn, ← hm], h w.heap.size, ?_⟩
            have hmc := made_cells q5 ci.toNat
            rw [hzl, ← q2] at hmc
            have hsplit : zerosV j.zero m = zerosV j.zero n ++ zerosV j.zero (m - n) := by rw [← zerosV_add]; congr 1; omega
            refine hg.newRow e j.size m (zerosV j.zero n) (zerosV j.zero (m - n)) (0, 0) ?_ (Free.zero _) ?_
            · rw [hmc, ← hm, hsplit]; rfl
            · rw [← hsplit, zerosV_length, hzl]
        · exact h.elim
      · exact h.elim
    · exact h.elim
  · rename_i src dst x ho
    have h := rd_ok hf h
    split at h
    · rename_i _ _ _ e _ _ _ hs ht
      have hus := (hS _ _ hs).ty
      have hut := (hS _ _ ht).ty
      split at h
      · rename_i _ _ _ he
        have hue := (hS _ _ he).ty
        split at h
        · rename_i l hx
          refine Does.value fun w hg => ?_
          have hr := run_bytes_of_string (P := S.P) w src dst e ⟨⟨l⟩⟩ hus hut hue
          have hsz : (⟨⟨l⟩⟩ : ByteArray).size = l.length := rfl
          have hge := grownCap_ge w l.length 0 e
          rw [hsz] at hr
          refine ⟨_, _, w.drew.alloc (.cells (bytesRow ⟨⟨l⟩⟩ (grownCap w l.length 0 e)) e ((bytesRow ⟨⟨l⟩⟩ (grownCap w l.length 0 e)).size, (bytesRow ⟨⟨l⟩⟩ (grownCap w l.length 0 e)).size + 1)), by simp [execOp, ho, hx, hr], h w.heap.size (grownCap w l.length 0 e) hge, ?_⟩
          have hcells : bytesRow ⟨⟨l⟩⟩ (grownCap w l.length 0 e) = ⟨bytesV l ++ List.replicate (grownCap w l.length 0 e - l.length) (.int .u8 0)⟩ := by
            apply Array.ext'; simp [bytesRow, bytesV, hsz]
          have hlen : (bytesV l ++ List.replicate (grownCap w l.length 0 e - l.length) (Value.int .u8 0)).length = grownCap w l.length 0 e := by simp; omega
          refine hg.drew.newRow e 1 _ _ _ (grownCap w l.length 0 e, grownCap w l.length 0 e + 1) ?_ ?_ (by rw [hlen, Nat.mul_one])
          · rw [hcells]
            have : (⟨bytesV l ++ List.replicate (grownCap w l.length 0 e - l.length) (Value.int .u8 0)⟩ : Array Value).size = grownCap w l.length 0 e := hlen
            rw [this]; rfl
          · intro i hi; rw [hlen] at hi; simp only; omega
        · exact h.elim
      · exact h.elim
    · obtain ⟨v, h1, h2⟩ := convK_ok hS h
      exact Does.of_gives ⟨v, h1, fun w hw => by simp [execOp, ho, h2 w (.inr hw)]⟩
  · rename_i c ho
    split at h
    · rename_i g hc
      have h := rd_ok hf h
      split at h
      · rename_i fn p q hg0
        have h := rdL_ok hf h
        rw [appK_eq, appK_eq] at h
        cases h with
        | mk O Rest post spec sp h =>
          obtain ⟨Oo, hso⟩ := sp.ok
          intro w hg K Q hK
          have hready := hso.ready hg
          have hcall := spec.calls w hready.1 hready.2.1 hready.2.2
          unfold Oper.wp
          have hrun : (execOp a.eval o).run S.P w = .ok (.enter fn (p ++ c.args.toList.map a.eval ++ q).toArray) w := by
            simp only [execOp, ho, resolve, hc, hg0, Deferred.ofValue, Sem.run_bind, Sem.run_pure, Result.andThen_ok, invoke]
            rw [run_callFunc spec.body]
            congr 2
            apply Array.ext'; simp
          rw [hrun]
          refine hcall.mono ?_
          rintro _ w' ⟨v, O', rfl, hpost, hleft⟩
          have h := h v O' hpost
          rw [appK_eq, force_eq] at h
          exact hK v _ w' h (hg.called hso hleft)
        | ext v hx h =>
          rw [force_eq] at h
          refine Does.value fun w hg => ⟨v, L, w, ?_, h, hg⟩
          simp only [execOp, ho, resolve, hc, hg0, Deferred.ofValue, Sem.run_bind, Sem.run_pure, Result.andThen_ok, invoke]
          rw [← hx w]
          congr 2
          apply Array.ext'; simp
      · exact h.elim
    · rename_i hc
      split at h
      · rename_i t tx hts
        have h := rdL_ok hf h
        split at h
        · rename_i ao n cp x hargs
          split at h
          · rename_i e _ _ _ ht
            have hu := (hS _ _ ht).ty
            split at h
            · rename_i j hj
              simp only [tjK_eq, tiK_eq] at h
              obtain ⟨m, ys, hs, h⟩ := h
              have hexec : ∀ w, (execOp a.eval o).run S.P w = ((Builtin.append_ #[t, tx] o.type #[.slice ao n cp, x]).run S.P w).andThen fun v w' => .ok (.value v) w' := by
                intro w
                have e1 : c.args.map a.eval = #[.slice ao n cp, x] := by apply Array.ext'; simpa using hargs
                have e2 : c.argTypes = #[t, tx] := by apply Array.ext'; simpa using hts
                simp [execOp, ho, resolve, hc, invoke, builtin, e1, e2]
              refine Does.value fun w hg => ?_
              rw [hexec]
              cases h with
              | own hi hn hone hb q hq h =>
                rename_i cap e' kk xs upd hrow
                obtain ⟨rfl, rfl, rfl, hk⟩ := hi
                obtain ⟨ao', cap', w', r1, r2⟩ := append_own (ty := o.type) hS hu hj hrow hk hn hone hb.1 hb.2 hg (hs.src w hg.holds)
                subst hq
                have hsrc := hs.newsLen
                obtain ⟨A, B, _, hA⟩ := hrow.ok
                have h := h ao' cap' (row_cap (r2.holds (.row ao' cap' e' j.size (xs ++ ys)) (by rw [hA]; simp)) (by rw [List.length_append, hn, hsrc, Nat.add_mul]) hk)
                rw [listK_eq] at h
                exact ⟨_, _, w', by rw [r1]; rfl, h, r2⟩
              | nil ha hz hb h =>
                obtain ⟨rfl, rfl, rfl⟩ := ha
                obtain ⟨ao', cap', w', r1, r2⟩ := append_nil (ty := o.type) hS hu hj hz hb.1 hb.2 hg (hs.src w hg.holds)
                exact ⟨_, _, w', by rw [r1]; rfl, h ao' cap' (row_cap (r2.holds _ (.head _)) hs.newsLen hz), r2⟩
              | same hm h =>
                exact ⟨_, _, w, by rw [append_same (ty := o.type) hS hu hj hm.1 hm.2 (hs.src w hg.holds)]; rfl, h, hg⟩
              | copy hc' hn hb q hq xs hx h =>
                rename_i zs hsl
                obtain ⟨ao', cap', w', r1, r2⟩ := append_copy (ty := o.type) hS hu hj hsl hn.2 hn.1 hc' hb.1 hb.2 hg (hs.src w hg.holds)
                subst hq; subst hx
                exact ⟨_, _, w', by rw [r1]; rfl, h ao' cap' (row_cap (r2.holds _ (.head _)) (by rw [List.length_append, hs.newsLen, Nat.add_mul, List.length_take]; omega) hn.2), r2⟩
            · exact h.elim
          · exact h.elim
        · exact h.elim
      · exact h.elim
    · rename_i hc
      split at h
      · rename_i t tx hts
        have h := rdL_ok hf h
        split at h
        · rename_i ao n cp x hargs
          split at h
          · rename_i e _ _ _ ht
            have hu := (hS _ _ ht).ty
            split at h
            · rename_i j hj
              simp only [tjK_eq, tiK_eq] at h
              obtain ⟨m, ys, hs, h⟩ := h
              refine Does.value fun w hg => ?_
              obtain ⟨v, L', w', r1, r2, r3⟩ := copy_run (ty := o.type) (c := cp) hS hu hj hs h hg
              refine ⟨v, L', w', ?_, r2, r3⟩
              have e1 : c.args.map a.eval = #[.slice ao n cp, x] := by apply Array.ext'; simpa using hargs
              have e2 : c.argTypes = #[t, tx] := by apply Array.ext'; simpa using hts
              simp [execOp, ho, resolve, hc, invoke, builtin, e1, e2, r1]
            · exact h.elim
          · exact h.elim
        · exact h.elim
      · exact h.elim
    · rename_i hc
      split at h
      · rename_i t hts
        have h := rdL_ok hf h
        split at h
        · rename_i ao n cp hargs
          split at h
          · rename_i e _ _ _ ht
            have hu := (hS _ _ ht).ty
            split at h
            · rename_i j hj
              simp only [tjK_eq] at h
              refine Does.value fun w hg => ?_
              have e1 : c.args.map a.eval = #[.slice ao n cp] := by apply Array.ext'; simpa using hargs
              have e2 : c.argTypes = #[t] := by apply Array.ext'; simpa using hts
              have hexec : (execOp a.eval o).run S.P w = ((Builtin.clear_ #[t] o.type #[.slice ao n cp]).run S.P w).andThen fun v w' => .ok (.value v) w' := by
                simp [execOp, ho, resolve, hc, invoke, builtin, e1, e2]
              obtain ⟨L', w', r1, r2, r3⟩ := clear_run (ty := o.type) (c := cp) hS hu hj h hg
              exact ⟨_, L', w', by rw [hexec, r1]; rfl, r2, r3⟩
            · exact h.elim
          · exact h.elim
        · exact h.elim
      · exact h.elim
    · rename_i b _ _ _ hc
      have h := rdL_ok hf h
      obtain ⟨v, h1, h2⟩ := builtinK_ok (ty := o.type) (cs := c.args.map fun | .const _ => true | _ => false) hS h
      refine Does.of_gives ⟨v, h1, fun w _ => ?_⟩
      simp only [execOp, ho, resolve, hc, invoke, Sem.run_bind, Sem.run_pure, Result.andThen_ok]
      have e1 : c.args.map a.eval = (c.args.toList.map a.eval).toArray := by apply Array.ext'; simp
      have e2 : c.argTypes = c.argTypes.toList.toArray := by simp
      rw [e1, e2]
      exact h2 w
    · exact h.elim
  · intro w hg K Q hK
    obtain ⟨v, h1, h2⟩ := pureK_ok hS hf hg.holds h
    exact Does.of_gives ⟨v, h1, fun w hw => h2 w (.inr hw)⟩ w hg K Q hK

end Go.Proofs.Ytloknkdomgeolaa.She
