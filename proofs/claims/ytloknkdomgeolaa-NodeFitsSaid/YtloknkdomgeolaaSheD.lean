/- Part of a small program logic: addresses, indices, cuts, loads; and all operations that leave the heap alone. -/
import Derived.Test.YtloknkdomgeolaaSheC
import Derived.Lib.IndexBytes
namespace Go.Proofs.Ytloknkdomgeolaa.She
set_option linter.all false
open Go

theorem fieldAddrK_ok {S : Sig} (hS : S.Ok) {t : Nat} {a : Addr} {i : Nat} {k : Value → Prop} (h : fieldAddrK S t a i k) : ∃ v, k v ∧ ∀ w, (Instr.fieldAt t (.pointer (some a)) i).run S.P w = .ok v w := by
  unfold fieldAddrK at h
  split at h
  · rename_i b off
    split at h
    · rename_i fs _ _ _ ht
      have hu := (hS _ _ ht).ty
      obtain ⟨F, hF, hfs⟩ := hu
      split at h
      · rename_i o u hn
        split at h
        · rename_i j hj
          cases hb : Nat.beq j.size 0 with
          | true => rw [hb] at h; exact h.elim
          | false =>
            rw [hb] at h
            simp only [cond_false, addO_eq] at h
            refine ⟨_, h, fun w => ?_⟩
            rw [nthL_eq, ← hfs] at hn
            simp only [List.getElem?_map, Option.map_eq_some_iff] at hn
            obtain ⟨f, hf, hfe⟩ := hn
            simp only [Prod.mk.injEq] at hfe
            obtain ⟨rfl, rfl⟩ := hfe
            have hf' : F[i]? = some f := by simpa using hf
            have hsz : j.size ≠ 0 := fun e => by rw [e] at hb; simp at hb
            simp [Instr.fieldAt, run_underlying hF, hf', Instr.sureAddr, fieldPlace, size_ok hS hj, hsz, Addr.add_mk]
        · exact h.elim
      · exact h.elim
    · exact h.elim
  · exact h.elim

theorem mulK_ok {q sz : Nat} {k : Nat → Prop} (h : mulK q sz k) : k (q * sz) := by
  unfold mulK at h
  split at h
  · simpa using h
  · exact h.ok
theorem run_indexAt_ok {S : Sig} (hS : S.Ok) {t e : Nat} {j : TI} (hu : S.P.underlying t = some (.slice e)) (hj : S.T e = some j) {a : Addr} (ha : a.spot = none) {n c : Nat} {kd : IntKind} {i : Nat} (hi : i < n) (w : World) :
    (Instr.indexAt t (.slice (some a) n c) (.int kd (i : Int))).run S.P w = .ok (.pointer (some ⟨a.block, i * j.size + a.off, none⟩)) w := by
  have h2 : (0 : Int) ≤ (i : Int) ∧ (i : Int) < (n : Int) := by omega
  obtain ⟨b, o, s⟩ := a
  simp only at ha
  subst ha
  simp [Instr.indexAt, run_underlying hu, asIntOf, h2, size_ok hS hj, Addr.add_mk, Nat.add_comm, show i < n from hi]

theorem idxAddrK_ok {S : Sig} (hS : S.Ok) {t : Nat} {x : Value} {i : Int} {L : SH} {k : Value → Prop} {w0 : World} (h0 : Holds w0 L) (h : idxAddrK S t x i L k) : ∃ v, k v ∧ ∀ kd w, (Instr.indexAt t x (.int kd i)).run S.P w = .ok v w := by
  unfold idxAddrK at h
  split at h
  · rename_i e _ _ _ ht
    have hu := (hS _ _ ht).ty
    split at h
    · rename_i ao n c
      split at h
      · rename_i j hj
        cases h with
        | sl m hi hn hx h =>
          rename_i xs hsl
          refine ⟨_, h, fun kd w => ?_⟩
          have hne : xs ≠ [] := fun he => by rw [he] at hx; simp at hx
          obtain ⟨a, ha, hs, hoff, hblk⟩ := hsl.addr w0 h0 hne
          subst hi
          rw [ha, run_indexAt_ok hS hu hj hs hn w, ← ha, hoff, hblk]
        | row m hi hn hx h =>
          rename_i xs hrw
          refine ⟨_, h, fun kd w => ?_⟩
          have hne : xs ≠ [] := fun he => by rw [he] at hx; simp at hx
          obtain ⟨a, ha, hs, hoff⟩ := hrw.addr w0 h0 hne
          subst hi; subst ha
          rw [run_indexAt_ok hS hu hj hs hn w, hoff, Nat.add_zero]
        | sub ap d ha m hi hn hx h =>
          rename_i xs hsl
          refine ⟨_, h, fun kd w => ?_⟩
          have hne : xs ≠ [] := fun he => by rw [he] at hx; simp at hx
          obtain ⟨a, ha2, hs, hoff, hblk⟩ := hsl.addr w0 h0 hne
          obtain ⟨b, o, s⟩ := a
          simp only at hs hoff hblk
          subst hi; subst hs
          have hao : ao = some ⟨b, o + d, none⟩ := by rw [ha, ha2]; simp [subA, Addr.add_mk]
          subst hao
          rw [run_indexAt_ok hS hu hj rfl hn w, ← hoff, ← hblk]
          simp only
          rw [show m * j.size + (o + d) = d + m * j.size + o by omega]
        | rsub ap d ha m hi hn hx h =>
          rename_i xs hrw
          refine ⟨_, h, fun kd w => ?_⟩
          have hne : xs ≠ [] := fun he => by rw [he] at hx; simp at hx
          obtain ⟨a, ha2, hs, hoff⟩ := hrw.addr w0 h0 hne
          obtain ⟨b, o, s⟩ := a
          simp only at hs hoff
          subst hi; subst hs; subst hoff
          have hao : ao = some ⟨b, 0 + d, none⟩ := by rw [ha, ha2]; simp [subA, Addr.add_mk]
          subst hao; subst ha2
          rw [run_indexAt_ok hS hu hj rfl hn w]
          simp only
          rw [show m * j.size + (0 + d) = d + m * j.size by omega]
        | lit b off ha m hi hn h =>
          refine ⟨_, h, fun kd w => ?_⟩
          subst hi; subst ha
          rw [run_indexAt_ok hS hu hj rfl hn w]
      · exact h.elim
    · exact h.elim
  · rename_i n e _ _ _ ht
    have hu := (hS _ _ ht).ty
    split at h
    · rename_i b off
      split at h
      · rename_i j hj
        simp only [tiK_eq] at h
        obtain ⟨hb, h⟩ := h
        have h := mulK_ok h.ok
        rw [addO_eq] at h
        refine ⟨_, h, fun kd w => ?_⟩
        obtain ⟨m, rfl⟩ := Int.eq_ofNat_of_zero_le hb.1
        have hm : m < n := by omega
        simp [Instr.indexAt, run_underlying hu, asIntOf, Instr.sureAddr, size_ok hS hj, Addr.add_mk, hm]
      · exact h.elim
    · exact h.elim
  · exact h.elim

theorem evPart_ok {S : Sig} (hS : S.Ok) {t : Nat} {cs : List Value} {off : Nat} {k : Value → Prop} (h : EvPart S t cs off k) : ∃ v, k v ∧ ∀ w, (part t (⟨cs⟩ : Array Value) off).run S.P w = .ok v w := by
  cases h with
  | lit h => exact partK_ok hS h
  | sym v i hi hv h =>
    rw [force_eq] at h
    exact ⟨v, h, fun w => by simp [part, isAgg_ok hS hi.1, hi.2, hv]⟩

theorem indexK_ok {S : Sig} (hS : S.Ok) {t : Nat} {x : Value} {i : Int} {k : Value → Prop} (h : indexK S t x i k) : ∃ v, k v ∧ ∀ kd w, (Instr.index t x (.int kd i)).run S.P w = .ok v w := by
  unfold indexK at h
  split at h
  · rename_i _ _ _ ht
    have hu := (hS _ _ ht).ty
    split at h
    · rename_i l
      obtain ⟨hb, h⟩ := h
      have h := h.ok
      refine ⟨_, h, fun kd w => ?_⟩
      obtain ⟨m, rfl⟩ := Int.eq_ofNat_of_zero_le hb.1
      have hm : m < l.length := by omega
      have hsz : m < (⟨⟨l⟩⟩ : ByteArray).size := hm
      have hget : (⟨⟨l⟩⟩ : ByteArray)[m]? = some (l.getD m 0) := by
        rw [ByteArray.getElem?_lt' _ _ hsz]
        have e1 : (⟨⟨l⟩⟩ : ByteArray)[m] = l[m] := rfl
        rw [e1]; simp [hm]
      simp [Instr.index, run_underlying hu, asIntOf, hget, bt]
    · exact h.elim
  · rename_i n e _ _ _ ht
    have hu := (hS _ _ ht).ty
    split at h
    · rename_i cs
      split at h
      · rename_i j hj
        simp only [tiK_eq] at h
        obtain ⟨hb, h⟩ := h
        have h := mulK_ok h.ok
        obtain ⟨v, h1, h2⟩ := evPart_ok hS h
        refine ⟨v, h1, fun kd w => ?_⟩
        have hb' : 0 ≤ i ∧ i < (n : Int) := hb
        simp [Instr.index, run_underlying hu, asIntOf, hb', size_ok hS hj, h2]
      · exact h.elim
    · exact h.elim
  · exact h.elim

theorem bndK_ok {v : Option Value} {dflt top : Nat} {k : Nat → Prop} (h : bndK v dflt top k) : ∃ n, k n ∧ (v = none → n = dflt) ∧ (v ≠ none → n ≤ top) ∧
    ∀ x, v = some x → ∀ (code : BoundsCode) (P : Program) (w : World), (Instr.sliceBound x top code).run P w = .ok n w := by
  cases v with
  | none => exact ⟨_, h, fun _ => rfl, fun hn => (hn rfl).elim, fun x hx => by cases hx⟩
  | some y =>
    cases y <;> simp only [bndK] at h <;> try exact h.elim
    rename_i kd i
    obtain ⟨hb, h⟩ := h
    have h := h.ok
    refine ⟨_, h, (fun hn => by cases hn), (fun _ => by omega), fun x hx code P w => ?_⟩
    cases hx
    simp [Instr.sliceBound, asIntOf, hb]

theorem sliceBounds_ok {isSlice : Bool} {n c m h l : Nat} {lo hi mx : Option Value} {P : Program} (w : World)
    (hm : (mx = none → m = c) ∧ ∀ x, mx = some x → ∀ (code : BoundsCode) (P : Program) (w : World), (Instr.sliceBound x c code).run P w = .ok m w)
    (hh : (hi = none → h = n) ∧ ∀ x, hi = some x → ∀ (code : BoundsCode) (P : Program) (w : World), (Instr.sliceBound x m code).run P w = .ok h w)
    (hl : (lo = none → l = 0) ∧ ∀ x, lo = some x → ∀ (code : BoundsCode) (P : Program) (w : World), (Instr.sliceBound x h code).run P w = .ok l w)
    (hno : hi = none → mx = none) : (Instr.sliceBounds isSlice n c lo hi mx).run P w = .ok (l, h, m) w := by
  cases mx with
  | none =>
    have := hm.1 rfl; subst this
    cases hi with
    | none =>
      have := hh.1 rfl; subst this
      cases lo with
      | none => have := hl.1 rfl; subst this; simp [Instr.sliceBounds]
      | some x => simp [Instr.sliceBounds, hl.2 x rfl]
    | some y =>
      cases lo with
      | none => have := hl.1 rfl; subst this; simp [Instr.sliceBounds, hh.2 y rfl]
      | some x => simp [Instr.sliceBounds, hl.2 x rfl, hh.2 y rfl]
  | some z =>
    cases hi with
    | none => cases hno rfl
    | some y =>
      cases lo with
      | none => have := hl.1 rfl; subst this; simp [Instr.sliceBounds, hh.2 y rfl, hm.2 z rfl]
      | some x => simp [Instr.sliceBounds, hl.2 x rfl, hh.2 y rfl, hm.2 z rfl]

theorem extract_mk (s : List UInt8) (l h : Nat) : (⟨⟨s⟩⟩ : ByteArray).extract l h = ⟨⟨(s.take h).drop l⟩⟩ := by
  have := Lib.extract_data (⟨⟨s⟩⟩ : ByteArray) l h
  apply ByteArray.ext
  apply Array.ext'
  rw [this]
  simp [List.drop_take]

theorem sliceK_ok {S : Sig} (hS : S.Ok) {t : Nat} {x : Value} {lo hi mx : Option Value} {k : Value → Prop} (h : sliceK S t x lo hi mx k) (hno : hi = none → mx = none) :
    ∃ v, k v ∧ ∀ w, (Instr.sliceAt t x lo hi mx).run S.P w = .ok v w := by
  unfold sliceK at h
  split at h
  · rename_i _ _ _ ht
    have hu := (hS _ _ ht).ty
    split at h
    · rename_i s
      obtain ⟨hh, h, h1, h2, h3⟩ := bndK_ok h
      obtain ⟨ll, h, l1, l2, l3⟩ := bndK_ok h
      have h := h.ok
      refine ⟨_, h, fun w => ?_⟩
      have hsb := sliceBounds_ok (isSlice := false) (n := s.length) (c := s.length) (m := s.length) (P := S.P) w ⟨fun _ => rfl, fun x hx => by cases hx⟩ ⟨h1, h3⟩ ⟨l1, l3⟩ (fun _ => rfl)
      have hsz : (⟨⟨s⟩⟩ : ByteArray).size = s.length := rfl
      simp only [Instr.sliceAt, Sem.run_bind, run_underlying hu, Result.andThen_ok, Instr.slice, hsz]
      simp [hsb, extract_mk]
    · exact h.elim
  · rename_i e _ _ _ ht
    have hu := (hS _ _ ht).ty
    split at h
    · rename_i ao n c
      split at h
      · rename_i j hj
        simp only [tiK_eq] at h
        obtain ⟨m, h, m1, m2, m3⟩ := bndK_ok h
        obtain ⟨hh, h, h1, h2, h3⟩ := bndK_ok h
        split at h
        · refine ⟨_, h, fun w => ?_⟩
          have hsb := sliceBounds_ok (isSlice := true) (n := n) (c := c) (lo := none) (l := 0) (P := S.P) w ⟨m1, m3⟩ ⟨h1, h3⟩ ⟨fun _ => rfl, fun x hx => by cases hx⟩ hno
          simp only [Instr.sliceAt, Sem.run_bind, run_underlying hu, Result.andThen_ok, Instr.slice]
          simp only [hsb, Result.andThen_ok, size_ok hS hj]
          simp [Addr.add]
        · rename_i y
          obtain ⟨ll, h, l1, l2, l3⟩ := bndK_ok h
          have h := h.ok
          have h := h.ok
          refine ⟨_, h, fun w => ?_⟩
          have hsb := sliceBounds_ok (isSlice := true) (n := n) (c := c) (P := S.P) w ⟨m1, m3⟩ ⟨h1, h3⟩ ⟨l1, l3⟩ hno
          simp only [Instr.sliceAt, Sem.run_bind, run_underlying hu, Result.andThen_ok, Instr.slice]
          simp only [hsb, Result.andThen_ok, size_ok hS hj]
          simp [subA]
      · exact h.elim
    · exact h.elim
  · rename_i n e _ _ _ ht
    have hu := (hS _ _ ht).ty
    split at h
    · rename_i b off
      split at h
      · rename_i j hj
        simp only [tiK_eq] at h
        obtain ⟨m, h, m1, m2, m3⟩ := bndK_ok h
        obtain ⟨hh, h, h1, h2, h3⟩ := bndK_ok h
        split at h
        · refine ⟨_, h, fun w => ?_⟩
          have hsb := sliceBounds_ok (isSlice := false) (n := n) (c := n) (lo := none) (l := 0) (P := S.P) w ⟨m1, m3⟩ ⟨h1, h3⟩ ⟨fun _ => rfl, fun x hx => by cases hx⟩ hno
          simp only [Instr.sliceAt, Sem.run_bind, run_underlying hu, Result.andThen_ok, Instr.sureAddr, Sem.run_pure]
          simp only [hsb, Result.andThen_ok, size_ok hS hj]
          simp [Addr.add]
        · rename_i y
          obtain ⟨ll, h, l1, l2, l3⟩ := bndK_ok h
          have h := h.ok
          have h := h.ok
          refine ⟨_, h, fun w => ?_⟩
          have hsb := sliceBounds_ok (isSlice := false) (n := n) (c := n) (P := S.P) w ⟨m1, m3⟩ ⟨h1, h3⟩ ⟨l1, l3⟩ hno
          simp only [Instr.sliceAt, Sem.run_bind, run_underlying hu, Result.andThen_ok, Instr.sureAddr, Sem.run_pure]
          simp only [hsb, Result.andThen_ok, size_ok hS hj]
          simp [subA]
          split <;> rfl
      · exact h.elim
    · exact h.elim
  · exact h.elim

theorem loadCells_ok {P : Program} {w : World} {b off : Nat} {vs : List Value} (h : ∀ j v, vs[j]? = some v → w.cell? ⟨b, off + j, none⟩ = some v) : (loadCells ⟨b, off, none⟩ vs.length).run P w = .ok ⟨vs⟩ w := by
  have := run_loadCells_list (P := P) (w := w) ⟨b, off, none⟩ vs (fun j v hv => by rw [Addr.add_mk]; exact h j v hv)
  simpa using this

theorem loadK_ok {S : Sig} (hS : S.Ok) {t : Nat} {a : Addr} {L : SH} {k : Value → Prop} (h : loadK S t a L k) : ∃ v, k v ∧ ∀ w, Holds w L → (Instr.loadAt t (.pointer (some a))).run S.P w = .ok v w := by
  unfold loadK at h
  split at h
  · rename_i b off
    split at h
    · rename_i i hi
      cases ha : i.ty.agg with
      | true =>
        rw [ha] at h
        simp only [cond_true] at h
        cases h with
        | lit j hj h =>
          rename_i base xs hc
          obtain ⟨hl, h⟩ := takeK_eq _ _ _ h
          rw [dropL_eq] at hl h
          refine ⟨_, h, fun w hw => ?_⟩
          have hlen : ((xs.drop j).take i.size).length = i.size := by rw [List.length_take]; omega
          have := loadCells_ok (P := S.P) (w := w) (b := b) (off := off) (vs := (xs.drop j).take i.size) (fun m v hv => by
            rw [List.getElem?_take] at hv
            split at hv
            · rw [List.getElem?_drop] at hv
              rw [hj, show j + base + m = (j + m) + base by omega]
              exact hc.cell w hw _ v hv
            · cases hv)
          rw [hlen] at this
          simp [Instr.loadAt, Instr.sureAddr, loadVar, isAgg_ok hS hi, ha, size_ok hS hi, this]
        | mk j hj vs hl hv h =>
          rename_i base xs hc
          rw [listK_eq] at h
          refine ⟨_, h, fun w hw => ?_⟩
          have := loadCells_ok (P := S.P) (w := w) (b := b) (off := off) (vs := vs) (fun m v hvm => by
            rw [← hv, List.getElem?_take] at hvm
            split at hvm
            · rw [List.getElem?_drop] at hvm
              rw [hj, show j + base + m = (j + m) + base by omega]
              exact hc.cell w hw _ v hvm
            · cases hvm)
          rw [hl] at this
          simp [Instr.loadAt, Instr.sureAddr, loadVar, isAgg_ok hS hi, ha, size_ok hS hi, this]
        | sym j hj vs hl hv h =>
          rename_i base xs hc
          refine ⟨_, h, fun w hw => ?_⟩
          have := loadCells_ok (P := S.P) (w := w) (b := b) (off := off) (vs := vs) (fun m v hvm => by
            rw [← hv, List.getElem?_take] at hvm
            split at hvm
            · rw [List.getElem?_drop] at hvm
              rw [hj, show j + base + m = (j + m) + base by omega]
              exact hc.cell w hw _ v hvm
            · cases hvm)
          rw [hl] at this
          simp [Instr.loadAt, Instr.sureAddr, loadVar, isAgg_ok hS hi, ha, size_ok hS hi, this]
      | false =>
        rw [ha] at h
        simp only [cond_false] at h
        cases h with
        | mk j hj v hv h =>
          rename_i base xs hc
          rw [force_eq] at h
          refine ⟨_, h, fun w hw => ?_⟩
          have := hc.cell w hw j v hv
          rw [← hj] at this
          simp [Instr.loadAt, Instr.sureAddr, loadVar, isAgg_ok hS hi, ha, this]
    · exact h.elim
  · exact h.elim

theorem lenK_ok {S : Sig} (hS : S.Ok) {t ty : Nat} {x : Value} {k : Value → Prop} (h : lenK S t x k) : ∃ v, k v ∧ ∀ w, (Builtin.len_ #[t] ty #[x]).run S.P w = .ok v w := by
  unfold lenK at h
  split at h
  · rename_i _ _ _ ht
    have hu := (hS _ _ ht).ty
    split at h
    · exact ⟨_, h, fun w => by simp [Builtin.len_, run_underlying hu, goInt]; rfl⟩
    · exact h.elim
  · rename_i _ _ _ _ ht
    have hu := (hS _ _ ht).ty
    split at h
    · exact ⟨_, h, fun w => by simp [Builtin.len_, run_underlying hu, goInt]⟩
    · exact h.elim
  · rename_i n e _ _ _ ht
    have hu := (hS _ _ ht).ty
    exact ⟨_, h, fun w => by simp [Builtin.len_, run_underlying hu, goInt]⟩
  · rename_i e _ _ _ ht
    have hu := (hS _ _ ht).ty
    split at h
    · rename_i n e' _ _ _ ht'
      have hu' := (hS _ _ ht').ty
      exact ⟨_, h, fun w => by simp [Builtin.len_, run_underlying hu, run_underlying hu', goInt]⟩
    · exact h.elim
  · exact h.elim

theorem und_some {S : Sig} (hS : S.Ok) {t : Nat} {i : TI} (h : S.T t = some i) : ∃ d, S.P.underlying t = some d := by
  have ht := (hS t i h).ty
  cases hi : i.ty <;> rw [hi] at ht <;> simp only [tyIs] at ht
  case struct fs => obtain ⟨F, hF, _⟩ := ht; exact ⟨_, hF⟩
  case func => obtain ⟨p, r, v, hF⟩ := ht; exact ⟨_, hF⟩
  case iface => obtain ⟨m, hF⟩ := ht; exact ⟨_, hF⟩
  all_goals exact ⟨_, ht⟩

def convPure (S : Sig) (src : Nat) : Bool :=
  match S.T src with
  | some { ty := .slice _, .. } => false
  | _ => true

/-- Operations whose answer hangs on their operands alone. -/
def isPure (S : Sig) (o : Oper) : Bool :=
  match o.op with
  | .load _ _ => false
  | .convert src _ _ => convPure S src
  | _ => true

theorem convK_ok {S : Sig} (hS : S.Ok) {src dst : Nat} {x : Value} {L : SH} {k : Value → Prop} (h : convK S src dst x L k) : ∃ v, k v ∧ ∀ w, (convPure S src = true ∨ Holds w L) → (convert src dst x).run S.P w = .ok v w := by
  unfold convK at h
  split at h
  · rename_i e _ _ _ _ _ _ hs ht
    have hus := (hS _ _ hs).ty
    have hut := (hS _ _ ht).ty
    split at h
    · rename_i ao n c he
      have hue := (hS _ _ he).ty
      cases h with
      | «at» b off ha j hj l hl hz hk =>
        rename_i base xs hc
        subst ha
        refine ⟨_, hk, fun w hw => ?_⟩
        have hw : Holds w L := hw.resolve_left (by simp [convPure, hs])
        subst hl
        refine run_convert_bytes_back w src dst e ⟨b, off, none⟩ c l hus hue hut (fun i hi => ?_)
        have hzj : xs[j + i]? = some (.int .u8 (l[i].toNat : Int)) := by
          have h1 : ((xs.drop j).take l.length)[i]? = (l.map fun b => Value.int .u8 b.toNat)[i]? := by rw [hz]
          rw [List.getElem?_take, if_pos hi, List.getElem?_drop] at h1
          rw [h1]; simp [hi]
        have := hc.cell w hw _ _ hzj
        rw [Addr.add_mk, hj, show j + base + i = j + i + base by omega]
        exact this
      | nil ha hk => subst ha; exact ⟨_, hk, fun w _ => by (simp [convert, run_underlying hus, run_underlying hut, run_underlying hue, Conv.bytesToString]; rfl)⟩
      | mk l hl hz hk =>
        rename_i zs hsl
        refine ⟨_, hk, fun w hw => ?_⟩
        have hw : Holds w L := hw.resolve_left (by simp [convPure, hs])
        subst hl
        by_cases hne : zs = []
        · rw [hne] at hz
          have hl0 : l = [] := by simpa using hz.symm
          subst hl0
          cases ao with
          | none => (simp [convert, run_underlying hus, run_underlying hut, run_underlying hue, Conv.bytesToString]; rfl)
          | some a => exact run_convert_bytes_back w src dst e a c [] hus hue hut (fun j hj => by simp at hj)
        · obtain ⟨a, rfl, hsp, hoff, hblk⟩ := hsl.addr w hw hne
          refine run_convert_bytes_back w src dst e a c l hus hue hut (fun j hj => ?_)
          have hzj : zs[j]? = some (.int .u8 (l[j].toNat : Int)) := by
            have h1 : (zs.take l.length)[j]? = (l.map fun b => Value.int .u8 b.toNat)[j]? := by rw [hz]
            rw [List.getElem?_take, if_pos hj] at h1
            rw [h1]; simp [hj]
          have := hsl.cell w hw j _ hzj
          obtain ⟨b, o, s⟩ := a
          simp only at hsp
          subst hsp
          rw [Addr.add_mk, Nat.add_comm]
          exact this
    · exact h.elim
  · rename_i i kd _ _ _ _ hs ht
    obtain ⟨d, hd⟩ := und_some hS hs
    have hu := (hS _ _ ht).ty
    split at h
    · have h := h.ok
      exact ⟨_, h, fun w _ => by simp [convert, run_underlying hd, run_underlying hu, Conv.intToInt]⟩
    · exact h.elim
  · rename_i i _ _ _ _ hs ht
    obtain ⟨d, hd⟩ := und_some hS hs
    have hu := (hS _ _ ht).ty
    split at h
    · exact ⟨_, h, fun w _ => by simp [convert, run_underlying hd, run_underlying hu]⟩
    · exact h.elim
  · exact h.elim

theorem builtinK_ok {S : Sig} (hS : S.Ok) {b : Builtin} {ts : List Nat} {xs : List Value} {ty : Nat} {cs : Array Bool} {k : Value → Prop} (h : builtinK S b ts xs k) :
    ∃ v, k v ∧ ∀ w, (builtin b ts.toArray ty cs xs.toArray).run S.P w = .ok (.value v) w := by
  unfold builtinK at h
  split at h
  · rename_i t x
    obtain ⟨v, h1, h2⟩ := lenK_ok (ty := ty) hS h
    exact ⟨v, h1, fun w => by simp [builtin, h2]⟩
  · rename_i t ao n c
    split at h
    · rename_i e _ _ _ ht
      have hu := (hS _ _ ht).ty
      exact ⟨_, h, fun w => by simp [builtin, Builtin.cap_, run_underlying hu, goInt]⟩
    · exact h.elim
  · rename_i ts ka a kb b
    have h := h.ok
    exact ⟨_, h, fun w => by simp [builtin, Builtin.min_, Builtin.min2]⟩
  · rename_i ts ka a kb b
    have h := h.ok
    exact ⟨_, h, fun w => by simp [builtin, Builtin.max_, Builtin.max2]⟩
  · exact h.elim

/-- An operation that leaves the heap alone. -/
theorem pureK_ok {S : Sig} (hS : S.Ok) {o : Oper} {f : Fr} {L : SH} {k : Value → Prop} {a : Act} (hf : FrOk f a) {w0 : World} (h0 : Holds w0 L) (h : pureK S o f L k) : ∃ v, k v ∧ ∀ w, (isPure S o = true ∨ Holds w L) → (execOp a.eval o).run S.P w = .ok (.value v) w := by
  unfold pureK at h
  split at h
  · rename_i x ho
    exact ⟨_, rd_ok hf h, fun w _ => by simp [execOp, ho]⟩
  · rename_i x ho
    exact ⟨_, rd_ok hf h, fun w _ => by simp [execOp, ho]⟩
  · rename_i c x y ho
    have h := rd_ok hf h
    split at h
    · rename_i g hc
      have h := rd_ok hf h.ok
      refine ⟨_, h, fun w _ => ?_⟩
      cases g <;> simp [execOp, ho, hc, asBool]
    · exact h.elim
  · rename_i x ho
    have h := rd_ok hf h
    split at h
    · rename_i b hx
      exact ⟨_, h, fun w _ => by simp [execOp, ho, hx]⟩
    · rename_i g p q hx
      exact ⟨_, h, fun w _ => by simp [execOp, ho, hx]⟩
    · exact h.elim
  · rename_i op t x y yt ho
    have h := rd_ok hf (rd_ok hf h)
    have key : ∃ v, k v ∧ ∀ (ox oy : Operand) (w : World), (do eqGuard op t ox oy (a.eval x) (a.eval y); binOp op t (a.eval x) (a.eval y) : Sem Value).run S.P w = .ok v w := by
      cases hn : isNilLike (a.eval x) with
      | true => rw [hn] at h; exact eqNilK_ok hS h
      | false => rw [hn] at h; exact binK_ok hS h
    obtain ⟨v, h1, h2⟩ := key
    refine ⟨v, h1, fun w _ => ?_⟩
    have hm := h2 x y w
    have he : execOp a.eval o = (do pure (.value (← (do eqGuard op t x y (a.eval x) (a.eval y); binOp op t (a.eval x) (a.eval y))))) := by simp [execOp, ho]
    rw [he, Sem.run_bind, hm]
    rfl
  · rename_i op t x ho
    have h := rd_ok hf h
    split at h
    · rename_i b hx
      cases op <;> simp only at h <;> first | exact h.elim | skip
      exact ⟨_, h, fun w _ => by simp [execOp, ho, hx, Op.unary]⟩
    · rename_i kd n hx
      cases op <;> simp only at h <;> first | exact h.elim | skip
      · exact ⟨_, h.ok, fun w _ => by simp [execOp, ho, hx, Op.unary, Op.intArith]⟩
      · exact ⟨_, h.ok, fun w _ => by simp [execOp, ho, hx, Op.unary, Op.intBits, bitsI]⟩
    · exact h.elim
  · rename_i src dst x ho
    have h := rd_ok hf h
    obtain ⟨v, h1, h2⟩ := convK_ok hS h
    exact ⟨v, h1, fun w hw => by simp [execOp, ho, h2 w (by simpa [isPure, ho] using hw)]⟩
  · rename_i t x ho
    have h := rd_ok hf h
    split at h
    · exact h.elim
    · rename_i i hne hi
      refine ⟨_, h, fun w _ => ?_⟩
      have ht := (hS _ _ hi).ty
      have hd : ∃ d, S.P.underlying t = some d ∧ ∀ m, d ≠ .interface m := by
        cases hty : i.ty <;> rw [hty] at ht <;> simp only [tyIs] at ht
        case struct fs => obtain ⟨F, hF, _⟩ := ht; exact ⟨_, hF, fun m => by simp⟩
        case func => obtain ⟨p, r, v, hF⟩ := ht; exact ⟨_, hF, fun m => by simp⟩
        case iface => obtain ⟨q1, q2, q3, q4⟩ := i; simp only at hty; subst hty; exact (hne _ _ _ rfl).elim
        all_goals exact ⟨_, ht, fun m => by simp⟩
      obtain ⟨d, hd, hm⟩ := hd
      simp only [execOp, ho, Instr.makeInterface, Sem.run_bind, run_underlying hd, Result.andThen_ok]
      cases d <;> first | rfl | exact (hm _ rfl).elim
    · exact h.elim
  · rename_i fn first cap ho
    have h := rdL_ok hf (rdL_ok hf h)
    refine ⟨_, h, fun w _ => ?_⟩
    simp only [execOp, ho, Instr.makeFunc, Sem.run_bind, Sem.run_pure, Result.andThen_ok]
    have e : ∀ c : Array Operand, c.map a.eval = ⟨c.toList.map a.eval⟩ := fun c => by apply Array.ext'; simp
    rw [e, e]
  · rename_i t ps ho
    have h := rdP_ok hf h
    obtain ⟨v, h1, h2⟩ := buildK_ok hS h
    refine ⟨v, h1, fun w _ => ?_⟩
    have he : (ps.map fun x => (x.1, a.eval x.2)) = (ps.toList.map fun x => (x.1, a.eval x.2)).toArray := by
      apply Array.ext'; simp
    simp only [execOp, ho, Sem.run_bind]
    rw [show (ps.map fun (i, x) => (i, a.eval x)) = (ps.toList.map fun x => (x.1, a.eval x.2)).toArray from he, h2]
    rfl
  · rename_i x i ho
    have h := rd_ok hf h
    split at h
    · rename_i vs hx
      split at h
      · rename_i v hv
        rw [nthL_eq] at hv
        have hv' : vs[i]? = some v := by simpa using hv
        exact ⟨_, h, fun w _ => by simp [execOp, ho, hx, Instr.extract, hv']⟩
      · exact h.elim
    · exact h.elim
  · rename_i t x i ho
    have h := rd_ok hf h
    split at h
    · rename_i cs hx
      split at h
      · rename_i fs _ _ _ ht
        obtain ⟨F, hF, hfs⟩ := (hS _ _ ht).ty
        split at h
        · rename_i o u hn
          rw [nthL_eq, ← hfs] at hn
          simp only [List.getElem?_map, Option.map_eq_some_iff] at hn
          obtain ⟨fl, hfl, hfe⟩ := hn
          simp only [Prod.mk.injEq] at hfe
          obtain ⟨rfl, rfl⟩ := hfe
          have hfl' : F[i]? = some fl := by simpa using hfl
          obtain ⟨v, h1, h2⟩ := partK_ok hS h
          have h2' : ∀ w, (part fl.type cs fl.offset).run S.P w = .ok v w := by
            intro w; have := h2 w; simpa using this
          exact ⟨v, h1, fun w _ => by simp [execOp, ho, hx, Instr.field, run_underlying hF, hfl', asAgg, h2']⟩
        · exact h.elim
      · exact h.elim
    · exact h.elim
  · rename_i t x i ho
    have h := rd_ok hf h
    split at h
    · rename_i ad hx
      obtain ⟨v, h1, h2⟩ := fieldAddrK_ok hS h
      exact ⟨v, h1, fun w _ => by simp [execOp, ho, hx, h2]⟩
    · exact h.elim
  · rename_i t x i ho
    have h := rd_ok hf (rd_ok hf h)
    split at h
    · rename_i kd n hi
      obtain ⟨v, h1, h2⟩ := idxAddrK_ok hS h0 h
      exact ⟨v, h1, fun w hw => by simp [execOp, ho, hi, h2]⟩
    · exact h.elim
  · rename_i t x i ho
    have h := rd_ok hf (rd_ok hf h)
    split at h
    · rename_i kd n hi
      obtain ⟨v, h1, h2⟩ := indexK_ok hS h
      exact ⟨v, h1, fun w hw => by simp [execOp, ho, hi, h2]⟩
    · exact h.elim
  · rename_i t x lo hi mx ho
    have h := rdO_ok hf (rdO_ok hf (rdO_ok hf (rd_ok hf h)))
    obtain ⟨hno, h⟩ := h
    obtain ⟨v, h1, h2⟩ := sliceK_ok hS h hno
    exact ⟨v, h1, fun w _ => by simp [execOp, ho, h2]⟩
  · rename_i t x ho
    have h := rd_ok hf h
    split at h
    · rename_i ad hx
      obtain ⟨v, h1, h2⟩ := loadK_ok hS h
      exact ⟨v, h1, fun w hw => by simp [execOp, ho, hx, h2 w (by simpa [isPure, ho] using hw)]⟩
    · exact h.elim
  · rename_i c ho
    split at h
    · rename_i b hc
      have h := rdL_ok hf h
      obtain ⟨v, h1, h2⟩ := builtinK_ok (ty := o.type) (cs := c.args.map fun | .const _ => true | _ => false) hS h
      refine ⟨v, h1, fun w _ => ?_⟩
      simp only [execOp, ho, resolve, hc, invoke, Sem.run_bind, Sem.run_pure, Result.andThen_ok]
      have e1 : c.args.map a.eval = (c.args.toList.map a.eval).toArray := by apply Array.ext'; simp
      have e2 : c.argTypes = c.argTypes.toList.toArray := by simp
      rw [e1, e2]
      exact h2 w
    · exact h.elim
  · exact h.elim

end Go.Proofs.Ytloknkdomgeolaa.She
