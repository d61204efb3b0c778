/- The executor: the operations that change nothing. -/
import Derived.Test.YtlngchhjdnalbaaGreatDoorExeSt
import Derived.Laws.StructEq
set_option linter.unusedVariables false
set_option linter.unusedSimpArgs false
namespace Go.Exe
open Go.RowKit

def FOk (P : Program) (f : Field) (fi : FI) : Prop :=
  f.offset = fi.off ∧ f.type = fi.ty ∧ (∀ w, (sizeOf f.type).run P w = .ok fi.size w) ∧ (∀ w, (isAgg f.type).run P w = .ok fi.agg w) ∧ decide (f.name ≠ "_") = fi.cmp

inductive FsOk (P : Program) : List Field → List FI → Prop where
  | nil : FsOk P [] []
  | cons (f : Field) (fi : FI) (fs : List Field) (fis : List FI) : FOk P f fi → FsOk P fs fis → FsOk P (f :: fs) (fi :: fis)

def KdOk (P : Program) : TypeDesc → Kd → Prop
  | .bool, .bool => True
  | .int k, .int k' => k = k'
  | .string, .str => True
  | .pointer e, .ptr e' => e = e'
  | .slice e, .slice e' => e = e'
  | .map k e, .map k' e' => k = k' ∧ e = e'
  | .array n e, .array n' e' => n = n' ∧ e = e'
  | .struct fs, .struct fis => FsOk P fs.toList fis
  | .interface _, .iface => True
  | .func _ _ _, .func => True
  | .tuple _, .tuple => True
  | _, .other => True
  | _, _ => False

structure TIok (P : Program) (t : TypeId) (ti : TI) : Prop where
  und : ∃ d, P.underlying t = some d ∧ KdOk P d ti.kd
  size : ∀ w, (sizeOf t).run P w = .ok ti.size w
  info : ∃ i, (∀ w, (typeInfo t).run P w = .ok i w) ∧ i.bytes = ti.bytes
  agg : ∀ w, (isAgg t).run P w = .ok ti.kd.isAgg w
  zero : ∃ z, (∀ w, (zeroValue t).run P w = .ok z w) ∧ (∀ θ, VRs θ ti.zero z.cells.toList) ∧ (ti.kd.isAgg = true → ∃ cs, z = .agg cs) ∧ (ti.kd.isAgg = false → z.cells = #[z]) ∧ z.cells.size = ti.size
  eqg : ti.kd.isAgg = true → ti.hid = false → P.eqGuardType P.depth t = false ∧ P.stoodInHeld t = false

def TyOk (P : Program) (ty : Tr TI) : Prop := ∀ t ti, ty.get t = some ti → TIok P t ti

theorem FsOk.get {P : Program} : ∀ {fs : List Field} {fis : List FI} {i : Nat} {fi : FI}, FsOk P fs fis → listGet fis i = some fi → ∃ f, fs[i]? = some f ∧ FOk P f fi
  | _, _, _, _, .nil, h => by simp [listGet] at h
  | _, _, 0, _, .cons f fi _ _ hf _, h => by simp [listGet] at h; subst h; exact ⟨f, rfl, hf⟩
  | _, _, i + 1, _, .cons _ _ _ _ _ ht, h => by
    simp only [listGet] at h
    obtain ⟨f, h1, h2⟩ := ht.get h
    exact ⟨f, by simpa using h1, h2⟩

/-- What an operation has come to. -/
def Came (P : Program) (a : Act) (o : Oper) (w : World) (θ : Th) (nm : Nat) (v : AV) : Option AObj → Prop
  | none => ∃ v', (execOp a.eval o).run P w = .ok (.value v') w ∧ VR θ v v'
  | some ob => ∃ v' ob', (execOp a.eval o).run P w = .ok (.value v') (w.alloc ob') ∧ ∀ θ', θ.Le θ' → θ'.blk nm = some w.heap.size → VR θ' v v' ∧ OR θ' ob ob' ∧ Loose ob'

theorem VRs.cut' {θ : Th} {l : List AV} {l' : List Value} {o n : Nat} {r : List AV} (h : VRs θ l l') (hc : Exe.cut l o n = some r) : VRs θ r ((l'.drop o).take n) ∧ (n = 0 ∨ o + n ≤ l'.length) := by
  rcases h.cut hc with ⟨h1, h2⟩ | ⟨rfl, rfl⟩
  · exact ⟨h1, .inr h2⟩
  · exact ⟨by simpa using VRs.nil, .inl rfl⟩

theorem part_sound {P : Program} {θ : Th} {t : TypeId} {agg : Bool} {size : Nat} {cs : List AV} {cs' : Array Value} {off : Nat} {v : AV}
    (ha : ∀ w, (isAgg t).run P w = .ok agg w) (hs : ∀ w, (sizeOf t).run P w = .ok size w) (hc : VRs θ cs cs'.toList) (h : partA agg size cs off = some v) (w : World) :
    ∃ v', (part t cs' off).run P w = .ok v' w ∧ VR θ v v' := by
  cases agg with
  | true =>
    simp only [partA] at h
    split at h
    · rename_i l hl
      simp only [Option.some.injEq] at h
      subst h
      obtain ⟨h1, _⟩ := hc.cut' hl
      refine ⟨.agg (cs'.extract off (off + size)), by simp [part, ha, hs], ?_⟩
      have : cs'.extract off (off + size) = ((cs'.toList.drop off).take size).toArray := by
        apply Array.ext'
        simp [Array.toList_extract, List.extract_eq_take_drop]
      rw [this]
      exact .agg _ _ h1
    · cases h
  | false =>
    simp only [partA] at h
    obtain ⟨v', h1, h2⟩ := hc.get h
    have h1 : cs'[off]? = some v' := by simpa using h1
    exact ⟨v', by simp [part, ha, h1], h2⟩

/-- A load out of a row of cells. -/
theorem loadVar_sound {P : Program} {θ : Th} {B : Nat} {h : Nat → Option AObj} {w : World} {t : TypeId} {ti : TI} (ht : TIok P t ti) (hr : HR θ B h w) {n b o : Nat} {cs : List AV} {e : TypeId} {m : Option (Nat × Nat)} {v : AV}
    (hn : h n = some (.cells cs e m)) (hb : θ.blk n = some b) (hp : partA ti.kd.isAgg ti.size cs o = some v) : ∃ v', (loadVar t ⟨b, o, none⟩).run P w = .ok v' w ∧ VR θ v v' := by
  obtain ⟨c, fr, pre, rest, h1, h2, h3, _⟩ := hr.cell hn hb
  have hA := ht.agg
  cases hk : ti.kd.isAgg with
  | true =>
    rw [hk] at hA hp
    simp only [partA] at hp
    split at hp
    · rename_i l hl
      simp only [Option.some.injEq] at hp
      subst hp
      obtain ⟨h4, h5⟩ := h3.cut' hl
      have hlen : ((pre.drop o).take ti.size).length = ti.size := by simp; omega
      have hsame : ((pre.drop o).take ti.size) = (c.toList.drop o).take ti.size := by
        rw [h2]
        rcases h5 with h5 | h5
        · rw [h5]; simp
        · rw [List.drop_append_of_le_length (by omega), List.take_append_of_le_length (by simp; omega)]
      have := cells_at h1 o ((pre.drop o).take ti.size) (by rw [hlen]; exact hsame) P
      rw [hlen] at this
      exact ⟨_, by simp [loadVar, hA, ht.size, this], .agg _ _ h4⟩
    · cases hp
  | false =>
    rw [hk] at hA hp
    simp only [partA] at hp
    obtain ⟨v', h4, h5⟩ := h3.get hp
    have h6 : w.cell? ⟨b, o, none⟩ = some v' := by
      rw [cell_of_row w b o c e fr h1, ← Array.getElem?_toList, h2, List.getElem?_append_left (by
        rcases Nat.lt_or_ge o pre.length with h | h
        · exact h
        · rw [List.getElem?_eq_none h] at h4; cases h4)]
      exact h4
    exact ⟨v', by simp [loadVar, hA, h6], h5⟩

theorem kd_slice {P : Program} {d : TypeDesc} {e : TypeId} (h : KdOk P d (.slice e)) : d = .slice e := by cases d <;> simp_all [KdOk]
theorem kd_str {P : Program} {d : TypeDesc} (h : KdOk P d .str) : d = .string := by cases d <;> simp_all [KdOk]
theorem kd_int {P : Program} {d : TypeDesc} {k : IntKind} (h : KdOk P d (.int k)) : d = .int k := by cases d <;> simp_all [KdOk]
theorem kd_bool {P : Program} {d : TypeDesc} (h : KdOk P d .bool) : d = .bool := by cases d <;> simp_all [KdOk]
theorem kd_ptr {P : Program} {d : TypeDesc} {e : TypeId} (h : KdOk P d (.ptr e)) : d = .pointer e := by cases d <;> simp_all [KdOk]
theorem kd_map {P : Program} {d : TypeDesc} {k e : TypeId} (h : KdOk P d (.map k e)) : d = .map k e := by cases d <;> simp_all [KdOk]
theorem kd_array {P : Program} {d : TypeDesc} {n : Nat} {e : TypeId} (h : KdOk P d (.array n e)) : d = .array n e := by cases d <;> simp_all [KdOk]
theorem kd_struct {P : Program} {d : TypeDesc} {fis : List FI} (h : KdOk P d (.struct fis)) : ∃ fs, d = .struct fs ∧ FsOk P fs.toList fis := by cases d <;> simp_all [KdOk]
theorem kd_iface {P : Program} {d : TypeDesc} (h : KdOk P d .iface) : ∃ m, d = .interface m := by cases d <;> simp_all [KdOk]
theorem kd_func {P : Program} {d : TypeDesc} (h : KdOk P d .func) : ∃ x y z, d = .func x y z := by cases d <;> simp_all [KdOk]

/-! ### What is built of parts -/
theorem foldl_set (l : List Value) (off : Nat) : ∀ (i : Nat) (cells : Array Value), off + i + l.length ≤ cells.size →
    ((l.zipIdx i).foldl (fun cs (x : Value × Nat) => cs.setIfInBounds (off + x.2) x.1) cells).toList = Exe.put cells.toList (off + i) l := by
  induction l with
  | nil => intro i cells h; simp [Exe.put]
  | cons v l ih =>
    intro i cells h
    simp only [List.zipIdx_cons, List.foldl_cons]
    rw [ih (i + 1) _ (by simp at h ⊢; omega)]
    simp only [Array.toList_setIfInBounds, Exe.put, List.length_cons]
    simp only [List.length_cons] at h
    apply List.ext_getElem?
    intro j
    simp only [List.getElem?_append, List.getElem?_take, List.getElem?_drop, List.length_append, List.length_take, List.length_set, List.length_cons, Array.length_toList, List.getElem?_set, List.getElem?_cons]
    have e1 : min (off + (i + 1)) cells.size = off + (i + 1) := by omega
    have e2 : min (off + i) cells.size = off + i := by omega
    simp only [e1, e2]
    by_cases h1 : j < off + i
    · have : ¬ (off + i = j) := by omega
      simp [h1, this, show j < off + (i + 1) + l.length by omega, show j < off + i + (l.length + 1) by omega, show j < off + (i + 1) by omega]
    · by_cases h2 : j = off + i
      · subst h2
        simp [show off + i < off + (i + 1) + l.length by omega, show off + i < off + (i + 1) by omega, show off + i < cells.size by omega]
      · by_cases h3 : j < off + (i + 1) + l.length
        · have h4 : ¬ (j < off + (i + 1)) := by omega
          have h5 : ¬ (j - (off + i) = 0) := by omega
          simp [h1, h3, h4, h5, show j < off + i + (l.length + 1) by omega, show j - (off + (i + 1)) = j - (off + i) - 1 by omega]
        · simp [h3, show ¬ (j < off + i + (l.length + 1)) by omega, show ¬ (off + i = j) by omega]
          have e : off + (i + 1) + l.length + (j - (off + (i + 1) + l.length)) = off + i + (l.length + 1) + (j - (off + i + (l.length + 1))) := by omega
          rw [e]
          simp [show ¬ (off + i = off + i + (l.length + 1) + (j - (off + i + (l.length + 1)))) by omega]

theorem foldl_put (v : Array Value) (off : Nat) (cells : Array Value) (h : off + v.size ≤ cells.size) :
    (v.zipIdx.foldl (fun cs (x : Value × Nat) => cs.setIfInBounds (off + x.2) x.1) cells).toList = Exe.put cells.toList off v.toList := by
  have := foldl_set v.toList off 0 cells (by simpa using h)
  rw [← Array.foldl_toList]
  simpa [Array.toList_zipIdx] using this

theorem fillA_sound {θ : Th} {nt : Nat} {T : Tr AV} {a : Act} (k : TR θ nt T a) (hg : ∀ g, g < 64 → θ.blk g = some g) (fs : List FI) (place : Nat → Option (Nat × Nat)) (hp : ∀ i f, listGet fs i = some f → place i = some (f.off, f.size)) :
    ∀ (ps : List (Nat × Operand)) (cs r : List AV) (cs' : Array Value), VRs θ cs cs'.toList → fillA fs T cs ps = some r →
      ∃ r', Instr.fill place cs' (ps.map fun x => (x.1, a.eval x.2)) = some r' ∧ VRs θ r r'.toList
  | [], cs, r, cs', hc, h => by simp only [fillA, Option.some.injEq] at h; subst h; exact ⟨cs', rfl, hc⟩
  | (i, x) :: ps, cs, r, cs', hc, h => by
    simp only [fillA] at h
    split at h
    · rename_i f v hf hv
      split at h
      · rename_i hl
        split at h
        · rename_i cs1 h1
          have hx := (ev_sound k hg hv).cells
          have hlen := Nat.eq_of_beq_eq_true hl
          have e1 : (a.eval x).cells.size = f.size := by rw [← Array.length_toList, hx.length, hlen]
          have hcl := hc.length
          simp only [Array.length_toList] at hcl
          obtain ⟨rfl, h2⟩ := lay_eq h1
          have h3 : f.off + (a.eval x).cells.size ≤ cs'.size := by omega
          obtain ⟨r', h4, h5⟩ := fillA_sound k hg fs place hp ps _ r ((a.eval x).cells.zipIdx.foldl (fun cs (y : Value × Nat) => cs.setIfInBounds (f.off + y.2) y.1) cs')
            (by rw [foldl_put _ _ _ h3]; exact hc.put hx h2) h
          refine ⟨r', ?_, h5⟩
          simp only [List.map_cons, Instr.fill, hp i f hf]
          rw [if_neg (by simp [e1]; omega)]
          exact h4
        · cases h
      · cases h
    · cases h
end Go.Exe
