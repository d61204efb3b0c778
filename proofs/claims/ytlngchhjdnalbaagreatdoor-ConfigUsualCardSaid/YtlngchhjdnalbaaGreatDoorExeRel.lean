/- The executor: how its data stand for the program's; the small lemmas. -/
import Derived.Test.YtlngchhjdnalbaaGreatDoorExeDef
import Derived.Laws.World
import Derived.Below
set_option linter.unusedVariables false
set_option linter.unusedSimpArgs false
namespace Go.Exe

theorem Tr.get_node {α : Type} (l : Tr α) (v : Option α) (r : Tr α) (n : Nat) : (Tr.node l v r).get n = match n with
    | 0 => v
    | m + 1 => match m % 2 with
      | 0 => l.get (m / 2)
      | _ + 1 => r.get (m / 2) := by
  cases n <;> rfl

theorem Tr.get_nil {α : Type} (n : Nat) : (Tr.nil : Tr α).get n = none := rfl

theorem Tr.get_put {α : Type} : ∀ (f : Nat) (t : Tr α) (n : Nat) (x : Option α) (m : Nat), n < f → (Tr.put f t n x).get m = if m = n then x else t.get m := by
  intro f
  induction f with
  | zero => intro t n x m h; omega
  | succ f ih =>
    intro t n x m h
    cases t with
    | nil =>
      cases n with
      | zero =>
        cases m with
        | zero => simp [Tr.put, Tr.get_node]
        | succ m => simp only [Tr.put, Tr.get_node, Tr.get_nil]; rw [if_neg (by omega)]; split <;> rfl
      | succ n =>
        rcases Nat.mod_two_eq_zero_or_one n with hn | hn
        · simp only [Tr.put, hn]
          cases m with
          | zero => simp [Tr.get_node, Tr.get_nil]
          | succ m =>
            simp only [Tr.get_node, Tr.get_nil]
            rcases Nat.mod_two_eq_zero_or_one m with hm | hm
            · simp only [hm]; rw [ih _ _ _ _ (by omega)]
              by_cases e : m = n
              · subst e; simp
              · rw [if_neg (by omega), if_neg (by omega)]; rfl
            · simp only [hm]; rw [if_neg (by omega)]
        · simp only [Tr.put, hn]
          cases m with
          | zero => simp [Tr.get_node, Tr.get_nil]
          | succ m =>
            simp only [Tr.get_node, Tr.get_nil]
            rcases Nat.mod_two_eq_zero_or_one m with hm | hm
            · simp only [hm]; rw [if_neg (by omega)]
            · simp only [hm]; rw [ih _ _ _ _ (by omega)]
              by_cases e : m = n
              · subst e; simp
              · rw [if_neg (by omega), if_neg (by omega)]; rfl
    | node l v r =>
      cases n with
      | zero =>
        cases m with
        | zero => simp [Tr.put, Tr.get_node]
        | succ m => simp only [Tr.put, Tr.get_node]; rw [if_neg (by omega)]
      | succ n =>
        rcases Nat.mod_two_eq_zero_or_one n with hn | hn
        · simp only [Tr.put, hn]
          cases m with
          | zero => simp [Tr.get_node]
          | succ m =>
            simp only [Tr.get_node]
            rcases Nat.mod_two_eq_zero_or_one m with hm | hm
            · simp only [hm]; rw [ih _ _ _ _ (by omega)]
              by_cases e : m = n
              · subst e; simp
              · rw [if_neg (by omega), if_neg (by omega)]
            · simp only [hm]; rw [if_neg (by omega)]
        · simp only [Tr.put, hn]
          cases m with
          | zero => simp [Tr.get_node]
          | succ m =>
            simp only [Tr.get_node]
            rcases Nat.mod_two_eq_zero_or_one m with hm | hm
            · simp only [hm]; rw [if_neg (by omega)]
            · simp only [hm]; rw [ih _ _ _ _ (by omega)]
              by_cases e : m = n
              · subst e; simp
              · rw [if_neg (by omega), if_neg (by omega)]

theorem Tr.putK_eq {α β : Type} : ∀ (f : Nat) (t : Tr α) (n : Nat) (x : Option α) (k : Tr α → β), Tr.putK f t n x k = k (Tr.put f t n x) := by
  intro f
  induction f with
  | zero => intros; rfl
  | succ f ih =>
    intro t n x k
    cases t with
    | nil =>
      cases n with
      | zero => rfl
      | succ n => rcases Nat.mod_two_eq_zero_or_one n with hn | hn <;> simp only [Tr.putK, Tr.put, hn, ih]
    | node l v r =>
      cases n with
      | zero => rfl
      | succ n => rcases Nat.mod_two_eq_zero_or_one n with hn | hn <;> simp only [Tr.putK, Tr.put, hn, ih]

section
variable {α β : Type}
theorem fN_eq (n : Nat) (k : Nat → α) : fN n k = k n := by cases n <;> rfl
theorem fI_eq (n : Int) (k : Int → α) : fI n k = k n := by cases n <;> simp [fI, fN_eq]
theorem fB_eq (b : Bool) (k : Bool → α) : fB b k = k b := by cases b <;> rfl
theorem fO_eq (f : β → (β → α) → α) (hf : ∀ x k, f x k = k x) (o : Option β) (k : Option β → α) : fO f o k = k o := by
  cases o <;> simp [fO, hf]
theorem turnK_eq : ∀ (l out : List β) (k : List β → α), turnK l out k = k (l.reverse ++ out)
  | [], _, _ => rfl
  | x :: xs, out, k => by simp [turnK, turnK_eq xs]
theorem gatherK_eq (f : β → (β → α) → α) (hf : ∀ x k, f x k = k x) : ∀ (l acc : List β) (k : List β → α), gatherK f l acc k = k (acc.reverse ++ l)
  | [], _, _ => by simp [gatherK, turnK_eq]
  | x :: xs, acc, k => by simp [gatherK, hf, gatherK_eq f hf xs]
theorem fL_eq (f : β → (β → α) → α) (hf : ∀ x k, f x k = k x) (l : List β) (k : List β → α) : fL f l k = k l := by simp [fL, gatherK_eq f hf]
theorem fP_eq (p : Nat × Nat) (k : Nat × Nat → α) : fP p k = k p := by cases p; simp [fP, fN_eq]
theorem fV_eq : ∀ (d : Nat) (v : AV) (k : AV → α), fV d v k = k v
  | 0, _, _ => rfl
  | d + 1, v, k => by
    cases v <;> simp [fV, fB_eq, fI_eq, fN_eq, fL_eq fN fN_eq, fO_eq fP fP_eq, fO_eq fN fN_eq, fL_eq (fV d) (fV_eq d), fV_eq d]
theorem fQ_eq (v : AV) (k : AV → α) : fQ v k = k v := by
  cases v <;> simp [fQ, fB_eq, fI_eq, fN_eq, fO_eq fP fP_eq, fO_eq fN fN_eq]
theorem fW_eq (v : AV) (k : AV → α) : fW v k = k v := by
  cases v <;> simp [fW, fQ_eq, fL_eq fQ fQ_eq]
theorem fX_eq (q : Bool) (v : AV) (k : AV → α) : fX q v k = k v := by
  cases q <;> simp [fX, fV_eq, fW_eq]
theorem fE_eq (e : AV × AV × Nat) (k : AV × AV × Nat → α) : fE e k = k e := by obtain ⟨a, b, n⟩ := e; simp [fE, fQ_eq, fN_eq]
theorem fObj_eq (o : AObj) (k : AObj → α) : fObj o k = k o := by
  cases o <;> simp [fObj, fL_eq fQ fQ_eq, fL_eq fE fE_eq, fN_eq, fO_eq fP fP_eq]
end

/-- Names to blocks; what more room there is behind a slice than is known. -/
structure Th where
  blk : Nat → Option Nat
  ext : Nat → Option Nat

structure Th.Le (a b : Th) : Prop where
  blk : ∀ n x, a.blk n = some x → b.blk n = some x
  ext : ∀ n x, a.ext n = some x → b.ext n = some x

theorem Th.Le.refl (a : Th) : a.Le a := ⟨fun _ _ h => h, fun _ _ h => h⟩
theorem Th.Le.trans {a b c : Th} (h : a.Le b) (k : b.Le c) : a.Le c := ⟨fun _ _ x => k.blk _ _ (h.blk _ _ x), fun _ _ x => k.ext _ _ (h.ext _ _ x)⟩

mutual
inductive VR (θ : Th) : AV → Value → Prop where
  | bool (b : Bool) : VR θ (.bool b) (.bool b)
  | int (k : IntKind) (n : Int) : VR θ (.int k n) (.int k n)
  | str (s : ByteArray) : VR θ (.str (s.data.toList.map UInt8.toNat)) (.string s)
  | ptrN : VR θ (.ptr none) (.pointer none)
  | ptr (n o b : Nat) : θ.blk n = some b → VR θ (.ptr (some (n, o))) (.pointer (some ⟨b, o, none⟩))
  | sliceN (l r c : Nat) : c = l + r → VR θ (.slice none l r none) (.slice none l c)
  | slice (n o b l r c : Nat) : c = l + r → θ.blk n = some b → VR θ (.slice (some (n, o)) l r none) (.slice (some ⟨b, o, none⟩) l c)
  | sliceS (n o b l r s x c : Nat) : c = l + r + x → θ.blk n = some b → θ.ext s = some x → VR θ (.slice (some (n, o)) l r (some s)) (.slice (some ⟨b, o, none⟩) l c)
  | slice0 (n o s : Nat) (a : Addr) : VR θ (.slice (some (n, o)) 0 0 (some s)) (.slice (some a) 0 0)
  | mapN : VR θ (.map none) (.map none)
  | map (n b : Nat) : θ.blk n = some b → VR θ (.map (some n)) (.map (some b))
  | func (fn : Fn) (a c : List AV) (a' c' : List Value) : VRs θ a a' → VRs θ c c' → VR θ (.func fn a c) (.func fn a'.toArray c'.toArray)
  | nilFunc : VR θ .nilFunc .nilFunc
  | iface (t : TypeId) (v : AV) (v' : Value) : VR θ v v' → VR θ (.iface t v) (.iface t v')
  | nilIface : VR θ .nilIface .nilIface
  | agg (cs : List AV) (cs' : List Value) : VRs θ cs cs' → VR θ (.agg cs) (.agg cs'.toArray)
  | tuple (cs : List AV) (cs' : List Value) : VRs θ cs cs' → VR θ (.tuple cs) (.tuple cs'.toArray)
inductive VRs (θ : Th) : List AV → List Value → Prop where
  | nil : VRs θ [] []
  | cons (v : AV) (v' : Value) (vs : List AV) (vs' : List Value) : VR θ v v' → VRs θ vs vs' → VRs θ (v :: vs) (v' :: vs')
end

mutual
theorem VR.mono {θ θ' : Th} (h : θ.Le θ') : ∀ {v : AV} {v' : Value}, VR θ v v' → VR θ' v v'
  | _, _, .bool b => .bool b
  | _, _, .int k n => .int k n
  | _, _, .str s => .str s
  | _, _, .ptrN => .ptrN
  | _, _, .ptr n o b hb => .ptr n o b (h.blk _ _ hb)
  | _, _, .sliceN l r c e => .sliceN l r c e
  | _, _, .slice n o b l r c e hb => .slice n o b l r c e (h.blk _ _ hb)
  | _, _, .sliceS n o b l r s x c e hb hx => .sliceS n o b l r s x c e (h.blk _ _ hb) (h.ext _ _ hx)
  | _, _, .slice0 n o s a => .slice0 n o s a
  | _, _, .mapN => .mapN
  | _, _, .map n b hb => .map n b (h.blk _ _ hb)
  | _, _, .func fn a c a' c' h1 h2 => .func fn a c a' c' (h1.mono h) (h2.mono h)
  | _, _, .nilFunc => .nilFunc
  | _, _, .iface t v v' h1 => .iface t v v' (h1.mono h)
  | _, _, .nilIface => .nilIface
  | _, _, .agg cs cs' h1 => .agg cs cs' (h1.mono h)
  | _, _, .tuple cs cs' h1 => .tuple cs cs' (h1.mono h)
theorem VRs.mono {θ θ' : Th} (h : θ.Le θ') : ∀ {v : List AV} {v' : List Value}, VRs θ v v' → VRs θ' v v'
  | _, _, .nil => .nil
  | _, _, .cons v v' vs vs' h1 h2 => .cons v v' vs vs' (h1.mono h) (h2.mono h)
end

theorem VRs.length {θ : Th} : ∀ {l : List AV} {l' : List Value}, VRs θ l l' → l'.length = l.length
  | _, _, .nil => rfl
  | _, _, .cons _ _ _ _ _ h => by simp [h.length]

theorem VRs.get {θ : Th} : ∀ {l : List AV} {l' : List Value} {i : Nat} {v : AV}, VRs θ l l' → listGet l i = some v → ∃ v', l'[i]? = some v' ∧ VR θ v v'
  | _, _, _, _, .nil, h => by simp [listGet] at h
  | _, _, 0, _, .cons v v' _ _ hv _, h => by simp [listGet] at h; subst h; exact ⟨v', rfl, hv⟩
  | _, _, i + 1, _, .cons _ _ _ _ _ ht, h => by
    simp only [listGet] at h
    obtain ⟨v', h1, h2⟩ := ht.get h
    exact ⟨v', by simpa using h1, h2⟩

theorem VRs.append {θ : Th} : ∀ {l : List AV} {l' : List Value} {m : List AV} {m' : List Value}, VRs θ l l' → VRs θ m m' → VRs θ (l ++ m) (l' ++ m')
  | _, _, _, _, .nil, h => h
  | _, _, _, _, .cons v v' vs vs' hv ht, h => .cons v v' _ _ hv (ht.append h)

theorem VRs.drop {θ : Th} : ∀ {l : List AV} {l' : List Value} (n : Nat), VRs θ l l' → VRs θ (drop l n) (l'.drop n)
  | _, _, 0, h => by cases h <;> (simp only [Exe.drop, List.drop_zero]; constructor <;> assumption)
  | _, _, n + 1, .nil => by simp only [Exe.drop, List.drop_nil]; exact .nil
  | _, _, n + 1, .cons _ _ _ _ _ ht => by simp only [Exe.drop, List.drop_succ_cons]; exact ht.drop n

theorem VRs.take {θ : Th} : ∀ {l : List AV} {l' : List Value} {n : Nat} {r : List AV}, VRs θ l l' → take l n = some r → VRs θ r (l'.take n) ∧ n ≤ l'.length
  | _, _, 0, _, _, h => by simp only [Exe.take, Option.some.injEq] at h; subst h; simp; exact .nil
  | _, _, n + 1, _, .nil, h => by simp [Exe.take] at h
  | _, _, n + 1, _, .cons v v' vs vs' hv ht, h => by
    simp only [Exe.take] at h
    split at h
    · rename_i l hl
      simp only [Option.some.injEq] at h
      subst h
      obtain ⟨h1, h2⟩ := ht.take hl
      exact ⟨by simpa using VRs.cons v v' _ _ hv h1, by simpa using h2⟩
    · cases h

theorem VRs.cut {θ : Th} {l : List AV} {l' : List Value} {o n : Nat} {r : List AV} (h : VRs θ l l') (hc : cut l o n = some r) : VRs θ r ((l'.drop o).take n) ∧ o + n ≤ l'.length ∨ (n = 0 ∧ r = []) := by
  unfold Exe.cut at hc
  obtain ⟨h1, h2⟩ := (h.drop o).take hc
  simp only [List.length_drop] at h2
  cases n with
  | zero => right; simp [Exe.take] at hc; exact ⟨rfl, hc⟩
  | succ n => left; exact ⟨h1, by omega⟩

theorem over_length {α : Type} : ∀ {cs vs l : List α}, over cs vs = some l → l.length = cs.length ∧ vs.length ≤ cs.length
  | cs, [], l, h => by cases cs <;> (simp only [over, Option.some.injEq] at h; subst h; simp)
  | [], _ :: _, _, h => by simp [over] at h
  | c :: cs, v :: vs, l, h => by
    simp only [over] at h
    split at h
    · rename_i l' hl
      simp only [Option.some.injEq] at h
      subst h
      have := over_length hl
      simp; omega
    · cases h

/-- Cells put over cells. -/
def put {α : Type} (cs : List α) (o : Nat) (vs : List α) : List α := cs.take o ++ vs ++ cs.drop (o + vs.length)

theorem over_eq {α : Type} : ∀ {cs vs l : List α}, over cs vs = some l → l = vs ++ cs.drop vs.length
  | cs, [], l, h => by cases cs <;> (simp only [over, Option.some.injEq] at h; subst h; simp)
  | [], _ :: _, _, h => by simp [over] at h
  | c :: cs, v :: vs, l, h => by
    simp only [over] at h
    split at h
    · rename_i l' hl
      simp only [Option.some.injEq] at h
      subst h
      simp [over_eq hl]
    · cases h

theorem lay_eq {α : Type} : ∀ {o : Nat} {cs vs l : List α}, lay cs o vs = some l → l = put cs o vs ∧ o + vs.length ≤ cs.length
  | 0, cs, vs, l, h => by
    simp only [lay] at h
    have := over_length h
    exact ⟨by simp [put, over_eq h], by omega⟩
  | o + 1, [], _, l, h => by simp [lay] at h
  | o + 1, c :: cs, vs, l, h => by
    simp only [lay] at h
    split at h
    · rename_i l' hl
      simp only [Option.some.injEq] at h
      subst h
      obtain ⟨rfl, h2⟩ := lay_eq hl
      exact ⟨by simp [put, Nat.add_right_comm], by simp; omega⟩
    · cases h

theorem VRs.put {θ : Th} {l : List AV} {l' : List Value} {o : Nat} {vs : List AV} {vs' : List Value} (h : VRs θ l l') (hv : VRs θ vs vs') (ho : o + vs.length ≤ l.length) :
    VRs θ (put l o vs) (Exe.put l' o vs') := by
  have h0 := h.length
  have h1 := hv.length
  have ht : ∀ {l : List AV} {l' : List Value} (n : Nat), VRs θ l l' → VRs θ (l.take n) (l'.take n) := by
    intro l l' n h
    induction n generalizing l l' with
    | zero => simpa using VRs.nil
    | succ n ih => cases h with
      | nil => simpa using VRs.nil
      | cons v v' vs vs' hv ht => simpa using VRs.cons _ _ _ _ hv (ih ht)
  have hd : ∀ {l : List AV} {l' : List Value} (n : Nat), VRs θ l l' → VRs θ (l.drop n) (l'.drop n) := by
    intro l l' n h
    induction n generalizing l l' with
    | zero => simpa using h
    | succ n ih => cases h with
      | nil => simpa using VRs.nil
      | cons v v' vs vs' hv ht => simpa using ih ht
  unfold Exe.put
  rw [h1]
  exact (((ht o h).append hv).append (hd _ h))

theorem VR.cells {θ : Th} {v : AV} {v' : Value} (h : VR θ v v') : VRs θ v.cells v'.cells.toList := by
  cases h <;> simp only [AV.cells, Value.cells, List.toList_toArray] <;> first
    | assumption
    | exact .cons _ _ _ _ (by constructor <;> assumption) .nil

theorem VR.one {θ : Th} {v : AV} {v' : Value} (h : VR θ v v') (ho : v.one = true) : v'.oneCell' = true := by
  cases h <;> first | rfl | (simp [AV.one] at ho)

theorem VRs.one {θ : Th} : ∀ {l : List AV} {l' : List Value}, VRs θ l l' → allOne l = true → ∀ x ∈ l', Value.oneCell' x = true
  | _, _, .nil, _ => by simp
  | _, _, .cons v v' vs vs' hv ht, h => by
    simp only [allOne] at h
    split at h
    · rename_i h1
      intro x hx
      rcases List.mem_cons.1 hx with rfl | hx
      · exact hv.one h1
      · exact ht.one h x hx
    · cases h

/-! ### Values of the text -/
theorem absL_sound {θ : Th} {f : Value → Option AV} (hf : ∀ v x, f v = some x → VR θ x v) : ∀ (l : List Value) (r : List AV), absL f l = some r → VRs θ r l
  | [], r, h => by simp [absL] at h; subst h; exact .nil
  | v :: vs, r, h => by
    simp only [absL] at h
    split at h
    · cases h
    · rename_i x hx
      split at h
      · rename_i l hl
        simp only [Option.some.injEq] at h
        subst h
        exact .cons _ _ _ _ (hf _ _ hx) (absL_sound hf vs l hl)
      · cases h

theorem absV_sound {θ : Th} : ∀ (d : Nat) (v : Value) (x : AV), absV d v = some x → VR θ x v := by
  intro d
  induction d with
  | zero =>
    intro v x h
    cases v <;> (try (simp only [absV, Option.some.injEq, reduceCtorEq] at h)) <;> (try (subst h; constructor; done))
    case pointer a => cases a <;> (simp only [absV, Option.some.injEq, reduceCtorEq] at h); subst h; exact .ptrN
    case slice a l c =>
      cases a <;> simp only [absV, reduceCtorEq] at h
      split at h
      · rename_i hle; simp only [Option.some.injEq] at h; subst h; exact .sliceN _ _ _ (by have := Nat.le_of_ble_eq_true hle; omega)
      · cases h
    case map r => cases r <;> (simp only [absV, Option.some.injEq, reduceCtorEq] at h); subst h; exact .mapN
  | succ d ih =>
    intro v x h
    cases v <;> (try (simp only [absV, Option.some.injEq, reduceCtorEq] at h)) <;> (try (subst h; constructor; done))
    case pointer a => cases a <;> (simp only [absV, Option.some.injEq, reduceCtorEq] at h); subst h; exact .ptrN
    case slice a l c =>
      cases a <;> simp only [absV, reduceCtorEq] at h
      split at h
      · rename_i hle; simp only [Option.some.injEq] at h; subst h; exact .sliceN _ _ _ (by have := Nat.le_of_ble_eq_true hle; omega)
      · cases h
    case map r => cases r <;> (simp only [absV, Option.some.injEq, reduceCtorEq] at h); subst h; exact .mapN
    case agg cs =>
      split at h
      · rename_i l hl; simp only [Option.some.injEq] at h; subst h; exact VR.agg _ _ (absL_sound ih _ _ hl)
      · cases h
    case tuple cs =>
      split at h
      · rename_i l hl; simp only [Option.some.injEq] at h; subst h; exact VR.tuple _ _ (absL_sound ih _ _ hl)
      · cases h
end Go.Exe
