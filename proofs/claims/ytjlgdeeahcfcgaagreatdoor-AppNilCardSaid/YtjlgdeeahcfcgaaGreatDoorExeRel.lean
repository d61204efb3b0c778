/- The executor: how its data stand for the program's; the small lemmas. The executor: how its state stands for the program's. The executor: the operations that change nothing. -/
import Derived.Test.YtjlgdeeahcfcgaaGreatDoorExeDef
import Derived.Laws.World
import Derived.Below
import Derived.Laws.Sem
import Derived.Laws.Cells
import Derived.Laws.Rows
import Derived.Laws.StructEq
set_option linter.unusedVariables false
set_option linter.unusedSimpArgs false
namespace Go.Exe
set_option linter.unusedSectionVars false

theorem Tr.get_node {α : Type} (l : Tr α) (v : Option α) (r : Tr α) (n : Nat) : (Tr.node l v r).get n = match n with
    | 0 => v
    | m + 1 => match m % 2 with
      | 0 => l.get (m / 2)
      | _ + 1 => r.get (m / 2) := by
  cases n <;> rfl

theorem Tr.get_nil {α : Type} (n : Nat) : (Tr.nil : Tr α).get n = none := rfl

theorem Tr.get_put {α : Type} : ∀ (f : Nat) (t : Tr α) (n : Nat) (x : Option α) (m : Nat), n < f → (Tr.put f t n x).get m = if m = n then x else t.get m := by
  intro f
  induction f with
  | zero => intro t n x m h; omega
  | succ f ih =>
    intro t n x m h
    cases t with
    | nil =>
      cases n with
      | zero =>
        cases m with
        | zero => simp [Tr.put, Tr.get_node]
        | succ m => simp only [Tr.put, Tr.get_node, Tr.get_nil]; rw [if_neg (by omega)]; split <;> rfl
      | succ n =>
        rcases Nat.mod_two_eq_zero_or_one n with hn | hn
        · simp only [Tr.put, hn]
          cases m with
          | zero => simp [Tr.get_node, Tr.get_nil]
          | succ m =>
            simp only [Tr.get_node, Tr.get_nil]
            rcases Nat.mod_two_eq_zero_or_one m with hm | hm
            · simp only [hm]; rw [ih _ _ _ _ (by omega)]
              by_cases e : m = n
              · subst e; simp
              · rw [if_neg (by omega), if_neg (by omega)]; rfl
            · simp only [hm]; rw [if_neg (by omega)]
        · simp only [Tr.put, hn]
          cases m with
          | zero => simp [Tr.get_node, Tr.get_nil]
          | succ m =>
            simp only [Tr.get_node, Tr.get_nil]
            rcases Nat.mod_two_eq_zero_or_one m with hm | hm
            · simp only [hm]; rw [if_neg (by omega)]
            · simp only [hm]; rw [ih _ _ _ _ (by omega)]
              by_cases e : m = n
              · subst e; simp
              · rw [if_neg (by omega), if_neg (by omega)]; rfl
    | node l v r =>
      cases n with
      | zero =>
        cases m with
        | zero => simp [Tr.put, Tr.get_node]
        | succ m => simp only [Tr.put, Tr.get_node]; rw [if_neg (by omega)]
      | succ n =>
        rcases Nat.mod_two_eq_zero_or_one n with hn | hn
        · simp only [Tr.put, hn]
          cases m with
          | zero => simp [Tr.get_node]
          | succ m =>
            simp only [Tr.get_node]
            rcases Nat.mod_two_eq_zero_or_one m with hm | hm
            · simp only [hm]; rw [ih _ _ _ _ (by omega)]
              by_cases e : m = n
              · subst e; simp
              · rw [if_neg (by omega), if_neg (by omega)]
            · simp only [hm]; rw [if_neg (by omega)]
        · simp only [Tr.put, hn]
          cases m with
          | zero => simp [Tr.get_node]
          | succ m =>
            simp only [Tr.get_node]
            rcases Nat.mod_two_eq_zero_or_one m with hm | hm
            · simp only [hm]; rw [if_neg (by omega)]
            · simp only [hm]; rw [ih _ _ _ _ (by omega)]
              by_cases e : m = n
              · subst e; simp
              · rw [if_neg (by omega), if_neg (by omega)]

theorem Tr.putK_eq {α β : Type} : ∀ (f : Nat) (t : Tr α) (n : Nat) (x : Option α) (k : Tr α → β), Tr.putK f t n x k = k (Tr.put f t n x) := by
  intro f
  induction f with
  | zero => intros; rfl
  | succ f ih =>
    intro t n x k
    cases t with
    | nil =>
      cases n with
      | zero => rfl
      | succ n => rcases Nat.mod_two_eq_zero_or_one n with hn | hn <;> simp only [Tr.putK, Tr.put, hn, ih]
    | node l v r =>
      cases n with
      | zero => rfl
      | succ n => rcases Nat.mod_two_eq_zero_or_one n with hn | hn <;> simp only [Tr.putK, Tr.put, hn, ih]

section
variable {α β : Type}
theorem fN_eq (n : Nat) (k : Nat → α) : fN n k = k n := by cases n <;> rfl
theorem fI_eq (n : Int) (k : Int → α) : fI n k = k n := by cases n <;> simp [fI, fN_eq]
theorem fB_eq (b : Bool) (k : Bool → α) : fB b k = k b := by cases b <;> rfl
theorem fO_eq (f : β → (β → α) → α) (hf : ∀ x k, f x k = k x) (o : Option β) (k : Option β → α) : fO f o k = k o := by
  cases o <;> simp [fO, hf]
theorem turnK_eq : ∀ (l out : List β) (k : List β → α), turnK l out k = k (l.reverse ++ out)
  | [], _, _ => rfl
  | x :: xs, out, k => by simp [turnK, turnK_eq xs]
theorem gatherK_eq (f : β → (β → α) → α) (hf : ∀ x k, f x k = k x) : ∀ (l acc : List β) (k : List β → α), gatherK f l acc k = k (acc.reverse ++ l)
  | [], _, _ => by simp [gatherK, turnK_eq]
  | x :: xs, acc, k => by simp [gatherK, hf, gatherK_eq f hf xs]
theorem fL_eq (f : β → (β → α) → α) (hf : ∀ x k, f x k = k x) (l : List β) (k : List β → α) : fL f l k = k l := by simp [fL, gatherK_eq f hf]
theorem fP_eq (p : Nat × Nat) (k : Nat × Nat → α) : fP p k = k p := by cases p; simp [fP, fN_eq]
theorem fV_eq : ∀ (d : Nat) (v : AV) (k : AV → α), fV d v k = k v
  | 0, _, _ => rfl
  | d + 1, v, k => by
    cases v <;> simp [fV, fB_eq, fI_eq, fN_eq, fL_eq fN fN_eq, fO_eq fP fP_eq, fO_eq fN fN_eq, fL_eq (fV d) (fV_eq d), fV_eq d]
theorem fQ_eq (v : AV) (k : AV → α) : fQ v k = k v := by
  cases v <;> simp [fQ, fB_eq, fI_eq, fN_eq, fO_eq fP fP_eq, fO_eq fN fN_eq]
theorem fW_eq (v : AV) (k : AV → α) : fW v k = k v := by
  cases v <;> simp [fW, fQ_eq, fL_eq fQ fQ_eq]
theorem fX_eq (q : Bool) (v : AV) (k : AV → α) : fX q v k = k v := by
  cases q <;> simp [fX, fV_eq, fW_eq]
theorem fE_eq (e : AV × AV × Nat) (k : AV × AV × Nat → α) : fE e k = k e := by obtain ⟨a, b, n⟩ := e; simp [fE, fQ_eq, fN_eq]
theorem fObj_eq (o : AObj) (k : AObj → α) : fObj o k = k o := by
  cases o <;> simp [fObj, fL_eq fQ fQ_eq, fL_eq fE fE_eq, fN_eq, fO_eq fP fP_eq]
end

/-- Names to blocks; what more room there is behind a slice than is known. -/
structure Th where
  blk : Nat → Option Nat
  ext : Nat → Option Nat

structure Th.Le (a b : Th) : Prop where
  blk : ∀ n x, a.blk n = some x → b.blk n = some x
  ext : ∀ n x, a.ext n = some x → b.ext n = some x

theorem Th.Le.refl (a : Th) : a.Le a := ⟨fun _ _ h => h, fun _ _ h => h⟩
theorem Th.Le.trans {a b c : Th} (h : a.Le b) (k : b.Le c) : a.Le c := ⟨fun _ _ x => k.blk _ _ (h.blk _ _ x), fun _ _ x => k.ext _ _ (h.ext _ _ x)⟩

/-- The values that are open: they are handed on, and of each some facts are known. -/
class Opn where
  val : Nat → Value
variable [Opn]

def opnV : Value → Bool
  | .string _ => true
  | .int _ _ => true
  | .slice _ _ _ => true
  | _ => false

def toNats (s : ByteArray) : List Nat := s.data.toList.map UInt8.toNat

def FactOk (v : Value) : AV → Prop
  | .nilFunc => ∃ s, v = .string s
  | .tuple [.str l, .bool b] => ∃ s, v = .string s ∧ decide (toNats s = l) = b
  | .tuple [.int k c, .bool e, .bool l, .bool g] => ∃ n, v = .int k n ∧ decide (n = c) = e ∧ decide (n < c) = l ∧ decide (c < n) = g
  | _ => True

/-- The bytes of pieces that are known or open, one behind the other. -/
def RopeOk : List AV → List Nat → Prop
  | [], l => l = []
  | p :: ps, l => match p with
    | .str a => ∃ r, l = a ++ r ∧ RopeOk ps r
    | .func (.yield t) [] [] => ∃ s r, Opn.val t = .string s ∧ l = toNats s ++ r ∧ RopeOk ps r
    | _ => False

theorem RopeOk.fun : ∀ {ps : List AV} {l m : List Nat}, RopeOk ps l → RopeOk ps m → l = m
  | [], _, _, h, k => by simp only [RopeOk] at h k; rw [h, k]
  | p :: ps, l, m, h, k => by
    simp only [RopeOk] at h k
    split at h
    · obtain ⟨r, rfl, h⟩ := h
      obtain ⟨r', rfl, k⟩ := k
      rw [RopeOk.fun h k]
    · obtain ⟨s, r, h1, rfl, h⟩ := h
      obtain ⟨s', r', h1', rfl, k⟩ := k
      rw [h1] at h1'
      cases h1'
      rw [RopeOk.fun h k]
    · cases h

theorem RopeOk.append : ∀ {ps qs : List AV} {l m : List Nat}, RopeOk ps l → RopeOk qs m → RopeOk (ps ++ qs) (l ++ m)
  | [], qs, l, m, h, k => by simp only [RopeOk] at h; subst h; exact k
  | p :: ps, qs, l, m, h, k => by
    simp only [RopeOk, List.cons_append] at h ⊢
    split at h
    · obtain ⟨r, rfl, h⟩ := h
      exact ⟨r ++ m, by simp, h.append k⟩
    · obtain ⟨s, r, h1, rfl, h⟩ := h
      exact ⟨s, r ++ m, h1, by simp, h.append k⟩
    · cases h

theorem toNats_inj {a b : ByteArray} (h : toNats a = toNats b) : a = b := by
  have h1 : a.data.toList = b.data.toList := (List.map_inj_right (fun _ _ hxy => UInt8.toNat_inj.1 hxy)).1 h
  apply ByteArray.ext
  exact Array.toList_inj.1 h1

theorem RopeOk.one (l : List Nat) : RopeOk [.str l] l := by simp only [RopeOk]; exact ⟨[], by simp, rfl⟩

mutual
inductive VR (θ : Th) : AV → Value → Prop where
  | bool (b : Bool) : VR θ (.bool b) (.bool b)
  | int (k : IntKind) (n : Int) : VR θ (.int k n) (.int k n)
  | str (s : ByteArray) : VR θ (.str (s.data.toList.map UInt8.toNat)) (.string s)
  | ptrN : VR θ (.ptr none) (.pointer none)
  | ptr (n o b : Nat) : θ.blk n = some b → VR θ (.ptr (some (n, o))) (.pointer (some ⟨b, o, none⟩))
  | sliceN (l r c : Nat) : c = l + r → VR θ (.slice none l r none) (.slice none l c)
  | slice (n o b l r c : Nat) : c = l + r → θ.blk n = some b → VR θ (.slice (some (n, o)) l r none) (.slice (some ⟨b, o, none⟩) l c)
  | sliceS (n o b l r s x c : Nat) : c = l + r + x → θ.blk n = some b → θ.ext s = some x → VR θ (.slice (some (n, o)) l r (some s)) (.slice (some ⟨b, o, none⟩) l c)
  | slice0 (n o s : Nat) (a : Addr) : VR θ (.slice (some (n, o)) 0 0 (some s)) (.slice (some a) 0 0)
  | mapN : VR θ (.map none) (.map none)
  | map (n b : Nat) : θ.blk n = some b → VR θ (.map (some n)) (.map (some b))
  | func (fn : Fn) (a c : List AV) (a' c' : List Value) : plainFn fn = true → VRs θ a a' → VRs θ c c' → VR θ (.func fn a c) (.func fn a'.toArray c'.toArray)
  | nilFunc : VR θ .nilFunc .nilFunc
  | iface (t : TypeId) (v : AV) (v' : Value) : VR θ v v' → VR θ (.iface t v) (.iface t v')
  | nilIface : VR θ .nilIface .nilIface
  | agg (cs : List AV) (cs' : List Value) : VRs θ cs cs' → VR θ (.agg cs) (.agg cs'.toArray)
  | tuple (cs : List AV) (cs' : List Value) : VRs θ cs cs' → VR θ (.tuple cs) (.tuple cs'.toArray)
  | opn (t : Nat) (fs : List AV) (v : Value) : Opn.val t = v → opnV v = true → (∀ f ∈ fs, FactOk v f) → VR θ (.func (.yield t) fs []) v
  | anyS (n : Nat) (s : ByteArray) : s.size ≤ n → VR θ (.func (.yield n) [] [.nilFunc]) (.string s)
  | rope (n : Nat) (ps : List AV) (s : ByteArray) : s.size = n → RopeOk ps (toNats s) → VR θ (.func (.yield n) [] [.nilFunc, .tuple ps]) (.string s)
inductive VRs (θ : Th) : List AV → List Value → Prop where
  | nil : VRs θ [] []
  | cons (v : AV) (v' : Value) (vs : List AV) (vs' : List Value) : VR θ v v' → VRs θ vs vs' → VRs θ (v :: vs) (v' :: vs')
end

mutual
theorem VR.mono {θ θ' : Th} (h : θ.Le θ') : ∀ {v : AV} {v' : Value}, VR θ v v' → VR θ' v v'
  | _, _, .bool b => .bool b
  | _, _, .int k n => .int k n
  | _, _, .str s => .str s
  | _, _, .ptrN => .ptrN
  | _, _, .ptr n o b hb => .ptr n o b (h.blk _ _ hb)
  | _, _, .sliceN l r c e => .sliceN l r c e
  | _, _, .slice n o b l r c e hb => .slice n o b l r c e (h.blk _ _ hb)
  | _, _, .sliceS n o b l r s x c e hb hx => .sliceS n o b l r s x c e (h.blk _ _ hb) (h.ext _ _ hx)
  | _, _, .slice0 n o s a => .slice0 n o s a
  | _, _, .mapN => .mapN
  | _, _, .map n b hb => .map n b (h.blk _ _ hb)
  | _, _, .func fn a c a' c' hp h1 h2 => .func fn a c a' c' hp (h1.mono h) (h2.mono h)
  | _, _, .nilFunc => .nilFunc
  | _, _, .iface t v v' h1 => .iface t v v' (h1.mono h)
  | _, _, .nilIface => .nilIface
  | _, _, .agg cs cs' h1 => .agg cs cs' (h1.mono h)
  | _, _, .tuple cs cs' h1 => .tuple cs cs' (h1.mono h)
  | _, _, .opn t fs v h1 h2 h3 => .opn t fs v h1 h2 h3
  | _, _, .anyS n s h1 => .anyS n s h1
  | _, _, .rope n ps s h1 h2 => .rope n ps s h1 h2
theorem VRs.mono {θ θ' : Th} (h : θ.Le θ') : ∀ {v : List AV} {v' : List Value}, VRs θ v v' → VRs θ' v v'
  | _, _, .nil => .nil
  | _, _, .cons v v' vs vs' h1 h2 => .cons v v' vs vs' (h1.mono h) (h2.mono h)
end

theorem VRs.length {θ : Th} : ∀ {l : List AV} {l' : List Value}, VRs θ l l' → l'.length = l.length
  | _, _, .nil => rfl
  | _, _, .cons _ _ _ _ _ h => by simp [h.length]

theorem VRs.get {θ : Th} : ∀ {l : List AV} {l' : List Value} {i : Nat} {v : AV}, VRs θ l l' → listGet l i = some v → ∃ v', l'[i]? = some v' ∧ VR θ v v'
  | _, _, _, _, .nil, h => by simp [listGet] at h
  | _, _, 0, _, .cons v v' _ _ hv _, h => by simp [listGet] at h; subst h; exact ⟨v', rfl, hv⟩
  | _, _, i + 1, _, .cons _ _ _ _ _ ht, h => by
    simp only [listGet] at h
    obtain ⟨v', h1, h2⟩ := ht.get h
    exact ⟨v', by simpa using h1, h2⟩

theorem VRs.append {θ : Th} : ∀ {l : List AV} {l' : List Value} {m : List AV} {m' : List Value}, VRs θ l l' → VRs θ m m' → VRs θ (l ++ m) (l' ++ m')
  | _, _, _, _, .nil, h => h
  | _, _, _, _, .cons v v' vs vs' hv ht, h => .cons v v' _ _ hv (ht.append h)

theorem VRs.drop {θ : Th} : ∀ {l : List AV} {l' : List Value} (n : Nat), VRs θ l l' → VRs θ (drop l n) (l'.drop n)
  | _, _, 0, h => by cases h <;> (simp only [Exe.drop, List.drop_zero]; constructor <;> assumption)
  | _, _, n + 1, .nil => by simp only [Exe.drop, List.drop_nil]; exact .nil
  | _, _, n + 1, .cons _ _ _ _ _ ht => by simp only [Exe.drop, List.drop_succ_cons]; exact ht.drop n

theorem VRs.take {θ : Th} : ∀ {l : List AV} {l' : List Value} {n : Nat} {r : List AV}, VRs θ l l' → take l n = some r → VRs θ r (l'.take n) ∧ n ≤ l'.length
  | _, _, 0, _, _, h => by simp only [Exe.take, Option.some.injEq] at h; subst h; simp; exact .nil
  | _, _, n + 1, _, .nil, h => by simp [Exe.take] at h
  | _, _, n + 1, _, .cons v v' vs vs' hv ht, h => by
    simp only [Exe.take] at h
    split at h
    · rename_i l hl
      simp only [Option.some.injEq] at h
      subst h
      obtain ⟨h1, h2⟩ := ht.take hl
      exact ⟨by simpa using VRs.cons v v' _ _ hv h1, by simpa using h2⟩
    · cases h

theorem VRs.cut {θ : Th} {l : List AV} {l' : List Value} {o n : Nat} {r : List AV} (h : VRs θ l l') (hc : cut l o n = some r) : VRs θ r ((l'.drop o).take n) ∧ o + n ≤ l'.length ∨ (n = 0 ∧ r = []) := by
  unfold Exe.cut at hc
  obtain ⟨h1, h2⟩ := (h.drop o).take hc
  simp only [List.length_drop] at h2
  cases n with
  | zero => right; simp [Exe.take] at hc; exact ⟨rfl, hc⟩
  | succ n => left; exact ⟨h1, by omega⟩

theorem over_length {α : Type} : ∀ {cs vs l : List α}, over cs vs = some l → l.length = cs.length ∧ vs.length ≤ cs.length
  | cs, [], l, h => by cases cs <;> (simp only [over, Option.some.injEq] at h; subst h; simp)
  | [], _ :: _, _, h => by simp [over] at h
  | c :: cs, v :: vs, l, h => by
    simp only [over] at h
    split at h
    · rename_i l' hl
      simp only [Option.some.injEq] at h
      subst h
      have := over_length hl
      simp; omega
    · cases h

/-- Cells put over cells. -/
def put {α : Type} (cs : List α) (o : Nat) (vs : List α) : List α := cs.take o ++ vs ++ cs.drop (o + vs.length)

theorem over_eq {α : Type} : ∀ {cs vs l : List α}, over cs vs = some l → l = vs ++ cs.drop vs.length
  | cs, [], l, h => by cases cs <;> (simp only [over, Option.some.injEq] at h; subst h; simp)
  | [], _ :: _, _, h => by simp [over] at h
  | c :: cs, v :: vs, l, h => by
    simp only [over] at h
    split at h
    · rename_i l' hl
      simp only [Option.some.injEq] at h
      subst h
      simp [over_eq hl]
    · cases h

theorem lay_eq {α : Type} : ∀ {o : Nat} {cs vs l : List α}, lay cs o vs = some l → l = put cs o vs ∧ o + vs.length ≤ cs.length
  | 0, cs, vs, l, h => by
    simp only [lay] at h
    have := over_length h
    exact ⟨by simp [put, over_eq h], by omega⟩
  | o + 1, [], _, l, h => by simp [lay] at h
  | o + 1, c :: cs, vs, l, h => by
    simp only [lay] at h
    split at h
    · rename_i l' hl
      simp only [Option.some.injEq] at h
      subst h
      obtain ⟨rfl, h2⟩ := lay_eq hl
      exact ⟨by simp [put, Nat.add_right_comm], by simp; omega⟩
    · cases h

theorem VRs.put {θ : Th} {l : List AV} {l' : List Value} {o : Nat} {vs : List AV} {vs' : List Value} (h : VRs θ l l') (hv : VRs θ vs vs') (ho : o + vs.length ≤ l.length) :
    VRs θ (put l o vs) (Exe.put l' o vs') := by
  have h0 := h.length
  have h1 := hv.length
  have ht : ∀ {l : List AV} {l' : List Value} (n : Nat), VRs θ l l' → VRs θ (l.take n) (l'.take n) := by
    intro l l' n h
    induction n generalizing l l' with
    | zero => simpa using VRs.nil
    | succ n ih => cases h with
      | nil => simpa using VRs.nil
      | cons v v' vs vs' hv ht => simpa using VRs.cons _ _ _ _ hv (ih ht)
  have hd : ∀ {l : List AV} {l' : List Value} (n : Nat), VRs θ l l' → VRs θ (l.drop n) (l'.drop n) := by
    intro l l' n h
    induction n generalizing l l' with
    | zero => simpa using h
    | succ n ih => cases h with
      | nil => simpa using VRs.nil
      | cons v v' vs vs' hv ht => simpa using ih ht
  unfold Exe.put
  rw [h1]
  exact (((ht o h).append hv).append (hd _ h))

theorem opnV_one {v : Value} (h : opnV v = true) : v.oneCell' = true ∧ v.cells = #[v] := by
  cases v <;> first | exact ⟨rfl, rfl⟩ | (simp [opnV] at h)

theorem VR.cells {θ : Th} {v : AV} {v' : Value} (h : VR θ v v') : VRs θ v.cells v'.cells.toList := by
  cases h
  case opn h1 h2 h3 => rw [(opnV_one h2).2]; exact .cons _ _ _ _ (.opn _ _ _ h1 h2 h3) .nil
  case anyS h1 => exact .cons _ _ _ _ (.anyS _ _ h1) .nil
  case rope h1 h2 => exact .cons _ _ _ _ (.rope _ _ _ h1 h2) .nil
  case func h1 h2 h3 => exact .cons _ _ _ _ (.func _ _ _ _ _ h1 h2 h3) .nil
  all_goals
    simp only [AV.cells, Value.cells, List.toList_toArray]
    first
      | assumption
      | exact .cons _ _ _ _ (by constructor <;> assumption) .nil

theorem VR.one {θ : Th} {v : AV} {v' : Value} (h : VR θ v v') (ho : v.one = true) : v'.oneCell' = true := by
  cases h <;> first | rfl | (simp [AV.one] at ho; done) | exact (opnV_one ‹_›).1

theorem VRs.one {θ : Th} : ∀ {l : List AV} {l' : List Value}, VRs θ l l' → allOne l = true → ∀ x ∈ l', Value.oneCell' x = true
  | _, _, .nil, _ => by simp
  | _, _, .cons v v' vs vs' hv ht, h => by
    simp only [allOne] at h
    split at h
    · rename_i h1
      intro x hx
      rcases List.mem_cons.1 hx with rfl | hx
      · exact hv.one h1
      · exact ht.one h x hx
    · cases h

/-! ### Values of the text -/
theorem absL_sound {θ : Th} {f : Value → Option AV} (hf : ∀ v x, f v = some x → VR θ x v) : ∀ (l : List Value) (r : List AV), absL f l = some r → VRs θ r l
  | [], r, h => by simp [absL] at h; subst h; exact .nil
  | v :: vs, r, h => by
    simp only [absL] at h
    split at h
    · cases h
    · rename_i x hx
      split at h
      · rename_i l hl
        simp only [Option.some.injEq] at h
        subst h
        exact .cons _ _ _ _ (hf _ _ hx) (absL_sound hf vs l hl)
      · cases h

theorem absV_sound {θ : Th} : ∀ (d : Nat) (v : Value) (x : AV), absV d v = some x → VR θ x v := by
  intro d
  induction d with
  | zero =>
    intro v x h
    cases v <;> (try (simp only [absV, Option.some.injEq, reduceCtorEq] at h)) <;> (try (subst h; constructor; done))
    case pointer a => cases a <;> (simp only [absV, Option.some.injEq, reduceCtorEq] at h); subst h; exact .ptrN
    case slice a l c =>
      cases a <;> simp only [absV, reduceCtorEq] at h
      split at h
      · rename_i hle; simp only [Option.some.injEq] at h; subst h; exact .sliceN _ _ _ (by have := Nat.le_of_ble_eq_true hle; omega)
      · cases h
    case map r => cases r <;> (simp only [absV, Option.some.injEq, reduceCtorEq] at h); subst h; exact .mapN
  | succ d ih =>
    intro v x h
    cases v <;> (try (simp only [absV, Option.some.injEq, reduceCtorEq] at h)) <;> (try (subst h; constructor; done))
    case pointer a => cases a <;> (simp only [absV, Option.some.injEq, reduceCtorEq] at h); subst h; exact .ptrN
    case slice a l c =>
      cases a <;> simp only [absV, reduceCtorEq] at h
      split at h
      · rename_i hle; simp only [Option.some.injEq] at h; subst h; exact .sliceN _ _ _ (by have := Nat.le_of_ble_eq_true hle; omega)
      · cases h
    case map r => cases r <;> (simp only [absV, Option.some.injEq, reduceCtorEq] at h); subst h; exact .mapN
    case agg cs =>
      split at h
      · rename_i l hl; simp only [Option.some.injEq] at h; subst h; exact VR.agg _ _ (absL_sound ih _ _ hl)
      · cases h
    case tuple cs =>
      split at h
      · rename_i l hl; simp only [Option.some.injEq] at h; subst h; exact VR.tuple _ _ (absL_sound ih _ _ hl)
      · cases h
end Go.Exe
namespace Go.Exe
set_option linter.unusedSectionVars false
variable [Opn]
open Go.RowKit

inductive ERs (θ : Th) : List (AV × AV × Nat) → List MapEntry → Prop where
  | nil : ERs θ [] []
  | cons (k v : AV) (n : Nat) (k' v' : Value) (es : List (AV × AV × Nat)) (es' : List MapEntry) : VR θ k k' → VR θ v v' → ERs θ es es' → ERs θ ((k, v, n) :: es) (⟨k', v', n⟩ :: es')

theorem ERs.mono {θ θ' : Th} (h : θ.Le θ') : ∀ {l : List (AV × AV × Nat)} {l' : List MapEntry}, ERs θ l l' → ERs θ' l l'
  | _, _, .nil => .nil
  | _, _, .cons _ _ _ _ _ _ _ h1 h2 h3 => .cons _ _ _ _ _ _ _ (h1.mono h) (h2.mono h) (h3.mono h)

theorem ERs.length {θ : Th} : ∀ {l : List (AV × AV × Nat)} {l' : List MapEntry}, ERs θ l l' → l'.length = l.length
  | _, _, .nil => rfl
  | _, _, .cons _ _ _ _ _ _ _ _ _ h => by simp [h.length]

theorem ERs.append {θ : Th} : ∀ {l : List (AV × AV × Nat)} {l' : List MapEntry} {m : List (AV × AV × Nat)} {m' : List MapEntry}, ERs θ l l' → ERs θ m m' → ERs θ (l ++ m) (l' ++ m')
  | _, _, _, _, .nil, h => h
  | _, _, _, _, .cons _ _ _ _ _ _ _ h1 h2 h3, h => .cons _ _ _ _ _ _ _ h1 h2 (h3.append h)

/-- No cell of it is shared with a string. -/
def Loose : Obj → Prop
  | .cells c _ (lo, hi) => lo = hi ∨ c.size ≤ lo
  | _ => True

/-- The same entries, in another order, at other times. -/
def Like (es es2 : List (AV × AV × Nat)) : Prop := (es.map fun e => (e.1, e.2.1)).Perm (es2.map fun e => (e.1, e.2.1))

def OR (θ : Th) : AObj → Obj → Prop
  | .cells cs e m, .cells c e' _ => e' = e ∧ ∃ pre rest, c.toList = pre ++ rest ∧ VRs θ cs pre ∧ ∀ s z, m = some (s, z) → ∃ x, θ.ext s = some x ∧ rest.length = x * z
  | .map es k, .map es' k' => k' = k ∧ ERs θ es es'.toList
  | .stiff cs e, .cells c e' _ => e' = e ∧ ∃ pre rest, c.toList = pre ++ rest ∧ VRs θ cs pre
  | .look es, .map es' _ => ∃ es2, Like es es2 ∧ ERs θ es2 es'.toList
  | _, _ => False

/-- What is written may be shared with no string. -/
def LooseO : AObj → Obj → Prop
  | .stiff _ _, _ => True
  | _, ob => Loose ob
theorem Loose.o {ob : Obj} (h : Loose ob) (o : AObj) : LooseO o ob := by cases o <;> first | exact h | trivial

theorem OR.mono {θ θ' : Th} (h : θ.Le θ') {o : AObj} {o' : Obj} (k : OR θ o o') : OR θ' o o' := by
  cases o <;> cases o' <;> simp only [OR] at k ⊢
  · obtain ⟨h1, pre, rest, h2, h3, h4⟩ := k; exact ⟨h1, pre, rest, h2, h3.mono h, fun s z e => let ⟨x, h5, h6⟩ := h4 s z e; ⟨x, h.ext _ _ h5, h6⟩⟩
  · exact ⟨k.1, k.2.mono h⟩
  · obtain ⟨h1, pre, rest, h2, h3⟩ := k; exact ⟨h1, pre, rest, h2, h3.mono h⟩
  · obtain ⟨es2, h1, h2⟩ := k; exact ⟨es2, h1, h2.mono h⟩

structure HR (θ : Th) (B : Nat) (h : Nat → Option AObj) (w : World) : Prop where
  obj : ∀ n o, h n = some o → ∃ b ob, θ.blk n = some b ∧ w.heap[b]? = some ob ∧ OR θ o ob ∧ (64 ≤ n → B ≤ b ∧ LooseO o ob)
  inj : ∀ n m b, 64 ≤ n → h n ≠ none → h m ≠ none → θ.blk n = some b → θ.blk m = some b → n = m

structure SR (θ : Th) (B : Nat) (S : St) (w : World) : Prop where
  hr : HR θ B S.heap.get w
  next : ∀ n, S.next ≤ n → θ.blk n = none
  syms : ∀ n, S.syms ≤ n → θ.ext n = none
  base : 64 ≤ S.next
  glob : ∀ g, g < 64 → θ.blk g = some g
  size : B ≤ w.heap.size

/-- What is under way leaves alone all that the state does not own. -/
structure Ext (θ : Th) (S : St) (w : World) (θ' : Th) (S' : St) (w' : World) : Prop where
  le : θ.Le θ'
  os : w'.os = w.os
  tape : w'.tape = w.tape
  output : w'.output = w.output
  size : w.heap.size ≤ w'.heap.size
  keep : ∀ b, b < w.heap.size → (∀ n, 64 ≤ n → S.heap.get n ≠ none → θ.blk n ≠ some b) → w'.heap[b]? = w.heap[b]?
  own : ∀ n b, 64 ≤ n → S'.heap.get n ≠ none → θ'.blk n = some b → b < w.heap.size → ∃ m, 64 ≤ m ∧ S.heap.get m ≠ none ∧ θ.blk m = some b
  next : S.next ≤ S'.next
  old : ∀ m, m < S.next → θ'.blk m = θ.blk m

theorem Ext.refl (θ : Th) (S : St) (w : World) : Ext θ S w θ S w :=
  ⟨.refl _, rfl, rfl, rfl, Nat.le_refl _, fun _ _ _ => rfl, fun n _ h1 h2 h3 _ => ⟨n, h1, h2, h3⟩, Nat.le_refl _, fun _ _ => rfl⟩

theorem Ext.trans {θ θ' θ'' : Th} {S S' S'' : St} {w w' w'' : World} (a : Ext θ S w θ' S' w') (b : Ext θ' S' w' θ'' S'' w'') : Ext θ S w θ'' S'' w'' := by
  refine ⟨a.le.trans b.le, b.os.trans a.os, b.tape.trans a.tape, b.output.trans a.output, Nat.le_trans a.size b.size, fun k hk hn => ?_, fun n k h1 h2 h3 h4 => ?_, Nat.le_trans a.next b.next, fun m hm => (b.old m (Nat.lt_of_lt_of_le hm a.next)).trans (a.old m hm)⟩
  · rw [b.keep k (Nat.lt_of_lt_of_le hk a.size) ?_, a.keep k hk hn]
    intro n h1 h2 h3
    obtain ⟨m, h4, h5, h6⟩ := a.own n k h1 h2 h3 hk
    exact hn m h4 h5 h6
  · obtain ⟨m, h5, h6, h7⟩ := b.own n k h1 h2 h3 (Nat.lt_of_lt_of_le h4 a.size)
    exact a.own m k h5 h6 h7 h4

theorem Ext.below {θ θ' : Th} {S S' : St} {w w' : World} {B : Nat} (a : Ext θ S w θ' S' w') (hr : SR θ B S w) : Below B w w' :=
  ⟨a.os, a.tape, a.output, a.size, fun k hk => a.keep k (Nat.lt_of_lt_of_le hk hr.size) fun n h1 h2 h3 => by
    cases ho : S.heap.get n with
    | none => exact h2 ho
    | some o =>
      obtain ⟨b, ob, hb, _, _, h4⟩ := hr.hr.obj n o ho
      have := (h4 h1).1
      rw [h3] at hb
      cases hb
      omega⟩

/-- The frame's slots. -/
structure TR (θ : Th) (nt : Nat) (T : Tr AV) (a : Act) : Prop where
  get : ∀ t, VR θ ((T.get t).getD undefA) (a.tmps.getD t undef)
  size : nt ≤ a.tmps.size

theorem VR.undef {θ : Th} : VR θ undefA Go.undef := VR.tuple [] [] .nil

theorem TR.mono {θ θ' : Th} {nt : Nat} {T : Tr AV} {a : Act} (h : θ.Le θ') (k : TR θ nt T a) : TR θ' nt T a := ⟨fun t => (k.get t).mono h, k.size⟩

theorem putT_eq {q : Bool} {nt : Nat} {T T' : Tr AV} {d : Option Tmp} {v : AV} (h : putT q nt T d v = some T') :
    (d = none ∧ T' = T) ∨ ∃ t, d = some t ∧ t < nt ∧ ∀ m, T'.get m = if m = t then some v else T.get m := by
  cases d with
  | none => simp only [putT, Option.some.injEq] at h; exact .inl ⟨rfl, h.symm⟩
  | some t =>
    simp only [putT] at h
    split at h
    · rename_i hle
      rw [fX_eq, Tr.putK_eq] at h
      simp only [Option.some.injEq] at h
      subst h
      exact .inr ⟨t, rfl, Nat.le_of_ble_eq_true hle, fun m => Tr.get_put _ _ _ _ _ (Nat.lt_succ_self t)⟩
    · cases h

theorem TR.put {q : Bool} {θ : Th} {nt : Nat} {T T' : Tr AV} {a : Act} {d : Option Tmp} {v : AV} {v' : Value} (k : TR θ nt T a) (h : putT q nt T d v = some T') (hv : VR θ v v') : TR θ nt T' (a.put d v') := by
  rcases putT_eq h with ⟨rfl, rfl⟩ | ⟨t, rfl, ht, hg⟩
  · exact k
  · refine ⟨fun m => ?_, by simpa [Act.put] using k.size⟩
    rw [hg m]
    have := k.size
    by_cases e : m = t
    · subst e
      simp only [if_pos]
      have : (a.put (some m) v').tmps.getD m Go.undef = v' := by
        simp only [Act.put, Array.getD_eq_getD_getElem?, Array.getElem?_setIfInBounds]
        simp; rw [if_pos (Nat.lt_of_lt_of_le ht k.size)]; rfl
      rw [this]
      exact hv
    · rw [if_neg e]
      have : (a.put (some t) v').tmps.getD m Go.undef = a.tmps.getD m Go.undef := by
        simp only [Act.put, Array.getD_eq_getD_getElem?, Array.getElem?_setIfInBounds]
        rw [if_neg (fun h => e h.symm)]
      rw [this]
      exact k.get m

theorem ev_sound {θ : Th} {nt : Nat} {T : Tr AV} {a : Act} {o : Operand} {v : AV} (k : TR θ nt T a) (hg : ∀ g, g < 64 → θ.blk g = some g) (h : ev T o = some v) : VR θ v (a.eval o) := by
  cases o with
  | tmp t =>
    have := k.get t
    simp only [ev] at h
    split at h
    · rename_i x hx
      simp only [Option.some.injEq] at h
      subst h
      rw [hx] at this
      exact this
    · rename_i hx
      simp only [Option.some.injEq] at h
      subst h
      rw [hx] at this
      exact this
  | const v => exact absV_sound _ _ _ h
  | global g =>
    simp only [ev] at h
    split at h
    · cases h
    · rename_i hle
      simp only [Option.some.injEq] at h
      subst h
      exact .ptr _ _ _ (hg g (by
        rcases Nat.lt_or_ge g 64 with h | h
        · exact h
        · rw [Nat.ble_eq_true_of_le h] at hle; cases hle))
  | func f => simp only [ev, Option.some.injEq] at h; subst h; exact .func _ _ _ [] [] rfl .nil .nil

theorem evs_sound {θ : Th} {nt : Nat} {T : Tr AV} {a : Act} (k : TR θ nt T a) (hg : ∀ g, g < 64 → θ.blk g = some g) : ∀ (os : List Operand) (l : List AV), evs T os = some l → VRs θ l (os.map a.eval)
  | [], l, h => by simp only [evs, Option.some.injEq] at h; subst h; exact .nil
  | o :: os, l, h => by
    simp only [evs] at h
    split at h
    · cases h
    · rename_i x hx
      split at h
      · rename_i l' hl
        simp only [Option.some.injEq] at h
        subst h
        exact .cons _ _ _ _ (ev_sound k hg hx) (evs_sound k hg os l' hl)
      · cases h

/-! ### The heap -/
theorem HR.cell {θ : Th} {B : Nat} {h : Nat → Option AObj} {w : World} (k : HR θ B h w) {n b : Nat} {cs : List AV} {e : TypeId} {m : Option (Nat × Nat)} (hn : h n = some (.cells cs e m)) (hb : θ.blk n = some b) :
    ∃ c fr pre rest, w.heap[b]? = some (.cells c e fr) ∧ c.toList = pre ++ rest ∧ VRs θ cs pre ∧ (64 ≤ n → B ≤ b ∧ (fr.1 = fr.2 ∨ c.size ≤ fr.1)) ∧ ∀ s z, m = some (s, z) → ∃ x, θ.ext s = some x ∧ rest.length = x * z := by
  obtain ⟨b', ob, h1, h2, h3, h4⟩ := k.obj n _ hn
  rw [hb] at h1
  cases h1
  cases ob <;> simp only [OR] at h3
  rename_i c e' fr
  obtain ⟨rfl, pre, rest, h5, h6, h7⟩ := h3
  obtain ⟨lo, hi⟩ := fr
  exact ⟨c, (lo, hi), pre, rest, h2, h5, h6, fun h => ⟨(h4 h).1, (h4 h).2⟩, h7⟩

theorem addr_add (b o j : Nat) : Addr.add ⟨b, o, none⟩ j = ⟨b, o + j, none⟩ := by
  unfold Addr.add
  split
  · rename_i h; subst h; rfl
  · rfl

/-- A list of cells as it reads. -/
theorem cells_at {w : World} {b : Nat} {c : Array Value} {e : TypeId} {fr : Nat × Nat} (hb : w.heap[b]? = some (.cells c e fr)) (o : Nat) (l : List Value) (hl : l = (c.toList.drop o).take l.length) (P : Program) :
    (loadCells ⟨b, o, none⟩ l.length).run P w = .ok l.toArray w := by
  refine run_loadCells_list w ⟨b, o, none⟩ l ?_
  intro j v hj
  rw [addr_add, cell_of_row w b (o + j) c e fr hb]
  rw [hl] at hj
  rw [List.getElem?_take] at hj
  split at hj
  · rw [List.getElem?_drop] at hj; simpa using hj
  · cases hj
end Go.Exe
namespace Go.Exe
set_option linter.unusedSectionVars false
variable [Opn]
open Go.RowKit

def FOk (P : Program) (f : Field) (fi : FI) : Prop :=
  f.offset = fi.off ∧ f.type = fi.ty ∧ (∀ w, (sizeOf f.type).run P w = .ok fi.size w) ∧ (∀ w, (isAgg f.type).run P w = .ok fi.agg w) ∧ decide (f.name ≠ "_") = fi.cmp

inductive FsOk (P : Program) : List Field → List FI → Prop where
  | nil : FsOk P [] []
  | cons (f : Field) (fi : FI) (fs : List Field) (fis : List FI) : FOk P f fi → FsOk P fs fis → FsOk P (f :: fs) (fi :: fis)

def KdOk (P : Program) : TypeDesc → Kd → Prop
  | .bool, .bool => True
  | .int k, .int k' => k = k'
  | .string, .str => True
  | .pointer e, .ptr e' => e = e'
  | .slice e, .slice e' => e = e'
  | .map k e, .map k' e' => k = k' ∧ e = e'
  | .array n e, .array n' e' => n = n' ∧ e = e'
  | .struct fs, .struct fis => FsOk P fs.toList fis
  | .interface _, .iface => True
  | .func _ _ _, .func => True
  | .tuple _, .tuple => True
  | _, .other => True
  | _, _ => False

structure TIok (P : Program) (t : TypeId) (ti : TI) : Prop where
  und : ∃ d, P.underlying t = some d ∧ KdOk P d ti.kd
  size : ∀ w, (sizeOf t).run P w = .ok ti.size w
  info : ∃ i, (∀ w, (typeInfo t).run P w = .ok i w) ∧ i.bytes = ti.bytes
  agg : ∀ w, (isAgg t).run P w = .ok ti.kd.isAgg w
  zero : ∃ z, (∀ w, (zeroValue t).run P w = .ok z w) ∧ (∀ θ, VRs θ ti.zero z.cells.toList) ∧ (ti.kd.isAgg = true → ∃ cs, z = .agg cs) ∧ (ti.kd.isAgg = false → z.cells = #[z]) ∧ z.cells.size = ti.size
  eqg : ti.kd.isAgg = true → ti.hid = false → P.eqGuardType P.depth t = false ∧ P.stoodInHeld t = false

def TyOk (P : Program) (ty : Tr TI) : Prop := ∀ t ti, ty.get t = some ti → TIok P t ti

theorem FsOk.get {P : Program} : ∀ {fs : List Field} {fis : List FI} {i : Nat} {fi : FI}, FsOk P fs fis → listGet fis i = some fi → ∃ f, fs[i]? = some f ∧ FOk P f fi
  | _, _, _, _, .nil, h => by simp [listGet] at h
  | _, _, 0, _, .cons f fi _ _ hf _, h => by simp [listGet] at h; subst h; exact ⟨f, rfl, hf⟩
  | _, _, i + 1, _, .cons _ _ _ _ _ ht, h => by
    simp only [listGet] at h
    obtain ⟨f, h1, h2⟩ := ht.get h
    exact ⟨f, by simpa using h1, h2⟩

/-- What an operation has come to. -/
def Came (P : Program) (a : Act) (o : Oper) (w : World) (θ : Th) (nm : Nat) (v : AV) : Option AObj → Prop
  | none => ∃ v', (execOp a.eval o).run P w = .ok (.value v') w ∧ VR θ v v'
  | some ob => ∃ v' ob', (execOp a.eval o).run P w = .ok (.value v') (w.alloc ob') ∧ ∀ θ', θ.Le θ' → θ'.blk nm = some w.heap.size → VR θ' v v' ∧ OR θ' ob ob' ∧ Loose ob'

theorem VRs.cut' {θ : Th} {l : List AV} {l' : List Value} {o n : Nat} {r : List AV} (h : VRs θ l l') (hc : Exe.cut l o n = some r) : VRs θ r ((l'.drop o).take n) ∧ (n = 0 ∨ o + n ≤ l'.length) := by
  rcases h.cut hc with ⟨h1, h2⟩ | ⟨rfl, rfl⟩
  · exact ⟨h1, .inr h2⟩
  · exact ⟨by simpa using VRs.nil, .inl rfl⟩

theorem part_sound {P : Program} {θ : Th} {t : TypeId} {agg : Bool} {size : Nat} {cs : List AV} {cs' : Array Value} {off : Nat} {v : AV}
    (ha : ∀ w, (isAgg t).run P w = .ok agg w) (hs : ∀ w, (sizeOf t).run P w = .ok size w) (hc : VRs θ cs cs'.toList) (h : partA agg size cs off = some v) (w : World) :
    ∃ v', (part t cs' off).run P w = .ok v' w ∧ VR θ v v' := by
  cases agg with
  | true =>
    simp only [partA] at h
    split at h
    · rename_i l hl
      simp only [Option.some.injEq] at h
      subst h
      obtain ⟨h1, _⟩ := hc.cut' hl
      refine ⟨.agg (cs'.extract off (off + size)), by simp [part, ha, hs], ?_⟩
      have : cs'.extract off (off + size) = ((cs'.toList.drop off).take size).toArray := by
        apply Array.ext'
        simp [Array.toList_extract, List.extract_eq_take_drop]
      rw [this]
      exact .agg _ _ h1
    · cases h
  | false =>
    simp only [partA] at h
    obtain ⟨v', h1, h2⟩ := hc.get h
    have h1 : cs'[off]? = some v' := by simpa using h1
    exact ⟨v', by simp [part, ha, h1], h2⟩

/-- A load out of a row of cells. -/
theorem loadVar_sound {P : Program} {θ : Th} {B : Nat} {h : Nat → Option AObj} {w : World} {t : TypeId} {ti : TI} (ht : TIok P t ti) (hr : HR θ B h w) {n b o : Nat} {cs : List AV} {e : TypeId} {m : Option (Nat × Nat)} {v : AV}
    (hn : h n = some (.cells cs e m)) (hb : θ.blk n = some b) (hp : partA ti.kd.isAgg ti.size cs o = some v) : ∃ v', (loadVar t ⟨b, o, none⟩).run P w = .ok v' w ∧ VR θ v v' := by
  obtain ⟨c, fr, pre, rest, h1, h2, h3, _⟩ := hr.cell hn hb
  have hA := ht.agg
  cases hk : ti.kd.isAgg with
  | true =>
    rw [hk] at hA hp
    simp only [partA] at hp
    split at hp
    · rename_i l hl
      simp only [Option.some.injEq] at hp
      subst hp
      obtain ⟨h4, h5⟩ := h3.cut' hl
      have hlen : ((pre.drop o).take ti.size).length = ti.size := by simp; omega
      have hsame : ((pre.drop o).take ti.size) = (c.toList.drop o).take ti.size := by
        rw [h2]
        rcases h5 with h5 | h5
        · rw [h5]; simp
        · rw [List.drop_append_of_le_length (by omega), List.take_append_of_le_length (by simp; omega)]
      have := cells_at h1 o ((pre.drop o).take ti.size) (by rw [hlen]; exact hsame) P
      rw [hlen] at this
      exact ⟨_, by simp [loadVar, hA, ht.size, this], .agg _ _ h4⟩
    · cases hp
  | false =>
    rw [hk] at hA hp
    simp only [partA] at hp
    obtain ⟨v', h4, h5⟩ := h3.get hp
    have h6 : w.cell? ⟨b, o, none⟩ = some v' := by
      rw [cell_of_row w b o c e fr h1, ← Array.getElem?_toList, h2, List.getElem?_append_left (by
        rcases Nat.lt_or_ge o pre.length with h | h
        · exact h
        · rw [List.getElem?_eq_none h] at h4; cases h4)]
      exact h4
    exact ⟨v', by simp [loadVar, hA, h6], h5⟩

theorem kd_slice {P : Program} {d : TypeDesc} {e : TypeId} (h : KdOk P d (.slice e)) : d = .slice e := by cases d <;> simp_all [KdOk]
theorem kd_str {P : Program} {d : TypeDesc} (h : KdOk P d .str) : d = .string := by cases d <;> simp_all [KdOk]
theorem kd_int {P : Program} {d : TypeDesc} {k : IntKind} (h : KdOk P d (.int k)) : d = .int k := by cases d <;> simp_all [KdOk]
theorem kd_bool {P : Program} {d : TypeDesc} (h : KdOk P d .bool) : d = .bool := by cases d <;> simp_all [KdOk]
theorem kd_ptr {P : Program} {d : TypeDesc} {e : TypeId} (h : KdOk P d (.ptr e)) : d = .pointer e := by cases d <;> simp_all [KdOk]
theorem kd_map {P : Program} {d : TypeDesc} {k e : TypeId} (h : KdOk P d (.map k e)) : d = .map k e := by cases d <;> simp_all [KdOk]
theorem kd_array {P : Program} {d : TypeDesc} {n : Nat} {e : TypeId} (h : KdOk P d (.array n e)) : d = .array n e := by cases d <;> simp_all [KdOk]
theorem kd_struct {P : Program} {d : TypeDesc} {fis : List FI} (h : KdOk P d (.struct fis)) : ∃ fs, d = .struct fs ∧ FsOk P fs.toList fis := by cases d <;> simp_all [KdOk]
theorem kd_iface {P : Program} {d : TypeDesc} (h : KdOk P d .iface) : ∃ m, d = .interface m := by cases d <;> simp_all [KdOk]
theorem kd_func {P : Program} {d : TypeDesc} (h : KdOk P d .func) : ∃ x y z, d = .func x y z := by cases d <;> simp_all [KdOk]

/-! ### What is built of parts -/
theorem foldl_set (l : List Value) (off : Nat) : ∀ (i : Nat) (cells : Array Value), off + i + l.length ≤ cells.size →
    ((l.zipIdx i).foldl (fun cs (x : Value × Nat) => cs.setIfInBounds (off + x.2) x.1) cells).toList = Exe.put cells.toList (off + i) l := by
  induction l with
  | nil => intro i cells h; simp [Exe.put]
  | cons v l ih =>
    intro i cells h
    simp only [List.zipIdx_cons, List.foldl_cons]
    rw [ih (i + 1) _ (by simp at h ⊢; omega)]
    simp only [Array.toList_setIfInBounds, Exe.put, List.length_cons]
    simp only [List.length_cons] at h
    apply List.ext_getElem?
    intro j
    simp only [List.getElem?_append, List.getElem?_take, List.getElem?_drop, List.length_append, List.length_take, List.length_set, List.length_cons, Array.length_toList, List.getElem?_set, List.getElem?_cons]
    have e1 : min (off + (i + 1)) cells.size = off + (i + 1) := by omega
    have e2 : min (off + i) cells.size = off + i := by omega
    simp only [e1, e2]
    by_cases h1 : j < off + i
    · have : ¬ (off + i = j) := by omega
      simp [h1, this, show j < off + (i + 1) + l.length by omega, show j < off + i + (l.length + 1) by omega, show j < off + (i + 1) by omega]
    · by_cases h2 : j = off + i
      · subst h2
        simp [show off + i < off + (i + 1) + l.length by omega, show off + i < off + (i + 1) by omega, show off + i < cells.size by omega]
      · by_cases h3 : j < off + (i + 1) + l.length
        · have h4 : ¬ (j < off + (i + 1)) := by omega
          have h5 : ¬ (j - (off + i) = 0) := by omega
          simp [h1, h3, h4, h5, show j < off + i + (l.length + 1) by omega, show j - (off + (i + 1)) = j - (off + i) - 1 by omega]
        · simp [h3, show ¬ (j < off + i + (l.length + 1)) by omega, show ¬ (off + i = j) by omega]
          have e : off + (i + 1) + l.length + (j - (off + (i + 1) + l.length)) = off + i + (l.length + 1) + (j - (off + i + (l.length + 1))) := by omega
          rw [e]
          simp [show ¬ (off + i = off + i + (l.length + 1) + (j - (off + i + (l.length + 1)))) by omega]

theorem foldl_put (v : Array Value) (off : Nat) (cells : Array Value) (h : off + v.size ≤ cells.size) :
    (v.zipIdx.foldl (fun cs (x : Value × Nat) => cs.setIfInBounds (off + x.2) x.1) cells).toList = Exe.put cells.toList off v.toList := by
  have := foldl_set v.toList off 0 cells (by simpa using h)
  rw [← Array.foldl_toList]
  simpa [Array.toList_zipIdx] using this

theorem fillA_sound {θ : Th} {nt : Nat} {T : Tr AV} {a : Act} (k : TR θ nt T a) (hg : ∀ g, g < 64 → θ.blk g = some g) (fs : List FI) (place : Nat → Option (Nat × Nat)) (hp : ∀ i f, listGet fs i = some f → place i = some (f.off, f.size)) :
    ∀ (ps : List (Nat × Operand)) (cs r : List AV) (cs' : Array Value), VRs θ cs cs'.toList → fillA fs T cs ps = some r →
      ∃ r', Instr.fill place cs' (ps.map fun x => (x.1, a.eval x.2)) = some r' ∧ VRs θ r r'.toList
  | [], cs, r, cs', hc, h => by simp only [fillA, Option.some.injEq] at h; subst h; exact ⟨cs', rfl, hc⟩
  | (i, x) :: ps, cs, r, cs', hc, h => by
    simp only [fillA] at h
    split at h
    · rename_i f v hf hv
      split at h
      · rename_i hl
        split at h
        · rename_i cs1 h1
          have hx := (ev_sound k hg hv).cells
          have hlen := Nat.eq_of_beq_eq_true hl
          have e1 : (a.eval x).cells.size = f.size := by rw [← Array.length_toList, hx.length, hlen]
          have hcl := hc.length
          simp only [Array.length_toList] at hcl
          obtain ⟨rfl, h2⟩ := lay_eq h1
          have h3 : f.off + (a.eval x).cells.size ≤ cs'.size := by omega
          obtain ⟨r', h4, h5⟩ := fillA_sound k hg fs place hp ps _ r ((a.eval x).cells.zipIdx.foldl (fun cs (y : Value × Nat) => cs.setIfInBounds (f.off + y.2) y.1) cs')
            (by rw [foldl_put _ _ _ h3]; exact hc.put hx h2) h
          refine ⟨r', ?_, h5⟩
          simp only [List.map_cons, Instr.fill, hp i f hf]
          rw [if_neg (by simp [e1]; omega)]
          exact h4
        · cases h
      · cases h
    · cases h
end Go.Exe
