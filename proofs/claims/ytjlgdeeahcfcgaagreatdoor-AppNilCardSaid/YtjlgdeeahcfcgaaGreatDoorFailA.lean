/- What is known of the digits and the reason of an open status; the executor's environment for Fail, both sides. What an interval says of a number; Fail, both sides, as what is run; the text that comes out, as pieces. -/
import Derived.Test.YtjlgdeeahcfcgaaGreatDoorDig
import Derived.Test.YtjlgdeeahcfcgaaGreatDoorShelf
import Derived.Test.YtjlgdeeahcfcgaaGreatDoorEnv
set_option linter.unusedVariables false
set_option linter.unusedSimpArgs false
namespace Go.Proofs.YtjlgdeeahcfcgaaGreatDoor
open Go.Exe Go.RowKit
set_option linter.unusedSectionVars false

def isOpn (t : Nat) : AV → Bool
  | .func (.yield t') _ [] => Nat.beq t t'
  | _ => false
def isInt (c : Nat) : AV → Bool
  | .int .i64 (.ofNat n) => Nat.beq n c
  | _ => false

/-- The reasons of 400 and of 500. -/
def reason400 : List Nat := [66, 97, 100, 32, 82, 101, 113, 117, 101, 115, 116]
def reason500 : List Nat := [73, 110, 116, 101, 114, 110, 97, 108, 32, 83, 101, 114, 118, 101, 114, 32, 69, 114, 114, 111, 114]
/-- The reference's Reason at 400 and at 500. -/
def knownR (f : Nat) (a : AV) : Option (Option AV) :=
  match Nat.beq f 44 with
  | true => match isInt 400 a with
    | true => some (some (.str reason400))
    | false => match isInt 500 a with
      | true => some (some (.str reason500))
      | false => none
  | false => none

/-- Of the open status (5): its digits (dg), its reason (rs). -/
def knownD (dg : AV) (rs : List Nat) (f : Nat) (a : AV) (h : Tr AObj) : Option (Option AV) :=
  match isOpn 5 a with
  | true => match Nat.beq f 102 with
    | true => match sameO pow1 (h.get 4) with
      | true => some (some dg)
      | false => none
    | false => match Nat.beq f 89, Nat.beq f 45, Nat.beq f 44 with
      | true, _, _ => some (some dg)
      | _, true, _ => some (some dg)
      | _, _, true => some (some (.str rs))
      | _, _, _ => none
  | false => knownR f a

def known5 (dg : AV) (rs : List Nat) (f : Nat) (args : List AV) (h : Tr AObj) : Option (Option AV) :=
  match known f args h with
  | some r => some r
  | none => match args with
    | [a] => knownD dg rs f a h
    | _ => none

theorem isInt_eq {c : Nat} {a : AV} (h : isInt c a = true) : a = .int .i64 c := by
  unfold isInt at h
  split at h
  · rw [Nat.eq_of_beq_eq_true h]; rfl
  · cases h

variable [Opn]

theorem sameO_eq {p : AObj} {o : Option AObj} (h : sameO p o = true) : o = some p := by
  unfold sameO at h
  split at h
  · rw [eqObj_eq _ _ h]
  · cases h

theorem isOpn_val {t : Nat} {a : AV} {θ : Th} {v : Value} (h : isOpn t a = true) (hv : VR θ a v) : v = Opn.val t := by
  unfold isOpn at h
  split at h
  · have := Nat.eq_of_beq_eq_true h
    subst this
    cases hv with
    | func _ _ _ _ _ hp _ _ => simp [plainFn] at hp
    | opn _ _ _ h1 _ _ => exact h1.symm
  · cases h

def KnownAt (f : FuncId) (args : List AV) (hp : Tr AObj) (v : AV) : Prop :=
  (∀ args w, (callFunc f args).run Tryz.prog w = .ok (.enter f args) w) ∧
    ∀ θ B S args' w, S.heap = hp → SR θ B S w → VRs θ args args' → Calls Tryz.prog f args'.toArray w (fun e w' => ∃ v', e = .returned v' ∧ VR θ v v' ∧ Below w.heap.size w w')

theorem vnat {θ : Th} {l : List Nat} {m : List UInt8} (h : l = m.map UInt8.toNat) : VR θ (.str l) (.string (bs m)) := by
  subst h; exact VR.str (bs m)

theorem reason_400 : reason400 = (reasonL (digI 400)).map UInt8.toNat := by decide +kernel
theorem reason_500 : reason500 = (reasonL (digI 500)).map UInt8.toNat := by decide +kernel

theorem knownR_ok (f : FuncId) (a : AV) (hp : Tr AObj) (v : AV) (h : knownR f a = some (some v)) : KnownAt f [a] hp v := by
  unfold knownR at h
  split at h
  · rename_i h1
    have h1 := Nat.eq_of_beq_eq_true h1
    subst h1
    split at h
    · rename_i h2
      cases h
      rw [isInt_eq h2]
      refine ⟨Tryz.call44, fun θ B S args' w _ k ha => ?_⟩
      cases ha with
      | cons _ v1 _ _ hv1 ha =>
        cases ha
        cases hv1
        exact (reason_any 400 w (by decide)).mono fun e w' ⟨he, hb⟩ => ⟨_, he, vnat reason_400, hb⟩
    · split at h
      · rename_i h2
        cases h
        rw [isInt_eq h2]
        refine ⟨Tryz.call44, fun θ B S args' w _ k ha => ?_⟩
        cases ha with
        | cons _ v1 _ _ hv1 ha =>
          cases ha
          cases hv1
          exact (reason_any 500 w (by decide)).mono fun e w' ⟨he, hb⟩ => ⟨_, he, vnat reason_500, hb⟩
      · cases h
  · cases h

/-- What is said of the open status. -/
structure DigOk (n : Int) (dg : AV) (rs : List Nat) : Prop where
  val : Opn.val 5 = .int .i64 n
  lo : -9223372036854775808 ≤ n
  hi : n ≤ 9223372036854775807
  d1 : ∀ θ, VR θ dg (.string ⟨(Lib.itoa n).toArray⟩)
  d2 : ∀ θ, VR θ dg (.string (bs (digZ n)))
  d3 : ∀ θ, VR θ dg (.string (bs (digI n)))
  r : ∀ θ, VR θ (.str rs) (.string (bs (reasonL (digI n))))

theorem below_draws (w : World) (q : Nat) (os : Array Obj) : Below w.heap.size w (Go.Sort.grow (w.drewN q) os) :=
  ⟨rfl, rfl, rfl, by show w.heap.size ≤ (w.heap ++ os).size; rw [Array.size_append]; omega, fun j hj => by
    show (w.heap ++ os)[j]? = w.heap[j]?
    rw [Array.getElem?_append_left hj]⟩

theorem powTab {w : World} (h : StandsAt w 4 515 (powL.map fun n => .int .u64 (n : Nat))) : Lib.TabIs Tryz.prog w "internal/strconv.uint64pow10" .u64 Lib.pow10Tab := by
  obtain ⟨c, fr, h1, h2⟩ := h
  have hg : Tryz.prog.globalNamed "internal/strconv.uint64pow10" = some 4 := by kernel_rfl
  unfold Lib.TabIs World.var?
  rw [hg]
  show (match w.heap[4]? with | some (.cells cs _ _) => some cs | _ => none) = _
  rw [h1]
  show some c = _
  obtain ⟨c⟩ := c
  cases h2
  rfl

theorem knownD_ok {n : Int} {dg : AV} {rs : List Nat} (D : DigOk n dg rs) (f : FuncId) (a : AV) (hp : Tr AObj) (v : AV) (h : knownD dg rs f a hp = some (some v)) : KnownAt f [a] hp v := by
  unfold knownD at h
  split at h
  · rename_i h5
    split at h
    · rename_i h1
      have h1 := Nat.eq_of_beq_eq_true h1
      subst h1
      split at h
      · rename_i h2
        cases h
        refine ⟨Tryz.call102, fun θ B S args' w hs k ha => ?_⟩
        cases ha with
        | cons _ v1 _ _ hv1 ha =>
          cases ha
          rw [isOpn_val h5 hv1, D.val]
          subst hs
          exact (Tryz.strconv_Itoa n D.lo D.hi w (powTab (standsAt_of (kd := .u64) (l := powL) k (by omega) (sameO_eq h2)))).mono fun e w' ⟨he, hb⟩ => ⟨_, he, D.d1 θ, by obtain ⟨q, os, rfl⟩ := hb; exact below_draws w q os⟩
      · cases h
    · split at h
      · rename_i h1
        have h1 := Nat.eq_of_beq_eq_true h1
        subst h1
        cases h
        refine ⟨Tryz.call89, fun θ B S args' w hs k ha => ?_⟩
        cases ha with
        | cons _ v1 _ _ hv1 ha =>
          cases ha
          rw [isOpn_val h5 hv1, D.val]
          exact (digZ_any n w D.lo D.hi).mono fun e w' ⟨he, hb⟩ => ⟨_, he, D.d2 θ, hb⟩
      · rename_i h1 _
        have h1 := Nat.eq_of_beq_eq_true h1
        subst h1
        cases h
        refine ⟨Tryz.call45, fun θ B S args' w hs k ha => ?_⟩
        cases ha with
        | cons _ v1 _ _ hv1 ha =>
          cases ha
          rw [isOpn_val h5 hv1, D.val]
          exact (digI_any n w D.hi).mono fun e w' ⟨he, hb⟩ => ⟨_, he, D.d3 θ, hb⟩
      · rename_i h1 _ _
        have h1 := Nat.eq_of_beq_eq_true h1
        subst h1
        cases h
        refine ⟨Tryz.call44, fun θ B S args' w hs k ha => ?_⟩
        cases ha with
        | cons _ v1 _ _ hv1 ha =>
          cases ha
          rw [isOpn_val h5 hv1, D.val]
          exact (reason_any n w D.hi).mono fun e w' ⟨he, hb⟩ => ⟨_, he, D.r θ, hb⟩
      · cases h
  · exact knownR_ok f a hp v h

theorem known5_ok {n : Int} {dg : AV} {rs : List Nat} (D : DigOk n dg rs) (f : FuncId) (args : List AV) (hp : Tr AObj) (v : AV) (h : known5 dg rs f args hp = some (some v)) : KnownAt f args hp v := by
  unfold known5 at h
  split at h
  · rename_i r hr
    simp only [Option.some.injEq] at h
    subst h
    exact known_ok f args hp v hr
  · split at h
    · exact knownD_ok D f _ hp v h
    · cases h

noncomputable def env5 (dg : AV) (rs : List Nat) : Env := ⟨tyTab, fnTab, known5 dg rs, idle⟩
theorem env5_ok {n : Int} {dg : AV} {rs : List Nat} (D : DigOk n dg rs) : EnvOk Tryz.prog (env5 dg rs) := ⟨tyTab_ok, fnTab_ok, known5_ok D, idle_ok, by kernel_rfl⟩

/-- The text that a call gives. -/
def strOut : Option Out → Option (List Nat)
  | some (.call (.str l) _) => some l
  | _ => none
theorem strOut_eq {o : Option Out} {l : List Nat} (h : strOut o = some l) : ∃ S, o = some (.call (.str l) S) := by
  unfold strOut at h
  split at h
  · cases h; exact ⟨_, rfl⟩
  · cases h

theorem text_of_run {E : Env} (hE : EnvOk Tryz.prog E) {N d : Nat} {f : FuncId} {args : List AV} {l : List UInt8} (h : strOut (calls E memoB N d f args st0) = some (l.map UInt8.toNat)) {w : World} (hw : Stands w) {args' : List Value} (ha : VRs th01 args args') :
    Calls Tryz.prog f args'.toArray w fun e w' => e = .returned (.string (bs l)) ∧ Below w.heap.size w w' := by
  obtain ⟨S', h⟩ := strOut_eq h
  exact (call_sound hE memoB_ok h (start_ok hw) ha).mono fun e w' ⟨v', θ', he, hv, _, hb⟩ => by
    obtain ⟨s, rfl, hs⟩ := str_is hv
    rw [bytes_is hs] at he
    exact ⟨he, hb⟩
end Go.Proofs.YtjlgdeeahcfcgaaGreatDoor
namespace Go.Proofs.YtjlgdeeahcfcgaaGreatDoor
open Go.Exe Go.RowKit
set_option linter.unusedSectionVars false

def consts : List Nat := [100, 101, 199, 200, 201, 202, 204, 206, 299, 301, 302, 303, 304, 307, 308, 400, 401, 403, 404, 405, 406, 408, 411, 412, 413, 414, 415, 416, 417, 421, 422, 426, 428, 429, 431, 500, 501, 502, 503, 504, 505, 599]
def factOf (a b : Int) (c : Nat) : Option AV :=
  match decide (b < (c : Int)) with
  | true => some (.tuple [.int .i64 (.ofNat c), .bool false, .bool true, .bool false])
  | false => match decide ((c : Int) < a) with
    | true => some (.tuple [.int .i64 (.ofNat c), .bool false, .bool false, .bool true])
    | false => match decide (a = (c : Int) ∧ b = (c : Int)) with
      | true => some (.tuple [.int .i64 (.ofNat c), .bool true, .bool false, .bool false])
      | false => none
def factsOf (a b : Int) : List AV := consts.filterMap (factOf a b)
def opn (t : Nat) (fs : List AV) : AV := .func (.yield t) fs []
/-- The configuration that Fail is asked with: Date is -1, all else zero. -/
def cfg0 : AV := .agg [.str [], .int .i64 (-1), .int .i64 0, .int .i64 0, .int .i64 0, .int .i64 0, .int .i64 0, .int .i64 0, .int .i64 0, .int .i64 0, .int .i64 0, .int .i64 0, .int .i64 0, .int .i64 0, .bool false, .slice none 0 0 none, .slice none 0 0 none, .slice none 0 0 none]
def cfgV : Value := .agg [.string ⟨#[]⟩, .int .i64 (-1), .int .i64 0, .int .i64 0, .int .i64 0, .int .i64 0, .int .i64 0, .int .i64 0, .int .i64 0, .int .i64 0, .int .i64 0, .int .i64 0, .int .i64 0, .int .i64 0, .bool false, .slice none 0 0, .slice none 0 0, .slice none 0 0].toArray
def args11 (fs : List AV) : List AV := [.ptr none, .agg [opn 5 fs, opn 8 [], opn 9 []]]
def args12 (fs : List AV) : List AV := [cfg0, opn 5 fs]
def text400 : List Nat := [72, 84, 84, 80, 47, 49, 46, 49, 32, 52, 48, 48, 32, 66, 97, 100, 32, 82, 101, 113, 117, 101, 115, 116, 13, 10, 67, 111, 110, 116, 101, 110, 116, 45, 84, 121, 112, 101, 58, 32, 116, 101, 120, 116, 47, 112, 108, 97, 105, 110, 59, 32, 99, 104, 97, 114, 115, 101, 116, 61, 117, 116, 102, 45, 56, 13, 10, 67, 111, 110, 116, 101, 110, 116, 45, 76, 101, 110, 103, 116, 104, 58, 32, 49, 50, 13, 10, 67, 111, 110, 110, 101, 99, 116, 105, 111, 110, 58, 32, 99, 108, 111, 115, 101, 13, 10, 13, 10, 66, 97, 100, 32, 82, 101, 113, 117, 101, 115, 116, 10]
/-- Digits of which only their number is bounded; three open ones. -/
def wrongD : AV := .func (.yield 30) [] [.nilFunc]
def threeD : AV := .func (.yield 3) [] [.nilFunc, .tuple [.func (.yield 7) [] []]]

def flat : List AV → List AV
  | [] => []
  | p :: ps => match p with
    | .str a => match flat ps with
      | [] => [.str a]
      | q :: qs => match q with
        | .str b => .str (a ++ b) :: qs
        | q => .str a :: q :: qs
    | p => p :: flat ps
/-- The pieces of the text that a call gives. -/
def ropeOf : Option Out → Option (List AV)
  | some (.call (.str l) _) => some [.str l]
  | some (.call (.func (.yield _) [] [.nilFunc, .tuple ps]) _) => some (flat ps)
  | _ => none
/-- Both runs give these pieces. -/
def isRope2 (R : List AV) (o p : Option Out) : Bool :=
  match ropeOf o with
  | some a => match ropeOf p with
    | some b => eqL (eqV 5) a R && eqL (eqV 5) b R
    | none => false
  | none => false
variable [Opn]
theorem factsOf_ok {a b n : Int} (ha : a ≤ n) (hb : n ≤ b) : ∀ f ∈ factsOf a b, FactOk (.int .i64 n) f := by
  intro f hf
  unfold factsOf at hf
  obtain ⟨c, _, hc⟩ := List.mem_filterMap.1 hf
  unfold factOf at hc
  split at hc
  · rename_i h
    have h := of_decide_eq_true h
    cases hc
    exact ⟨n, rfl, decide_eq_false (by show ¬ n = (c : Int); omega), decide_eq_true (by show n < (c : Int); omega), decide_eq_false (by show ¬ (c : Int) < n; omega)⟩
  · rename_i h0
    have h0 := of_decide_eq_false h0
    split at hc
    · rename_i h
      have h := of_decide_eq_true h
      cases hc
      exact ⟨n, rfl, decide_eq_false (by show ¬ n = (c : Int); omega), decide_eq_false (by show ¬ n < (c : Int); omega), decide_eq_true (by show (c : Int) < n; omega)⟩
    · split at hc
      · rename_i h
        have h := of_decide_eq_true h
        cases hc
        exact ⟨n, rfl, decide_eq_true (by show n = (c : Int); omega), decide_eq_false (by show ¬ n < (c : Int); omega), decide_eq_false (by show ¬ (c : Int) < n; omega)⟩
      · cases hc

/-- The bytes of pieces. -/
def ropeNats : List AV → List Nat
  | [] => []
  | p :: ps => match p with
    | .str a => a ++ ropeNats ps
    | .func (.yield t) [] [] => (match Opn.val t with | .string s => toNats s | _ => []) ++ ropeNats ps
    | _ => []
theorem ropeNats_of : ∀ {ps : List AV} {l : List Nat}, RopeOk ps l → l = ropeNats ps
  | [], l, h => h
  | p :: ps, l, h => by
    simp only [RopeOk] at h
    simp only [ropeNats]
    split at h
    · obtain ⟨r, rfl, h⟩ := h
      rw [ropeNats_of h]
    · obtain ⟨s, r, h1, rfl, h⟩ := h
      rw [ropeNats_of h]
      show _ = (match Opn.val _ with | .string s => toNats s | _ => []) ++ ropeNats ps
      rw [h1]
    · cases h
theorem ropeNats_flat : ∀ (ps : List AV), ropeNats (flat ps) = ropeNats ps
  | [] => rfl
  | p :: ps => by
    have ih := ropeNats_flat ps
    unfold flat
    split
    · rename_i a
      split
      · rename_i h
        rw [h] at ih
        simp only [ropeNats] at ih ⊢
        rw [← ih]
      · rename_i q qs h
        rw [h] at ih
        split
        · rename_i b
          simp only [ropeNats] at ih ⊢
          rw [← ih, List.append_assoc]
        · simp only [ropeNats] at ih ⊢
          rw [← ih]
    · rename_i q h
      simp only [ropeNats]
      rw [ih]
def textOf (R : List AV) : ByteArray := bs ((ropeNats R).map UInt8.ofNat)
theorem toNats_back (s : ByteArray) : bs ((toNats s).map UInt8.ofNat) = s := by
  apply ByteArray.ext
  have : UInt8.ofNat ∘ UInt8.toNat = id := by funext x; simp
  simp [bs, toNats, this]

theorem rope_of_run {E : Env} (hE : EnvOk Tryz.prog E) {N d : Nat} {f : FuncId} {args : List AV} {R : List AV} (h : ropeOf (calls E memoB N d f args st0) = some R) {w : World} (hw : Stands w) {args' : List Value} (ha : VRs th01 args args') :
    Calls Tryz.prog f args'.toArray w fun e w' => e = .returned (.string (textOf R)) ∧ Below w.heap.size w w' := by
  unfold ropeOf at h
  split at h
  · rename_i l S' hc
    simp only [Option.some.injEq] at h
    subst h
    exact (call_sound hE memoB_ok hc (start_ok hw) ha).mono fun e w' ⟨v', θ', he, hv, _, hb⟩ => by
      obtain ⟨s, rfl, hs⟩ := str_is hv
      have : textOf [.str l] = s := by
        rw [← toNats_back s]
        unfold textOf toNats
        rw [hs]
        simp [ropeNats]
      rw [this]
      exact ⟨he, hb⟩
  · rename_i n ps S' hc
    simp only [Option.some.injEq] at h
    subst h
    exact (call_sound hE memoB_ok hc (start_ok hw) ha).mono fun e w' ⟨v', θ', he, hv, _, hb⟩ => by
      cases hv
      case func hp _ _ => simp [plainFn] at hp
      rename_i s h1 h2
      have : textOf (flat ps) = s := by
        unfold textOf
        rw [ropeNats_flat, ← ropeNats_of h2, toNats_back]
      rw [this]
      exact ⟨he, hb⟩
  · cases h

theorem isRope2_eq {R : List AV} {o p : Option Out} (h : isRope2 R o p = true) : ropeOf o = some R ∧ ropeOf p = some R := by
  unfold isRope2 at h
  split at h
  · rename_i a h1
    split at h
    · rename_i b h2
      rw [Bool.and_eq_true] at h
      rw [h1, h2, eqL_eq (eqV_eq 5) _ _ h.1, eqL_eq (eqV_eq 5) _ _ h.2]
      exact ⟨rfl, rfl⟩
    · cases h
  · cases h

/-- What Fail says on both sides at a status. -/
def Both (n : Int) (v8 v9 : Value) : Prop := ∃ s : ByteArray, ∀ w : World, Stands w →
  (Calls Tryz.prog 11 #[.pointer none, .agg #[.int .i64 n, v8, v9]] w fun e w' => e = .returned (.string s) ∧ Below w.heap.size w w') ∧
  Calls Tryz.prog 12 #[cfgV, .int .i64 n] w fun e w' => e = .returned (.string s) ∧ Below w.heap.size w w'

theorem cfg_vr (θ : Th) : VR θ cfg0 cfgV := .agg _ _ (.cons _ _ _ _ (VR.str ⟨#[]⟩) (.cons _ _ _ _ (.int _ _) (.cons _ _ _ _ (.int _ _) (.cons _ _ _ _ (.int _ _) (.cons _ _ _ _ (.int _ _) (.cons _ _ _ _ (.int _ _) (.cons _ _ _ _ (.int _ _) (.cons _ _ _ _ (.int _ _) (.cons _ _ _ _ (.int _ _) (.cons _ _ _ _ (.int _ _) (.cons _ _ _ _ (.int _ _) (.cons _ _ _ _ (.int _ _) (.cons _ _ _ _ (.int _ _) (.cons _ _ _ _ (.int _ _) (.cons _ _ _ _ (.bool _) (.cons _ _ _ _ (.sliceN 0 0 0 rfl) (.cons _ _ _ _ (.sliceN 0 0 0 rfl) (.cons _ _ _ _ (.sliceN 0 0 0 rfl) .nil))))))))))))))))))

theorem fail_cls {a b n : Int} {dg : AV} {rs : List Nat} {R fs : List AV} (ha : a ≤ n) (hb : n ≤ b) (hfs : fs = factsOf a b) (D : DigOk n dg rs) {v8 v9 : Value} (h8 : Opn.val 8 = v8) (h9 : Opn.val 9 = v9) (o8 : opnV v8 = true) (o9 : opnV v9 = true)
    (h : isRope2 R (callsF (env5 dg rs) memoB 4000 60 11 (args11 fs) st0) (callsF (env5 dg rs) memoB 4000 60 12 (args12 fs) st0) = true) : Both n v8 v9 := by
  rw [callsF_eq, callsF_eq] at h
  obtain ⟨h1, h2⟩ := isRope2_eq h
  have hf : ∀ f ∈ fs, FactOk (.int .i64 n) f := hfs ▸ factsOf_ok ha hb
  have v5 : VR th01 (opn 5 fs) (.int .i64 n) := .opn _ _ _ D.val rfl hf
  have w8 : VR th01 (opn 8 []) v8 := .opn 8 [] v8 h8 o8 (fun _ h => by cases h)
  have w9 : VR th01 (opn 9 []) v9 := .opn 9 [] v9 h9 o9 (fun _ h => by cases h)
  have hag : VR th01 (.agg [opn 5 fs, opn 8 [], opn 9 []]) (.agg [.int .i64 n, v8, v9].toArray) := .agg _ _ (.cons _ _ _ _ v5 (.cons _ _ _ _ w8 (.cons _ _ _ _ w9 .nil)))
  have a11 : VRs th01 (args11 fs) [.pointer none, .agg [.int .i64 n, v8, v9].toArray] := .cons _ _ _ _ .ptrN (.cons _ _ _ _ hag .nil)
  have a12 : VRs th01 (args12 fs) [cfgV, .int .i64 n] := .cons _ _ _ _ (cfg_vr _) (.cons _ _ _ _ v5 .nil)
  refine ⟨textOf R, fun w hw => ⟨?_, ?_⟩⟩
  · exact rope_of_run (env5_ok D) h1 hw a11
  · exact rope_of_run (env5_ok D) h2 hw a12
end Go.Proofs.YtjlgdeeahcfcgaaGreatDoor
