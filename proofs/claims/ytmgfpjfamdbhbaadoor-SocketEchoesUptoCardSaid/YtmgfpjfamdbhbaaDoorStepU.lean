/- A peer that lives, or none: begun and step for both. -/
import Derived.Test.YtmgfpjfamdbhbaaDoorStepB
namespace Go.Proofs.YtmgfpjfamdbhbaaDoor
open Go.RowKit

/-- the peer behind ptr is p (blocks from B on; at most N bytes held), or there is none -/
def PS (B : Nat) (w : World) (ptr : Value) (p : RP) (v : Value) (N : Nat) : Prop :=
  (ptr = .pointer none ∧ p = nilL ∧ v = .slice none 0 0) ∨
  ∃ b, ptr = .pointer (some ⟨b, 0, none⟩) ∧ B ≤ b ∧ PeerAt w b b p v ∧ (0 ≤ p.most ∧ p.most ≤ 16777216) ∧ p.msg.length ≤ 16777216 ∧ p.msg.length + p.rest.length ≤ N
/-- its blocks -/
def OwnP (ptr v : Value) (k : Nat) : Prop := ptr = .pointer (some ⟨k, 0, none⟩) ∨ v.ownBlock = some k
theorem PS.lt {B : Nat} {w : World} {ptr v : Value} {p : RP} {N k : Nat} (h : PS B w ptr p v N) (hk : OwnP ptr v k) : B ≤ k ∧ k < w.heap.size := by
  rcases h with ⟨rfl, _, rfl⟩ | ⟨b, rfl, hb, hp, _⟩
  · rcases hk with hk | hk
    · cases hk
    · cases hk
  · rcases hk with hk | hk
    · simp only [Value.pointer.injEq, Option.some.injEq, Addr.mk.injEq, and_true] at hk
      subst hk
      exact ⟨hb, hp.lt⟩
    · have := hp.2.2.1.lt hk
      omega
theorem PS.keep {B : Nat} {w w' : World} {ptr v : Value} {p : RP} {N : Nat} (h : PS B w ptr p v N) (hk : ∀ k, OwnP ptr v k → w'.heap[k]? = w.heap[k]?) : PS B w' ptr p v N := by
  rcases h with h | ⟨b, rfl, hb, hp, h⟩
  · exact .inl h
  · exact .inr ⟨b, rfl, hb, hp.keep (hk b (.inl rfl)) (fun g hg => hk g (.inr hg)), h⟩
theorem PS.below {B : Nat} {w w' : World} {ptr v : Value} {p : RP} {N : Nat} (h : PS B w ptr p v N) (hb : Below w.heap.size w w') : PS B w' ptr p v N :=
  h.keep fun k hk => hb.block k (h.lt hk).2
theorem PS.mono {B : Nat} {w : World} {ptr v : Value} {p : RP} {N M : Nat} (h : PS B w ptr p v N) (hM : N ≤ M) : PS B w ptr p v M := by
  rcases h with h | ⟨b, h1, h2, h3, h4, h5, h6⟩
  · exact .inl h
  · exact .inr ⟨b, h1, h2, h3, h4, h5, by omega⟩

theorem begun_uni (most : Int) (w : World) :
    Calls Tryd.prog 34 #[.int .i64 most] w fun e w' => ∃ ptr p v, e = .returned (.tuple #[ptr, .agg #[.int .i64 p.most, .string (bs p.rest), .string (bs p.msg), .int .i64 p.op, .int .i64 p.code, .int .i64 p.echoed], .bool true]) ∧ PS w.heap.size w' ptr p v 0 ∧ Below w.heap.size w w' := by
  by_cases h : most < 0 ∨ 16777216 < most
  · exact (begun_bad most w h).mono fun e w' ⟨h1, h2⟩ => ⟨_, nilL, _, h1, .inl ⟨rfl, rfl, rfl⟩, h2⟩
  · exact (begun_ok most w (by omega) (by omega)).mono fun e w' ⟨b, h1, h2, h3, h4⟩ => ⟨_, newL most, _, h1, .inr ⟨b, rfl, h3, h2, ⟨by show 0 ≤ most; omega, by show most ≤ 16777216; omega⟩, by simp [newL], by simp [newL]⟩, h4⟩
theorem step_uni (B : Nat) (ptr : Value) (p : RP) (v : Value) (N : Nat) (kd : Int) (S : ByteArray) (w : World) (h : PS B w ptr p v N) (hT : Tabs w) (hB : 2 ≤ B) (hs : N + S.size ≤ 1048576) :
    Calls Tryd.prog 35 #[ptr, .agg #[.int .i64 p.most, .string (bs p.rest), .string (bs p.msg), .int .i64 p.op, .int .i64 p.code, .int .i64 p.echoed], .agg #[.int .i64 kd, .string S]] w fun e w' =>
      ∃ p' v', e = .returned (.tuple #[.agg #[.int .i64 p'.most, .string (bs p'.rest), .string (bs p'.msg), .int .i64 p'.op, .int .i64 p'.code, .int .i64 p'.echoed], .bool true]) ∧ PS B w' ptr p' v' (N + S.size) ∧ Touch w w' (OwnP ptr v) ∧ (∀ k, OwnP ptr v' k → OwnP ptr v k ∨ w.heap.size ≤ k) := by
  rcases h with ⟨rfl, rfl, rfl⟩ | ⟨b, rfl, hb, hp, hm, hml, hN⟩
  · refine (step_nil kd S w).mono fun e w' ⟨h1, h2⟩ => ⟨nilL, .slice none 0 0, h1, .inl ⟨rfl, rfl, rfl⟩, (Touch.refl _ _).below h2 (Nat.le_refl _), fun k hk => .inl hk⟩
  · refine (step_any b b p v kd S w hp hT (by omega) (by have := hp.lt; omega) hm hml (by omega)).mono fun e w' ⟨h1, v', hl⟩ => ⟨stepL p kd (bl S), v', h1, .inr ⟨b, rfl, hb, hl.1, ?_, ?_, ?_⟩, ?_, ?_⟩
    · unfold stepL
      split
      · rw [(feed_after p (bl S) hm hml).most]; exact hm
      · exact hm
    · unfold stepL
      split
      · exact (feed_after p (bl S) hm hml).msgs
      · exact hml
    · unfold stepL
      split
      · have := feed_held p (bl S); rw [bl_length] at this; omega
      · omega
    · exact hl.2.1.widen fun k _ hk => by
        rcases hk with rfl | hk
        · exact .inl rfl
        · exact .inr hk
    · intro k hk
      rcases hk with hk | hk
      · exact .inl (.inl hk)
      · rcases hl.2.2 with h3 | h3 | h3
        · rw [h3] at hk; cases hk
        · rw [h3] at hk; exact .inl (.inr hk)
        · exact .inr (h3 k hk)

/-- the slice v holds the calls -/
def OpsAt (w : World) (v : Value) (ops : List (Int × ByteArray)) : Prop :=
  (v = .slice none 0 0 ∧ ops = []) ∨ ∃ (a : Addr) (cap : Nat), v = .slice (some a) ops.length cap ∧ (0 < ops.length → a.block < w.heap.size) ∧
    ∀ i (h : i < ops.length), w.cell? (a.add (i * 2)) = some (.int .i64 ops[i].1) ∧ w.cell? ((a.add (i * 2)).add 1) = some (.string ops[i].2)
def opsBulk : List (Int × ByteArray) → Nat
  | [] => 0
  | o :: r => o.2.size + 1 + opsBulk r
theorem opsBulk_len (l : List (Int × ByteArray)) : l.length ≤ opsBulk l := by
  induction l with
  | nil => simp
  | cons o r ih => simp only [opsBulk, List.length_cons]; omega
theorem opsBulk_drop (l : List (Int × ByteArray)) (j : Nat) (h : j < l.length) : opsBulk (l.drop j) = l[j].2.size + 1 + opsBulk (l.drop (j + 1)) := by
  rw [List.drop_eq_getElem_cons h, opsBulk]
end Go.Proofs.YtmgfpjfamdbhbaaDoor
