/- Plain combinators in which the generator writes what code computes: checks, and loops that may not end. No program in sight. -/
import Derived.WalkKit
namespace Go.L

abbrev I64 (x : Int) : Prop := -9223372036854775808 ≤ x ∧ x ≤ 9223372036854775807

def chk {α : Type} (p : Prop) [Decidable p] (k : Option α) : Option α := if p then k else none
theorem chk_some {α : Type} {p : Prop} [Decidable p] {k : Option α} {e : α} (h : chk p k = some e) : p ∧ k = some e := by
  unfold chk at h
  split at h
  · rename_i hp; exact ⟨hp, h⟩
  · cases h
theorem chk_pos {α : Type} {p : Prop} [Decidable p] {k : Option α} (h : p) : chk p k = k := by unfold chk; rw [if_pos h]
theorem bind_some {α β : Type} {m : Option α} {f : α → Option β} {e : β} (h : m.bind f = some e) : ∃ x, m = some x ∧ f x = some e := Option.bind_eq_some_iff.1 h
theorem ite_t {α : Type} {b : Bool} {x y : Option α} {e : α} (hb : b = true) (h : (if b then x else y) = some e) : x = some e := by rw [if_pos hb] at h; exact h
theorem ite_f {α : Type} {b : Bool} {x y : Option α} {e : α} (hb : b = false) (h : (if b then x else y) = some e) : y = some e := by rw [if_neg (by rw [hb]; decide)] at h; exact h
theorem ite_p {α : Type} {p : Prop} [Decidable p] {x y : Option α} {e : α} (hb : p) (h : (if p then x else y) = some e) : x = some e := by rw [if_pos hb] at h; exact h
theorem ite_n {α : Type} {p : Prop} [Decidable p] {x y : Option α} {e : α} (hb : ¬ p) (h : (if p then x else y) = some e) : y = some e := by rw [if_neg hb] at h; exact h

section
variable {σ ρ : Type}
/-- A loop, so many rounds at most. -/
def itr (b : σ → Option (σ ⊕ ρ)) : Nat → σ → Option ρ
  | 0, _ => none
  | n + 1, s => (b s).bind fun e => match e with | .inl s' => itr b n s' | .inr r => some r
/-- What a round leads to. -/
def Nxt (b : σ → Option (σ ⊕ ρ)) (n : Nat) (r : ρ) : σ ⊕ ρ → Prop
  | .inl s => itr b n s = some r
  | .inr x => x = r
theorem itr_some {b : σ → Option (σ ⊕ ρ)} {n : Nat} {s : σ} {r : ρ} (h : itr b n s = some r) : ∃ m e, n = m + 1 ∧ b s = some e ∧ Nxt b m r e := by
  cases n with
  | zero => cases h
  | succ m =>
    obtain ⟨e, h1, h2⟩ := Option.bind_eq_some_iff.1 h
    refine ⟨m, e, rfl, h1, ?_⟩
    cases e with
    | inl s' => exact h2
    | inr x => exact Option.some.inj h2
theorem Nxt.out {b : σ → Option (σ ⊕ ρ)} {n : Nat} {r : ρ} {e : σ ⊕ ρ} {m : Option ρ} (h : m.map Sum.inr = some e) (hm : Nxt b n r e) : m = some r := by
  cases m with
  | none => cases h
  | some x => cases h; exact congrArg some hm
theorem Nxt.again {b : σ → Option (σ ⊕ ρ)} {n : Nat} {r : ρ} {e : σ ⊕ ρ} {s : σ} (h : some (Sum.inl s) = some e) (hm : Nxt b n r e) : itr b n s = some r := by cases h; exact hm
theorem itr_more {b : σ → Option (σ ⊕ ρ)} : ∀ {n : Nat} {s : σ} {r : ρ} (k : Nat), itr b n s = some r → itr b (n + k) s = some r
  | 0, _, _, _, h => by cases h
  | n + 1, s, r, k, h => by
    obtain ⟨m, e, hm, h1, h2⟩ := itr_some h
    obtain rfl : n = m := by omega
    rw [show n + 1 + k = (n + k) + 1 by omega, itr, h1]
    cases e with
    | inl s' => exact itr_more k h2
    | inr x => exact congrArg some h2
theorem itr_one {b : σ → Option (σ ⊕ ρ)} {n m : Nat} {s : σ} {r q : ρ} (h : itr b n s = some r) (k : itr b m s = some q) : r = q := by
  have h1 := itr_more m h
  have h2 := itr_more n k
  rw [Nat.add_comm] at h2
  exact Option.some.inj (h1.symm.trans h2)
/-- A loop, as many rounds as it takes. -/
noncomputable def run (b : σ → Option (σ ⊕ ρ)) (s : σ) : Option ρ :=
  open Classical in if h : ∃ r, ∃ n, itr b n s = some r then some h.choose else none
theorem run_of {b : σ → Option (σ ⊕ ρ)} {n : Nat} {s : σ} {r : ρ} (h : itr b n s = some r) : run b s = some r := by
  have hx : ∃ r, ∃ n, itr b n s = some r := ⟨r, n, h⟩
  unfold run
  rw [dif_pos hx]
  obtain ⟨m, hm⟩ := hx.choose_spec
  rw [itr_one hm h]
theorem run_some {b : σ → Option (σ ⊕ ρ)} {s : σ} {r : ρ} (h : run b s = some r) : ∃ n, itr b n s = some r := by
  unfold run at h
  split at h
  · rename_i hx
    cases h
    exact hx.choose_spec
  · cases h
theorem run_inl {b : σ → Option (σ ⊕ ρ)} {s s' : σ} (h : b s = some (.inl s')) : run b s = run b s' := by
  cases hr : run b s' with
  | some r =>
    obtain ⟨n, hn⟩ := run_some hr
    exact run_of (n := n + 1) (by rw [itr, h]; exact hn)
  | none =>
    cases hs : run b s with
    | none => rfl
    | some r =>
      obtain ⟨n, hn⟩ := run_some hs
      obtain ⟨m, e, _, h1, h2⟩ := itr_some hn
      rw [h] at h1; cases h1
      rw [run_of h2] at hr; cases hr
theorem run_inr {b : σ → Option (σ ⊕ ρ)} {s : σ} {m : Option ρ} (h : b s = m.map .inr) : run b s = m := by
  cases m with
  | some r => exact run_of (n := 1) (by rw [itr, h]; rfl)
  | none =>
    cases hs : run b s with
    | none => rfl
    | some r =>
      obtain ⟨n, hn⟩ := run_some hs
      obtain ⟨m, e, _, h1, h2⟩ := itr_some hn
      rw [h] at h1; cases h1
/-- A loop under an invariant. -/
theorem run_inv {b : σ → Option (σ ⊕ ρ)} (I : σ → Prop) (μ : σ → Nat) {m : Option ρ} (step : ∀ s, I s → (∃ s', b s = some (.inl s') ∧ I s' ∧ μ s' < μ s) ∨ b s = m.map .inr) {s : σ} (h : I s) : run b s = m := by
  have key : ∀ k s, μ s = k → I s → run b s = m := by
    intro k
    induction k using Nat.strongRecOn with
    | _ k ih =>
      intro s hk hI
      rcases step s hI with ⟨s', h1, h2, h3⟩ | h1
      · rw [run_inl h1]; exact ih (μ s') (by omega) s' rfl h2
      · exact run_inr h1
  exact key _ s rfl h
/-- A loop that counts up to an end: the state is given at each round. -/
theorem run_count {b : σ → Option (σ ⊕ ρ)} (st : Nat → σ) (k : Nat) {m : Option ρ} (step : ∀ i, i < k → b (st i) = some (.inl (st (i + 1)))) (last : b (st k) = m.map .inr) (i : Nat) (hi : i ≤ k) : run b (st i) = m := by
  have key : ∀ d i, i + d = k → run b (st i) = m := by
    intro d
    induction d with
    | zero => intro i h; rw [Nat.add_zero] at h; subst h; exact run_inr last
    | succ d ih => intro i h; rw [run_inl (step i (by omega))]; exact ih (i + 1) (by omega)
  exact key (k - i) i (by omega)
end

/-- A number as a byte. -/
def u8 (a : Int) : UInt8 := UInt8.ofNat (a % 256).toNat
theorem u8_toNat (a : Int) : ((u8 a).toNat : Int) = a % 256 := by
  unfold u8
  rw [UInt8.toNat_ofNat']
  omega
theorem u8_of (b : UInt8) : u8 (b.toNat : Int) = b := by
  apply UInt8.toNat.inj
  have h := u8_toNat (b.toNat : Int)
  have := b.toNat_lt
  omega
theorem u8_eq (a b : UInt8) : ((a.toNat : Int) = (b.toNat : Int)) ↔ a = b := ⟨fun h => UInt8.toNat.inj (by omega), fun h => by rw [h]⟩
end Go.L
