/- More rules for generated walks: parts of structs in variables. No program in sight. -/
import Derived.Test.YtdiieblgeaehpaaDoorEngM
namespace Go.E
open Go Go.RowKit
theorem PtrTo.part {H : PH} {p : Addr} {c : List Value} (h : PtrTo H p c) (m : Nat) : PtrTo H p (c.take m) :=
  ⟨h.1, fun j u hu => h.2 j u (by
    rw [List.getElem?_take] at hu
    split at hu
    · exact hu
    · cases hu)⟩
section
variable {P : Program} {L : Env} {w w0 : World} {O : List Res} {x : Operand} {ty t : TypeId} {H : PH}
/-- A part of a variable. -/
theorem r_loadBP (i m : Nat) {b off : Nat} {cs c : List Value} {t' : TypeId} {dd : TypeDesc} {zz : Value} {bt : Nat} (hx : ev L x = some (.pointer (some ⟨b, off, none⟩))) (ht : P.underlying t = some dd) (hd : aggT dd = true) (hz : Zr P t zz c.length bt) (hL : Lcl w0 O w) (hi : nthR O i = some (.box b cs t')) (hc : (cs.drop off).take m = c) : RunsAt P L w (.load t x) ty (.agg c.toArray) := by
  have h1 := ((box_ptr hL hi).add off).part m
  rw [hc, Addr.add_lit, Nat.zero_add] at h1
  exact r_loadN hx ht hd hz h1 (Le.refl _)
/-- A part of what a pointer shows. -/
theorem r_loadP (m : Nat) {p : Addr} {cs c : List Value} {dd : TypeDesc} {zz : Value} {bt : Nat} (hx : ev L x = some (.pointer (some p))) (ht : P.underlying t = some dd) (hd : aggT dd = true) (hz : Zr P t zz c.length bt) (hp' : PtrTo H p cs) (hs : Le H (hp w)) (hc : cs.take m = c) : RunsAt P L w (.load t x) ty (.agg c.toArray) := by
  have h1 := hp'.part m
  rw [hc] at h1
  exact r_loadN hx ht hd hz h1 hs
/-- A slice is nil, or it lies somewhere. -/
theorem nil_or {α : Type} {r : Rp α} {v : Value} {l : List α} (h : Vec r H v l) : (v = .slice none 0 0 ∧ l = []) ∨ ∃ A n c, v = .slice (some A) n c := by
  obtain ⟨a, cap, h1, h2, _, h4, _⟩ := h.ex
  cases a with
  | none =>
    have hc := h4 rfl
    have hl : l.length = 0 := by omega
    left
    rw [h1, hl, hc]
    exact ⟨rfl, List.eq_nil_of_length_eq_zero hl⟩
  | some A => exact .inr ⟨A, _, _, h1⟩
theorem r_nilT {y : Operand} {e t' : TypeId} (hx : ev L x = some (.slice none 0 0)) (hy : ev L y = some (.slice none 0 0)) (ht : P.underlying t = some (.slice e)) : RunsAt P L w (.binOp .eql t x y t') ty (.bool true) := by
  intro w' _ ρ hρ dst pos af g
  have key : ∀ dd : Nat, (Op.equalIn (dd + 1) t (.slice none 0 0) (.slice none 0 0)).run P w' = .ok true w' := fun dd => by simp [Op.equalIn, run_underlying ht]
  have k2 : (Op.equal t (.slice none 0 0) (.slice none 0 0)).run P w' = .ok true w' := key 9999
  simp [execOp, hρ x _ hx, hρ y _ hy, eqGuard, binOp, k2]
theorem r_nilF {v : Value} {y : Operand} {e t' : TypeId} (hx : ev L x = some v) (hy : ev L y = some (.slice none 0 0)) (ht : P.underlying t = some (.slice e)) (hv : ∃ A n c, v = .slice (some A) n c) : RunsAt P L w (.binOp .eql t x y t') ty (.bool false) := by
  obtain ⟨A, n, c, rfl⟩ := hv
  intro w' _ ρ hρ dst pos af g
  have key : ∀ dd : Nat, (Op.equalIn (dd + 1) t (.slice (some A) n c) (.slice none 0 0)).run P w' = .ok false w' := fun dd => by simp [Op.equalIn, run_underlying ht]
  have k2 : (Op.equal t (.slice (some A) n c) (.slice none 0 0)).run P w' = .ok false w' := key 9999
  simp [execOp, hρ x _ hx, hρ y _ hy, eqGuard, binOp, k2]
/-- The nil slice is a row of one's own. -/
theorem ownNil {α : Type} (r : Rp α) {e : TypeId} (hL : Lcl w0 O w) (hH : Le H (hp w0)) : OwnH e r H w0 w (.slice none 0 0) ([] : List α) :=
  (row_nilE r H e hL).1.ownH (i := 0) hH rfl (row_nilE r H e hL).2.2
end
end Go.E
