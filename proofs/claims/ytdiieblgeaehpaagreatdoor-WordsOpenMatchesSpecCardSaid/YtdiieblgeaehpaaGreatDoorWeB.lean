/- Words: the reference's index of numbers, parsed plainly. -/
import Derived.Test.YtdiieblgeaehpaaGreatDoorWeA
import Derived.Test.YtdiieblgeaehpaaGreatDoorWdX
namespace Go.L
open Go Go.Proofs.YtdiieblgeaehpaaGreatDoor
def nxt (last : Hit) (a b : Int) : Hit := (last.1 + a - 1, (if 1 < a then -1 else last.2) + b)
def pH (n : Int) (es : HM) : Nat → Hit → List Int → Option (List Hit × List Int)
  | 0, _, ns => some ([], ns)
  | c + 1, last, a :: b :: ns => if 64 < a ∨ 2048 < b ∨ n ≤ (nxt last a b).1 ∨ 2048 ≤ (nxt last a b).2 ∨ nxt last a b ∈ es.flatMap Prod.snd then none else (pH n es c (nxt last a b) ns).map fun p => (nxt last a b :: p.1, p.2)
  | _ + 1, _, _ => none
def pW : Nat → List Int → Option (List UInt8 × List Int)
  | 0, ns => some ([], ns)
  | c + 1, a :: ns => if 256 < a then none else (pW c ns).map fun p => (u8 (a - 1) :: p.1, p.2)
  | _ + 1, [] => none
theorem pH_ok {n : Int} (es : HM) : ∀ (c : Nat) (last : Hit) (r : List Int) (H : List Hit) (r' : List Int), (∀ x ∈ r, 1 ≤ x) → 0 ≤ last.1 → -1 ≤ last.2 → pH n es c last r = some (H, r') → r = hitsN last H ++ r' ∧ HW n last H ∧ H.length = c ∧ ∀ h ∈ H, h ∉ es.flatMap Prod.snd
  | 0, last, r, H, r', _, _, _, h => by
    unfold pH at h
    cases h
    exact ⟨rfl, trivial, rfl, by simp⟩
  | c + 1, last, [], H, r', _, _, _, h => by
    unfold pH at h
    cases h
  | c + 1, last, [_], H, r', _, _, _, h => by
    unfold pH at h
    cases h
  | c + 1, last, a :: b :: r, H, r', hr, l1, l2, h => by
    have ha := hr a (by simp)
    have hb := hr b (by simp)
    unfold pH at h
    split at h
    · cases h
    rename_i hc
    cases hq : pH n es c (nxt last a b) r with
    | none =>
      rw [hq] at h
      cases h
    | some p =>
      rw [hq] at h
      cases h
      have n1 : (nxt last a b).1 = last.1 + a - 1 := rfl
      have n2 : (nxt last a b).2 = (if 1 < a then -1 else last.2) + b := rfl
      have hc' : ¬ n ≤ (nxt last a b).1 ∧ ¬ 2048 ≤ (nxt last a b).2 ∧ nxt last a b ∉ es.flatMap Prod.snd := by
        refine ⟨fun h => hc (.inr (.inr (.inl h))), fun h => hc (.inr (.inr (.inr (.inl h)))), fun h => hc (.inr (.inr (.inr (.inr h))))⟩
      obtain ⟨c1, c2, c3⟩ := hc'
      obtain ⟨k1, k2, k3, k4⟩ := pH_ok es c (nxt last a b) r p.1 p.2 (fun x hx => hr x (by simp [hx])) (by omega) (by rw [n2]; split <;> omega) hq
      refine ⟨?_, ⟨by omega, by omega, fun e => ?_, ?_, by omega, k2⟩, by rw [List.length_cons, k3], fun h hh => ?_⟩
      · show a :: b :: r = ((if (nxt last a b).1 = last.1 then [1, (nxt last a b).2 - last.2] else [1 + (nxt last a b).1 - last.1, (nxt last a b).2 + 1]) ++ hitsN (nxt last a b) p.1) ++ p.2
        rw [List.append_assoc, ← k1]
        by_cases h1 : 1 < a
        · rw [if_neg (by omega), n1, n2, if_pos h1, show 1 + (last.1 + a - 1) - last.1 = a by omega, show (-1 : Int) + b + 1 = b by omega]
          rfl
        · rw [if_pos (by omega), n2, if_neg h1, show last.2 + b - last.2 = b by omega, show a = 1 by omega]
          rfl
      · rw [n2, if_neg (by omega)]
        omega
      · rw [n2]
        split <;> omega
      · rcases List.mem_cons.1 hh with rfl | hh
        · exact c3
        · exact k4 h hh
theorem pH_form {n : Int} (hn : n ≤ 64) (es : HM) : ∀ (H : List Hit) (last : Hit) (r : List Int), 0 ≤ last.1 → -1 ≤ last.2 → HW n last H → (∀ h ∈ H, h ∉ es.flatMap Prod.snd) → pH n es H.length last (hitsN last H ++ r) = some (H, r)
  | [], _, _, _, _, _, _ => rfl
  | h :: H, last, r, l1, l2, hw, hf => by
    obtain ⟨w1, w2, w3, w4, w5, w6⟩ := hw
    have ih := pH_form hn es H h r (by omega) (by omega) w6 (fun k hk => hf k (List.mem_cons_of_mem _ hk))
    have hfh := hf h (List.mem_cons_self ..)
    have fin : ∀ a b : Int, nxt last a b = h → ¬ 64 < a → ¬ 2048 < b → pH n es (h :: H).length last ([a, b] ++ hitsN h H ++ r) = some (h :: H, r) := fun a b e h1 h2 => by
      rw [List.append_assoc]
      show pH n es (H.length + 1) last (a :: b :: (hitsN h H ++ r)) = _
      unfold pH
      rw [e, ih, if_neg (fun hh => by
        rcases hh with hh | hh | hh | hh | hh
        · exact h1 hh
        · exact h2 hh
        · omega
        · omega
        · exact hfh hh)]
      rfl
    show pH n es (h :: H).length last (((if h.1 = last.1 then [1, h.2 - last.2] else [1 + h.1 - last.1, h.2 + 1]) ++ hitsN h H) ++ r) = _
    by_cases hs : h.1 = last.1
    · have := w3 hs
      rw [if_pos hs]
      refine fin _ _ (Prod.ext ?_ ?_) (by omega) (by omega)
      · show last.1 + 1 - 1 = h.1
        omega
      · show (if (1 : Int) < 1 then -1 else last.2) + (h.2 - last.2) = h.2
        rw [if_neg (by omega)]
        omega
    · rw [if_neg hs]
      refine fin _ _ (Prod.ext ?_ ?_) (by omega) (by omega)
      · show last.1 + (1 + h.1 - last.1) - 1 = h.1
        omega
      · show (if (1 : Int) < 1 + h.1 - last.1 then -1 else last.2) + (h.2 + 1) = h.2
        rw [if_pos (by omega)]
        omega
theorem pW_ok : ∀ (c : Nat) (r : List Int) (w : List UInt8) (r' : List Int), (∀ x ∈ r, 1 ≤ x) → pW c r = some (w, r') → r = w.map byteN ++ r' ∧ w.length = c
  | 0, r, w, r', _, h => by
    unfold pW at h
    cases h
    exact ⟨rfl, rfl⟩
  | c + 1, [], w, r', _, h => by
    unfold pW at h
    cases h
  | c + 1, a :: r, w, r', hr, h => by
    have ha := hr a (by simp)
    unfold pW at h
    split at h
    · cases h
    rename_i hc
    cases hq : pW c r with
    | none =>
      rw [hq] at h
      cases h
    | some p =>
      rw [hq] at h
      cases h
      obtain ⟨k1, k2⟩ := pW_ok c r p.1 p.2 (fun x hx => hr x (by simp [hx])) hq
      have hb : ∃ b : UInt8, a - 1 = (b.toNat : Int) := ⟨UInt8.ofNat (a - 1).toNat, by rw [UInt8.toNat_ofNat']; omega⟩
      obtain ⟨b, hb⟩ := hb
      refine ⟨?_, by rw [List.length_cons, k2]⟩
      rw [hb, byte_self, List.map_cons, List.cons_append, ← k1]
      unfold byteN
      rw [← hb, show a - 1 + 1 = a by omega]
theorem pW_form : ∀ (w : List UInt8) (r : List Int), pW w.length (w.map byteN ++ r) = some (w, r)
  | [], _ => rfl
  | b :: w, r => by
    have hb := b.toNat_lt
    have ih := pW_form w r
    show pW (w.length + 1) (byteN b :: (w.map byteN ++ r)) = _
    unfold pW
    rw [ih]
    unfold byteN
    rw [if_neg (by omega), show (b.toNat : Int) + 1 - 1 = (b.toNat : Int) by omega, byte_self]
    rfl
end Go.L
namespace Go.Proofs.YtdiieblgeaehpaaGreatDoor
open Go Go.L
/-- The numbers of a word's hits, as the reference writes them. -/
theorem entry4 {H : List Hit} (hl : H.length ≤ 1000000000) (hb : ∀ h ∈ H, HB h) : ∀ (r : List Hit) (j : Nat) (p : Hit) (l : List Int), H.drop j = r → l.length + 2 * r.length ≤ 5000000000 → (j = 0 → p = (0, -1)) → (∀ k, j = k + 1 → p = H.getD k default ∧ HB p) →
    run (ref4_entryForm_bl4 H) (l, (j : Int)) = some (l ++ hitsN p r)
  | [], j, p, l, hd, _, _, _ => by
    have hlen := len_drop hd
    refine run_inr ?_
    unfold ref4_entryForm_bl4 ref4_entryForm_k3 hitsN
    simp only
    rw [if_neg (by omega), List.append_nil]
  | h :: r, j, p, l, hd, hll, h0, hk => by
    obtain ⟨hg, hd', hlt⟩ := getD_drop hd
    have hh := hb h (List.mem_of_mem_drop (by rw [hd]; exact List.mem_cons_self ..))
    have hh' := hh
    unfold HB at hh
    have hrl : (h :: r).length = r.length + 1 := rfl
    have ih := entry4 hl hb r (j + 1) h
    have step : ∀ x y : Int, [x, y] ++ hitsN h r = hitsN p (h :: r) → ref4_entryForm_bl4 H (l, (j : Int)) = some (.inl (l ++ [x, y], ((j + 1 : Nat) : Int))) → run (ref4_entryForm_bl4 H) (l, (j : Int)) = some (l ++ hitsN p (h :: r)) := fun x y e1 e2 => by
      rw [run_inl e2, ih (l ++ [x, y]) hd' (by rw [List.length_append]; show l.length + 2 + _ ≤ _; omega) (by omega) (fun k e => ⟨by
        obtain rfl : k = j := by omega
        exact hg.symm, hh'⟩), List.append_assoc, e1]
    cases j with
    | zero =>
      have hp := h0 rfl
      subst hp
      refine step (h.1 + 1) (h.2 + 1) ?_ ?_
      · show _ = (if h.1 = (0 : Int) then [1, h.2 - (-1)] else [1 + h.1 - 0, h.2 + 1]) ++ hitsN h r
        congr 1
        split
        · rename_i e
          rw [e, Int.sub_neg]
          rfl
        · rw [Int.sub_zero, Int.add_comm]
      · unfold ref4_entryForm_bl4
        simp only
        rw [if_pos (by omega), if_pos (by rfl), chk_pos ⟨by omega, by omega⟩, Int.toNat_natCast, hg, chk_pos (by constructor <;> omega), chk_pos ⟨by omega, by omega⟩, chk_pos (by constructor <;> omega), chk_pos (by show Go.E.Cap 8 (l.length + 2); constructor <;> omega), chk_pos (by constructor <;> omega)]
        rfl
    | succ k =>
      obtain ⟨hp, hpb⟩ := hk k rfl
      unfold HB at hpb
      have e : (((k + 1 : Nat) : Int) - 1).toNat = k := by omega
      by_cases hq : h.1 = p.1
      · refine step 1 (h.2 - p.2) ?_ ?_
        · show _ = (if h.1 = p.1 then [1, h.2 - p.2] else [1 + h.1 - p.1, h.2 + 1]) ++ hitsN h r
          rw [if_pos hq]
        · unfold ref4_entryForm_bl4
          simp only
          rw [if_pos (by omega), if_neg (by omega), chk_pos ⟨by omega, by omega⟩, chk_pos (by constructor <;> omega), chk_pos ⟨by omega, by omega⟩, Int.toNat_natCast, e, hg, ← hp, if_pos hq, chk_pos ⟨by omega, by omega⟩, chk_pos (by constructor <;> omega), chk_pos ⟨by omega, by omega⟩, chk_pos (by constructor <;> omega), chk_pos (by show Go.E.Cap 8 (l.length + 2); constructor <;> omega), chk_pos (by constructor <;> omega)]
          rfl
      · refine step (h.1 - p.1 + 1) (h.2 + 1) ?_ ?_
        · show _ = (if h.1 = p.1 then [1, h.2 - p.2] else [1 + h.1 - p.1, h.2 + 1]) ++ hitsN h r
          rw [if_neg hq, show h.1 - p.1 + 1 = 1 + h.1 - p.1 by omega]
        · unfold ref4_entryForm_bl4
          simp only
          rw [if_pos (by omega), if_neg (by omega), chk_pos ⟨by omega, by omega⟩, chk_pos (by constructor <;> omega), chk_pos ⟨by omega, by omega⟩, Int.toNat_natCast, e, hg, ← hp, if_neg hq, chk_pos ⟨by omega, by omega⟩, chk_pos (by constructor <;> omega), chk_pos ⟨by omega, by omega⟩, chk_pos (by constructor <;> omega), chk_pos (by constructor <;> omega), chk_pos ⟨by omega, by omega⟩, chk_pos (by constructor <;> omega), chk_pos (by show Go.E.Cap 8 (l.length + 2); constructor <;> omega), chk_pos (by constructor <;> omega)]
          rfl
theorem entry_ref {w : List UInt8} {H : List Hit} (hw : w.length ≤ 1000000000) (hl : H.length ≤ 1000000000) (hb : ∀ h ∈ H, HB h) : ref4_entryForm w H = some (entN (w, H)) := by
  unfold ref4_entryForm ref4_entryForm_l2
  have key : ∀ (r : List UInt8) (i : Nat) (l : List Int), w.drop i = r → l.length + r.length ≤ 1 + w.length → run (ref4_entryForm_bl2 w H) (l, (i : Int)) = some (l ++ (r.map byteN ++ ((H.length : Int) :: hitsN (0, -1) H))) := by
    intro r
    induction r with
    | nil =>
      intro i l hd hll
      have hlen := len_drop hd
      have hll' : l.length ≤ 1 + w.length := hll
      have e := entry4 hl hb H 0 (0, -1) (l ++ [(H.length : Int)]) rfl (by rw [List.length_append]; show l.length + 1 + _ ≤ _; omega) (fun _ => rfl) (fun k e => by omega)
      rw [show ((0 : Nat) : Int) = 0 from rfl] at e
      refine run_inr ?_
      unfold ref4_entryForm_bl2 ref4_entryForm_k1 ref4_entryForm_l4
      simp only
      rw [if_neg (by omega), chk_pos (by show Go.E.Cap 8 (l.length + 1); constructor <;> omega), e, List.append_assoc]
      rfl
    | cons c r ih =>
      intro i l hd hll
      obtain ⟨hg, hd', hlt⟩ := getD_drop hd
      have hc := c.toNat_lt
      rw [List.length_cons] at hll
      have e1 : l ++ ((c :: r).map byteN ++ ((H.length : Int) :: hitsN (0, -1) H)) = (l ++ [byteN c]) ++ (r.map byteN ++ ((H.length : Int) :: hitsN (0, -1) H)) := by simp
      rw [e1, ← ih (i + 1) (l ++ [byteN c]) hd' (by rw [List.length_append]; show l.length + 1 + _ ≤ _; omega)]
      refine run_inl ?_
      unfold ref4_entryForm_bl2
      simp only
      rw [if_pos (by omega), chk_pos ⟨by omega, by omega⟩, Int.toNat_natCast, hg, chk_pos (by constructor <;> omega), chk_pos (by show Go.E.Cap 8 (l.length + 1); constructor <;> omega), chk_pos (by constructor <;> omega)]
      rfl
  have := key w 0 [(w.length : Int)] rfl (by show 1 + _ ≤ _; omega)
  rw [show ((0 : Nat) : Int) = 0 from rfl] at this
  rw [this]
  rfl
theorem taken_eq {es : HM} (hes : es.length ≤ 1000000) (hl : ∀ e ∈ es, e.2.length ≤ 1000000) (h : Hit) : ref4_taken es h = some (decide (h ∈ es.flatMap Prod.snd)) := by
  have inner : ∀ (i : Nat) (e : List UInt8 × List Hit), i < es.length → es.getD i default = e → e.2.length ≤ 1000000 → ∀ (r : List Hit) (j : Nat), e.2.drop j = r → run (ref4_taken_bl4 es h (i : Int)) (j : Int) = if h ∈ r then some (.inr true) else some (.inl ((i + 1 : Nat) : Int)) := by
    intro i e hi he hle r
    induction r with
    | nil =>
      intro j hd
      have hlen := len_drop hd
      rw [if_neg (by simp)]
      refine run_inr ?_
      unfold ref4_taken_bl4 ref4_taken_k3
      rw [chk_pos ⟨by omega, by omega⟩, Int.toNat_natCast, he, if_neg (by omega), chk_pos (by constructor <;> omega)]
      rfl
    | cons x r ih =>
      intro j hd
      obtain ⟨hg, hd', hlt⟩ := getD_drop hd
      by_cases hx : x = h
      · rw [if_pos (by simp [hx])]
        refine run_inr ?_
        unfold ref4_taken_bl4
        rw [chk_pos ⟨by omega, by omega⟩, Int.toNat_natCast, he, if_pos (by omega), chk_pos ⟨by omega, by omega⟩, chk_pos ⟨by omega, by omega⟩, Int.toNat_natCast, hg, if_pos (by rw [hx]; exact ⟨rfl, rfl⟩)]
        rfl
      · have hb : ref4_taken_bl4 es h (i : Int) (j : Int) = some (.inl ((j + 1 : Nat) : Int)) := by
          unfold ref4_taken_bl4
          rw [chk_pos ⟨by omega, by omega⟩, Int.toNat_natCast, he, if_pos (by omega), chk_pos ⟨by omega, by omega⟩, chk_pos ⟨by omega, by omega⟩, Int.toNat_natCast, hg, if_neg (fun e => hx (Prod.ext e.1 e.2)), chk_pos (by constructor <;> omega)]
          rfl
        rw [run_inl hb, ih (j + 1) hd']
        have : h ∈ x :: r ↔ h ∈ r := ⟨fun m => (List.mem_cons.1 m).resolve_left (fun e => hx e.symm), List.mem_cons_of_mem _⟩
        simp only [this]
  have key : ∀ (r : HM) (i : Nat), es.drop i = r → run (ref4_taken_bl2 es h) (i : Int) = some (decide (h ∈ r.flatMap Prod.snd)) := by
    intro r
    induction r with
    | nil =>
      intro i hd
      have hlen := len_drop hd
      refine run_inr ?_
      unfold ref4_taken_bl2 ref4_taken_k1
      rw [if_neg (by omega)]
      rfl
    | cons e r ih =>
      intro i hd
      obtain ⟨hg, hd', hlt⟩ := getD_drop hd
      have hm : e ∈ es := List.mem_of_mem_drop (by rw [hd]; exact List.mem_cons_self ..)
      have k := inner i e hlt hg (hl e hm) e.2 0 rfl
      have hb : ref4_taken_bl2 es h (i : Int) = if h ∈ e.2 then some (.inr true) else some (.inl ((i + 1 : Nat) : Int)) := by
        unfold ref4_taken_bl2 ref4_taken_l4
        rw [if_pos (by omega)]
        exact k
      by_cases hx : h ∈ e.2
      · rw [if_pos hx] at hb
        rw [run_inr (m := some true) hb, decide_eq_true (by rw [List.flatMap_cons]; exact List.mem_append.2 (.inl hx))]
      · rw [if_neg hx] at hb
        rw [run_inl hb, ih (i + 1) hd']
        congr 1
        apply decide_eq_decide.2
        rw [List.flatMap_cons, List.mem_append]
        exact ⟨.inr, fun m => m.resolve_left hx⟩
  exact key es 0 rfl
end Go.Proofs.YtdiieblgeaehpaaGreatDoor
