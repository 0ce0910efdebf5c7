/- fmindex: the form of an index, and the index of a form, plainly. -/
import Derived.Test.YtmifkdfaaaaicaaFmE
namespace Go.L
open Go
/-- The row of the whole text. -/
def pri (a : List UInt8) : Nat := (sym a).findIdx fun x => decide (x = -1)
theorem pri_ex (a : List UInt8) : ∃ x ∈ sym a, (decide (x = -1)) = true := by
  obtain ⟨r, hr, e⟩ := op_onto (a := a) (p := 0) (Nat.zero_le _)
  refine ⟨symOf a (op a)[r], ?_, ?_⟩
  · unfold sym; exact List.mem_map.2 ⟨_, List.getElem_mem hr, rfl⟩
  · rw [e]; rfl
theorem pri_lt (a : List UInt8) : pri a < a.length + 1 := by
  have := List.findIdx_lt_length_of_exists (pri_ex a)
  rw [sym_length] at this; exact this
theorem pri_op (a : List UInt8) {r : Nat} (hr : r < (op a).length) : (op a)[r] = 0 ↔ r = pri a := by
  have h1 := pri_lt a
  have hl := op_length a
  have h2 : pri a < (op a).length := by omega
  have h3 : (op a)[pri a] = 0 := by
    have h := List.findIdx_getElem (xs := sym a) (p := fun x => decide (x = -1)) (w := by rw [sym_length]; exact h1)
    have h := of_decide_eq_true h
    have e : (sym a)[pri a]'(by rw [sym_length]; exact h1) = symOf a (op a)[pri a] := by simp [sym]
    have h : symOf a (op a)[pri a] = -1 := e.symm.trans h
    have := symOf_nonneg a (op a)[pri a]
    omega
  constructor
  · intro h; exact op_inj hr h2 (h.trans h3.symm)
  · intro h; subst h; exact h3
theorem pri_sym (a : List UInt8) {r : Nat} (hr : r < (op a).length) : (sym a).getD r default = -1 ↔ r = pri a := by
  rw [sym_get a hr, ← pri_op a hr]
  have := symOf_nonneg a (op a)[r]
  constructor
  · intro h; omega
  · intro h; rw [h]; rfl
/-- The bytes of symbols. -/
def bod (s : List Int) : List UInt8 := (s.filter fun x => decide (x ≠ -1)).map u8
theorem bod_append (s t : List Int) : bod (s ++ t) = bod s ++ bod t := by unfold bod; rw [List.filter_append, List.map_append]
theorem bod_none : bod [-1] = [] := rfl
theorem bod_one {x : Int} (h : x ≠ -1) : bod [x] = [u8 x] := by unfold bod; rw [List.filter_cons_of_pos (by simpa using h)]; rfl
theorem bod_len (s : List Int) : (bod s).length ≤ s.length := by unfold bod; rw [List.length_map]; exact List.length_filter_le _ _
/-- The form of the index of a text. -/
def fmt (a : List UInt8) : List UInt8 := [u8 (a.length : Int), u8 ((a.length : Int) / 256), u8 (pri a : Int), u8 ((pri a : Int) / 256)] ++ bod (sym a)
theorem sym_cut (a : List UInt8) : sym a = (sym a).take (pri a) ++ -1 :: (sym a).drop (pri a + 1) := by
  have h1 := pri_lt a
  have hl := op_length a
  have h : (sym a)[pri a]? = some (-1) := by
    have := (pri_sym a (r := pri a) (by omega)).2 rfl
    rw [List.getD_eq_getElem?_getD, List.getElem?_eq_getElem (by rw [sym_length]; exact h1)] at this
    rw [List.getElem?_eq_getElem (by rw [sym_length]; exact h1)]
    exact congrArg some this
  conv => lhs; rw [← List.take_append_drop (pri a) (sym a)]
  congr 1
  rw [List.drop_eq_getElem?_toList_append, h]
  rfl
theorem sym_mem {a : List UInt8} {x : Int} {k : Nat} (h : (sym a)[k]? = some x) (hk : k ≠ pri a) : 0 ≤ x ∧ x < 256 := by
  have hl : k < (sym a).length := (List.getElem?_eq_some_iff.1 h).1
  have hr : k < (op a).length := by rw [op_length]; rw [sym_length] at hl; exact hl
  have e : (sym a).getD k default = x := by rw [List.getD_eq_getElem?_getD, h]; rfl
  rw [sym_get a hr] at e
  have h0 : (op a)[k] ≠ 0 := fun h => hk ((pri_op a hr).1 h)
  have := symOf_nonneg a (op a)[k]
  have := symOf_lt a (op a)[k]
  omega
theorem bod_id {s : List Int} (h : ∀ x ∈ s, 0 ≤ x ∧ x < 256) : (bod s).map (fun c => (c.toNat : Int)) = s ∧ (bod s).length = s.length := by
  induction s with
  | nil => exact ⟨rfl, rfl⟩
  | cons x s ih =>
    have hx := h x (by simp)
    have ih := ih fun y hy => h y (by simp [hy])
    have e : bod (x :: s) = u8 x :: bod s := by
      show bod ([x] ++ s) = _
      rw [bod_append, bod_one (by omega)]; rfl
    rw [e, List.map_cons, ih.1, u8_toNat, List.length_cons, ih.2]
    constructor
    · congr 1; omega
    · rfl
theorem bod_sym (a : List UInt8) : (bod (sym a)).map (fun c => (c.toNat : Int)) = (sym a).take (pri a) ++ (sym a).drop (pri a + 1) ∧ (bod (sym a)).length = a.length := by
  have h1 := pri_lt a
  have e : bod (sym a) = bod ((sym a).take (pri a) ++ (sym a).drop (pri a + 1)) := by
    conv => lhs; rw [sym_cut a]
    rw [bod_append, bod_append]
    congr 1
  have hm : ∀ x ∈ (sym a).take (pri a) ++ (sym a).drop (pri a + 1), 0 ≤ x ∧ x < 256 := by
    intro x hx
    rcases List.mem_append.1 hx with hx | hx
    · obtain ⟨k, hk, e⟩ := List.mem_iff_getElem.1 hx
      have hk' : k < pri a := by rw [List.length_take] at hk; omega
      refine sym_mem (a := a) (k := k) ?_ (by omega)
      rw [← List.getElem?_take_of_lt hk', List.getElem?_eq_getElem hk, e]
    · obtain ⟨k, hk, e⟩ := List.mem_iff_getElem.1 hx
      refine sym_mem (a := a) (k := pri a + 1 + k) ?_ (by omega)
      rw [← List.getElem?_drop, List.getElem?_eq_getElem hk, e]
  have h := bod_id hm
  rw [← e] at h
  refine ⟨h.1, h.2.trans ?_⟩
  rw [List.length_append, List.length_take, List.length_drop, sym_length]; omega
/-- What a form says: the length, the row of the whole text, the symbols. -/
def hN (b : List UInt8) : Nat := (b.getD 0 default).toNat + 256 * (b.getD 1 default).toNat
def hP (b : List UInt8) : Nat := (b.getD 2 default).toNat + 256 * (b.getD 3 default).toNat
def smB (b : List UInt8) : List Int := ((b.drop 4).map fun c => (c.toNat : Int)).take (hP b) ++ -1 :: ((b.drop 4).map fun c => (c.toNat : Int)).drop (hP b)
theorem u8_n {n : Nat} (h : n < 65536) : (u8 (n : Int)).toNat + 256 * (u8 ((n : Int) / 256)).toNat = n := by
  have h1 := u8_toNat (n : Int)
  have h2 := u8_toNat ((n : Int) / 256)
  omega
theorem fmt_head {a : List UInt8} (h : a.length ≤ 2048) : (fmt a).length = 4 + a.length ∧ hN (fmt a) = a.length ∧ hP (fmt a) = pri a ∧ smB (fmt a) = sym a := by
  have h1 := pri_lt a
  have hp : hP (fmt a) = pri a := u8_n (by omega)
  refine ⟨?_, u8_n (by omega), hp, ?_⟩
  · unfold fmt; rw [List.length_append, (bod_sym a).2]; rfl
  · unfold smB
    rw [hp, show (fmt a).drop 4 = bod (sym a) from rfl, (bod_sym a).1]
    have hl : ((sym a).take (pri a)).length = pri a := by rw [List.length_take, sym_length]; omega
    rw [List.take_left' hl, List.drop_left' hl]
    exact (sym_cut a).symm
theorem or_n (x y : UInt8) : ((((x.toNat : Int).toNat ||| ((y.toNat : Int) * 256).toNat : Nat)) : Int) = ((x.toNat + 256 * y.toNat : Nat) : Int) := by
  have e : ((y.toNat : Int) * 256).toNat = 2 ^ 8 * y.toNat := by omega
  have hx := x.toNat_lt
  rw [e, Int.toNat_natCast, Nat.or_comm, ← Nat.two_pow_add_eq_or_of_lt (by omega)]
  omega
end Go.L
namespace Go.Proofs.Ytmifkdfaaaaicaa
open Go Go.L
theorem fmt_inj {a b : List UInt8} (ha : a.length ≤ 2048) (hb : b.length ≤ 2048) (h : fmt a = fmt b) : a = b := by
  have h1 := (fmt_head ha).2.2.2
  have h2 := (fmt_head hb).2.2.2
  rw [h] at h1
  have hs : sym a = sym b := h1.symm.trans h2
  have f1 := from_text ha
  have f2 := from_text hb
  rw [hs, f2] at f1
  have hi : idx b = idx a := (Prod.mk.inj (Option.some.inj f1)).1
  have t1 := fm_text a ha
  have t2 := fm_text b hb
  rw [hi, t1] at t2
  exact Option.some.inj t2
theorem slices_index (a : List UInt8) (h : a.length ≤ 2048) : slices_Index_int_int (sym a) (-1) = some (pri a : Int) := by
  have h1 := pri_lt a
  have hl := op_length a
  have hs := sym_length a
  refine run_count (b := slices_Index_int_int_bl2 (sym a) (-1)) (fun k => (k : Int)) (pri a) (fun k hk => ?_) ?_ 0 (Nat.zero_le _)
  · unfold slices_Index_int_int_bl2
    rw [if_pos (by omega), chk_pos (by omega), Int.toNat_natCast, if_neg (fun e => by have := (pri_sym a (r := k) (by omega)).1 e.symm; omega), chk_pos (by constructor <;> omega)]
    rfl
  · unfold slices_Index_int_int_bl2
    rw [if_pos (by omega), chk_pos (by omega), Int.toNat_natCast, if_pos ((pri_sym a (r := pri a) (by omega)).2 rfl).symm]
theorem take_succ_sym {a : List UInt8} {k : Nat} (hk : k < (op a).length) : (sym a).take (k + 1) = (sym a).take k ++ [symOf a (op a)[k]] := by
  rw [List.take_add_one]
  have : (sym a)[k]? = some (symOf a (op a)[k]) := by simp [sym, hk]
  rw [this]; rfl
theorem fm_bytes (a : List UInt8) (h : a.length ≤ 2048) : fmindex_Index_Bytes (idx a) = some (fmt a) := by
  have h1 := pri_lt a
  have hl := op_length a
  have hs := sym_length a
  unfold fmindex_Index_Bytes
  show Option.bind (fmindex_Index_Length (idx a)) _ = _
  rw [fm_len a h, Option.bind_some]
  show Option.bind (slices_Index_int_int (sym a) (-1)) _ = _
  rw [slices_index a h, Option.bind_some, show max (pri a : Int) 0 = (pri a : Int) by omega]
  have key := run_count (b := fmindex_Index_Bytes_bl2 (idx a)) (m := some (fmt a)) (fun k => ([u8 (a.length : Int), u8 ((a.length : Int) / 256), u8 (pri a : Int), u8 ((pri a : Int) / 256)] ++ bod ((sym a).take k), (k : Int))) (a.length + 1) (fun k hk => by
    unfold fmindex_Index_Bytes_bl2
    simp only
    have e1 : (idx a).1 = sym a := rfl
    have hk' : k < (op a).length := by omega
    have hb := bod_len ((sym a).take k)
    have htk : ((sym a).take k).length = k := by rw [List.length_take]; omega
    rw [e1, if_pos (by omega), chk_pos (by omega), Int.toNat_natCast, take_succ_sym hk', bod_append, sym_get a hk']
    by_cases h0 : symOf a (op a)[k] = -1
    · rw [if_pos h0, chk_pos (by constructor <;> omega), h0, bod_none, List.append_nil]
      rfl
    · rw [if_neg h0, chk_pos (by simp only [List.length_append, List.length_cons, List.length_nil]; constructor <;> omega), chk_pos (by constructor <;> omega), bod_one h0, List.append_assoc]
      rfl) (by
    unfold fmindex_Index_Bytes_bl2
    simp only
    rw [if_neg (by show ¬ (((a.length + 1 : Nat) : Int) < ((sym a).length : Int)); omega), List.take_of_length_le (by omega)]
    rfl) 0 (by omega)
  exact key
/-- The rows in front of a row of any symbols with one mark stay among the rows. -/
theorem bef_small {s : List Int} {p : Nat} (hp : p < s.length) (hm : s.getD p default = -1) {r : Nat} (hr : r < s.length) : (befL s).getD r default < (s.length : Int) := by
  rw [befL_get s hr]
  by_cases h : s.getD r default < 0
  · rw [if_pos h]; omega
  · rw [if_neg h]
    have hpr : p ≠ r := fun e => h (by rw [← e, hm]; decide)
    unfold befC
    have h1 : (List.range s.length).countP (fun k => decide (0 ≤ s.getD k default ∧ (s.getD k default < s.getD r default ∨ s.getD k default = s.getD r default ∧ k < r))) + (List.range s.length).countP (fun k => decide (k = p) || decide (k = r)) ≤ s.length := by
      rw [← countP_or _ _ (fun k => decide (0 ≤ s.getD k default ∧ (s.getD k default < s.getD r default ∨ s.getD k default = s.getD r default ∧ k < r)) || (decide (k = p) || decide (k = r))) (fun _ => rfl) (fun k hk => by
        have hk := of_decide_eq_true hk
        have h1 : k ≠ p := fun e => by rw [e, hm] at hk; omega
        have h2 : k ≠ r := fun e => by rw [e] at hk; omega
        rw [decide_eq_false h1, decide_eq_false h2]; rfl)]
      have := List.countP_le_length (p := fun k => decide (0 ≤ s.getD k default ∧ (s.getD k default < s.getD r default ∨ s.getD k default = s.getD r default ∧ k < r)) || (decide (k = p) || decide (k = r))) (l := List.range s.length)
      rw [List.length_range] at this; exact this
    have h2 : (List.range s.length).countP (fun k => decide (k = p) || decide (k = r)) = (List.range s.length).countP (fun k => decide (k = p)) + (List.range s.length).countP (fun k => decide (k = r)) :=
      countP_or _ _ _ (fun _ => rfl) (fun k hk => by have hk := of_decide_eq_true hk; exact decide_eq_false (by omega)) _
    have h3 : ∀ q, q < s.length → 1 ≤ (List.range s.length).countP (fun k => decide (k = q)) := fun q hq => List.countP_pos_iff.2 ⟨q, List.mem_range.2 hq, decide_eq_true rfl⟩
    have := h3 p hp
    have := h3 r hr
    omega
theorem wlk_true {s B : List Int} : ∀ (i : Nat) (A : List Int) (r : Nat), (wlk s B i A r).2 = true → ∃ A', (wlk s B i A r).1 = (s, B, A')
  | 0, A, r, _ => ⟨_, rfl⟩
  | i + 1, A, r, h => by
    unfold wlk at h ⊢
    by_cases h1 : s.getD r default = -1
    · rw [if_pos h1] at h; cases h
    · rw [if_neg h1] at h ⊢; exact wlk_true i _ _ h
theorem text_any {s A : List Int} {p : Nat} (hl : s.length ≤ 2049) (hp : p < s.length) (hm : s.getD p default = -1) : ∃ t, fmindex_Index_text (s, befL s, A) = some t ∧ t.length + 1 = s.length := by
  have key : ∀ (i : Nat) (o : List UInt8) (r : Nat), r < s.length → i ≤ o.length → o.length + 1 = s.length → ∃ t, fmindex_Index_text_l2 (s, befL s, A) (o, (r : Int), (i : Int) - 1) = some t ∧ t.length + 1 = s.length := by
    intro i
    induction i with
    | zero =>
      intro o r _ _ ho
      refine ⟨o, run_inr (b := fmindex_Index_text_bl2 (s, befL s, A)) (m := some o) ?_, ho⟩
      unfold fmindex_Index_text_bl2
      simp only
      rw [if_neg (by omega)]; rfl
    | succ i ih =>
      intro o r hr hi ho
      have hb := bef_small hp hm hr
      have hb0 : 0 ≤ (befL s).getD r default := by rw [befL_get s hr]; split <;> omega
      obtain ⟨t, h1, h2⟩ := ih (o.set i (u8 (s.getD r default))) ((befL s).getD r default).toNat (by omega) (by rw [List.length_set]; omega) (by rw [List.length_set]; exact ho)
      refine ⟨t, ?_, h2⟩
      rw [← h1]
      refine run_inl ?_
      unfold fmindex_Index_text_bl2
      simp only
      rw [if_pos (by omega), chk_pos (by omega), chk_pos (by omega), chk_pos (by rw [befL_length]; omega), chk_pos (by constructor <;> omega), Int.toNat_natCast, show (((i + 1 : Nat) : Int) - 1).toNat = i by omega, Int.toNat_of_nonneg hb0]
      congr 4; omega
  unfold fmindex_Index_text fmindex_Index_Length fmindex_transform_rows
  simp only [Option.bind_some]
  have e : max (s.length : Int) 1 - 1 = ((s.length - 1 : Nat) : Int) := by omega
  rw [chk_pos (by constructor <;> omega), e, Option.bind_some, chk_pos (by omega), Int.toNat_natCast, List.length_replicate, chk_pos (by constructor <;> omega)]
  exact key (s.length - 1) _ 0 (by omega) (by simp) (by simp; omega)
theorem smB_length {b : List UInt8} (h4 : 4 ≤ b.length) (hp : hP b ≤ b.length - 4) : (smB b).length = b.length - 3 ∧ (smB b).getD (hP b) default = -1 ∧ ∀ r, r < (smB b).length → (smB b).getD r default < 256 := by
  have hl : (((b.drop 4).map fun c => (c.toNat : Int)).take (hP b)).length = hP b := by rw [List.length_take, List.length_map, List.length_drop]; omega
  refine ⟨?_, ?_, ?_⟩
  · unfold smB; rw [List.length_append, hl, List.length_cons, List.length_drop, List.length_map, List.length_drop]; omega
  · unfold smB
    rw [List.getD_eq_getElem?_getD, List.getElem?_append_right (by omega), hl, Nat.sub_self]; rfl
  · intro r hr
    rw [List.getD_eq_getElem?_getD, List.getElem?_eq_getElem hr]
    show (smB b)[r] < 256
    have hm := List.getElem_mem hr
    have hc : ∀ x ∈ (b.drop 4).map (fun c => (c.toNat : Int)), x < 256 := fun x hx => by
      obtain ⟨c, _, rfl⟩ := List.mem_map.1 hx
      have := c.toNat_lt
      omega
    rcases List.mem_append.1 hm with h | h
    · exact hc _ (List.mem_of_mem_take h)
    · rcases List.mem_cons.1 h with h | h
      · rw [h]; decide
      · exact hc _ (List.mem_of_mem_drop h)
theorem open_loop {b : List UInt8} (hl : b.length ≤ 4096) (x3 : Int × Int) : fmindex_Open_l5 b x3 ([], 0) = fmindex_Open_k4 b x3 ((b.drop 4).map fun c => (c.toNat : Int)) := by
  have hd : (b.drop 4).length ≤ 4096 := by rw [List.length_drop]; omega
  refine run_count (b := fmindex_Open_bl5 b x3) (fun k => (((b.drop 4).take k).map (fun c => (c.toNat : Int)), (k : Int))) (b.drop 4).length (fun k hk => ?_) ?_ 0 (Nat.zero_le _)
  · unfold fmindex_Open_bl5
    simp only
    have e4 : (4 : Int).toNat = 4 := rfl
    have ht : (((b.drop 4).take k).map (fun c => (c.toNat : Int))).length = k := by rw [List.length_map, List.length_take]; omega
    rw [e4, if_pos (by omega), chk_pos (by omega), chk_pos (by rw [ht]; simp only [List.length_singleton]; constructor <;> omega), chk_pos (by constructor <;> omega), Int.toNat_natCast, List.take_add_one, List.getElem?_eq_getElem hk, List.map_append, List.getD_eq_getElem?_getD, List.getElem?_eq_getElem hk]
    rfl
  · unfold fmindex_Open_bl5
    simp only
    have e4 : (4 : Int).toNat = 4 := rfl
    rw [e4, if_neg (by omega), List.take_length]
theorem fm_open (b : List UInt8) : (∃ t, t.length ≤ 2048 ∧ fmt t = b ∧ fmindex_Open b = some (idx t, (0, 0))) ∨ ((∀ t, t.length ≤ 2048 → fmt t ≠ b) ∧ fmindex_Open b = some (([], [], []), (16, -1))) := by
  unfold fmindex_Open fmindex_fault
  rw [Option.bind_some]
  by_cases h4 : (b.length : Int) < 4
  · refine .inr ⟨fun t ht e => ?_, ?_⟩
    · have := (fmt_head ht).1; rw [e] at this; omega
    · rw [if_pos h4]; rfl
  · have hb1 := (b.getD 1 default).toNat_lt
    have hb3 := (b.getD 3 default).toNat_lt
    have hb0 := (b.getD 0 default).toNat_lt
    have hb2 := (b.getD 2 default).toNat_lt
    have t0 : (0 : Int).toNat = 0 := rfl
    have t1 : (1 : Int).toNat = 1 := rfl
    have t2 : (2 : Int).toNat = 2 := rfl
    have t3 : (3 : Int).toNat = 3 := rfl
    rw [t0, t1, t2, t3, if_neg h4, chk_pos (by omega), chk_pos (by omega), chk_pos (by constructor <;> omega), chk_pos (by omega), chk_pos (by omega), chk_pos (by omega), chk_pos (by constructor <;> omega), chk_pos (by omega), or_n, or_n]
    show (∃ t, t.length ≤ 2048 ∧ fmt t = b ∧ (if (2048 : Int) < (hN b : Int) ∨ (hN b : Int) < (hP b : Int) then _ else _) = _) ∨ _ ∧ (if (2048 : Int) < (hN b : Int) ∨ (hN b : Int) < (hP b : Int) then _ else _) = _
    by_cases hc : (2048 : Int) < (hN b : Int) ∨ (hN b : Int) < (hP b : Int)
    · refine .inr ⟨fun t ht e => ?_, ?_⟩
      · have h := fmt_head ht
        rw [e] at h
        have := pri_lt t
        omega
      · rw [if_pos hc]; rfl
    · rw [if_neg hc, chk_pos (by show I64 (4 + (hN b : Int)); constructor <;> omega)]
      show (∃ t, t.length ≤ 2048 ∧ fmt t = b ∧ (if (b.length : Int) = 4 + (hN b : Int) then _ else _) = _) ∨ _ ∧ (if (b.length : Int) = 4 + (hN b : Int) then _ else _) = _
      by_cases hn : (b.length : Int) = 4 + (hN b : Int)
      · rw [if_pos hn, chk_pos (by omega), open_loop (by omega)]
        unfold fmindex_Open_k4
        rw [t2, t3, or_n]
        have hlen : ((b.drop 4).map fun c => (c.toNat : Int)).length = hN b := by rw [List.length_map, List.length_drop]; omega
        have hs := smB_length (b := b) (by omega) (by omega)
        rw [chk_pos (by rw [hlen]; show (0 ≤ (hP b : Int) ∧ (hP b : Int) ≤ _) ∧ _; omega)]
        have hfs : fmindex_fromSymbols (smB b) = some (wlk (smB b) (befL (smB b)) ((smB b).length - 1) (List.replicate (smB b).length 0) 0) :=
          from_gen (by omega) (by omega) hs.2.2 (fun r hr => bef_small (p := hP b) (by omega) hs.2.1 hr)
        show (∃ t, t.length ≤ 2048 ∧ fmt t = b ∧ Option.bind (fmindex_fromSymbols (smB b)) _ = _) ∨ _ ∧ Option.bind (fmindex_fromSymbols (smB b)) _ = _
        by_cases hex : ∃ t, t.length ≤ 2048 ∧ fmt t = b
        · obtain ⟨t, ht, e⟩ := hex
          refine .inl ⟨t, ht, e, ?_⟩
          have hst : smB b = sym t := by rw [← e]; exact (fmt_head ht).2.2.2
          rw [hst, from_text ht, Option.bind_some, if_neg (show ¬ (!true) = true by decide)]
          show Option.bind (fmindex_Index_text (idx t)) _ = _
          rw [fm_text t ht, Option.bind_some, fm_build, if_pos ht, Option.bind_some, if_pos ⟨rfl, rfl⟩]
          show Option.bind (fmindex_Index_Bytes (idx t)) _ = _
          rw [fm_bytes t ht, Option.bind_some, e]
          unfold bytes_Equal
          rw [Option.bind_some, decide_eq_true rfl]
          rfl
        · have hno : ∀ t, t.length ≤ 2048 → fmt t ≠ b := fun t ht e => hex ⟨t, ht, e⟩
          refine .inr ⟨hno, ?_⟩
          rw [hfs, Option.bind_some]
          cases hw : (wlk (smB b) (befL (smB b)) ((smB b).length - 1) (List.replicate (smB b).length 0) 0).2 with
          | false => rfl
          | true =>
            rw [if_neg (by decide)]
            obtain ⟨A, hA⟩ := wlk_true _ _ _ hw
            rw [hA]
            obtain ⟨t, h1, h2⟩ := text_any (s := smB b) (A := A) (p := hP b) (by omega) (by omega) hs.2.1
            have ht : t.length ≤ 2048 := by omega
            show Option.bind (fmindex_Index_text (smB b, befL (smB b), A)) _ = _
            rw [h1, Option.bind_some, fm_build, if_pos ht, Option.bind_some, if_pos ⟨rfl, rfl⟩]
            show Option.bind (fmindex_Index_Bytes (idx t)) _ = _
            rw [fm_bytes t ht, Option.bind_some]
            unfold bytes_Equal
            rw [Option.bind_some, decide_eq_false (hno t ht)]
            rfl
      · refine .inr ⟨fun t ht e => ?_, ?_⟩
        · have h := fmt_head ht
          rw [e] at h
          omega
        · rw [if_neg hn]; rfl
theorem open_fmt (a : List UInt8) (h : a.length ≤ 2048) : fmindex_Open (fmt a) = some (idx a, (0, 0)) := by
  rcases fm_open (fmt a) with ⟨t, ht, e, h1⟩ | ⟨h1, _⟩
  · rw [h1, fmt_inj ht h e]
  · exact absurd rfl (h1 a h)
end Go.Proofs.Ytmifkdfaaaaicaa
