/- Plain laws: the random bytes that explain shares. No program in sight. -/
import Derived.Test.YtidedcbaahiplaaPolyB
namespace Go.M

theorem getD_set (l : List UInt8) (i j : Nat) (v : UInt8) (hi : i < l.length) : (l.set i v).getD j default = if j = i then v else l.getD j default := by
  simp only [List.getD_eq_getElem?_getD, List.getElem?_set]
  by_cases h : i = j
  · subst h; simp [hi]
  · rw [if_neg h, if_neg (fun e => h e.symm)]
theorem e3_get {row : List UInt8} {c : UInt8} {m n : Nat} {data : List UInt8} {i : Nat} : ∀ k, m * n + k ≤ row.length →
    (e3 row c m n data k).getD i default = row.getD i default ^^^ (if m * n ≤ i ∧ i < m * n + k then gmul c (data.getD (i - m * n) default) else 0)
  | 0, _ => by rw [e3, if_neg (by omega), x_zero]
  | k + 1, hk => by
    rw [e3, getD_set _ _ _ _ (by rw [e3_length]; omega)]
    by_cases h : i = m * n + k
    · rw [if_pos h, ← h, e3_get k (by omega), if_neg (by omega), x_zero, if_pos (by omega)]
      congr 3
      omega
    · rw [if_neg h, e3_get k (by omega)]
      by_cases h2 : m * n ≤ i ∧ i < m * n + k
      · rw [if_pos h2, if_pos (by omega)]
      · rw [if_neg h2, if_neg (by omega)]
theorem place_lt {a b n j : Nat} (hj : j < n) (h : a < b) : a * n + j < b * n := by
  have := Nat.mul_le_mul_right n (show a + 1 ≤ b from h)
  rw [Nat.add_mul] at this
  omega
theorem e2_get {row coefs data : List UInt8} {n a j : Nat} (hd : data.length = n) (hj : j < n) : ∀ m, m * n ≤ row.length →
    (e2 row coefs data n m).getD (a * n + j) default = row.getD (a * n + j) default ^^^ (if a < m then gmul (coefs.getD a default) (data.getD j default) else 0)
  | 0, _ => by rw [e2, if_neg (by omega), x_zero]
  | m + 1, hm => by
    have hm' : m * n + n ≤ row.length := by rw [Nat.add_mul] at hm; omega
    rw [e2, e3_get _ (by rw [e2_length, hd]; exact hm'), e2_get hd hj m (by omega), hd]
    rcases Nat.lt_trichotomy a m with h | h | h
    · have := place_lt hj h
      rw [if_pos h, if_neg (by omega), if_pos (by omega), x_zero]
    · subst h
      rw [if_neg (Nat.lt_irrefl _), if_pos (by omega), if_pos (by omega), x_zero, Nat.add_sub_cancel_left]
    · have := Nat.mul_le_mul_right n (show m + 1 ≤ a from h)
      rw [Nat.add_mul] at this
      rw [if_neg (by omega), if_neg (by omega), if_neg (by omega), x_zero]
theorem e1_get {row : List UInt8} {all : List Sh} {n a j : Nat} (hd : ∀ i, i < all.length → (all.getD i default).2.length = n) (hj : j < n) (hl : row.length = (all.length - 1) * n) (ha : a < all.length - 1) : ∀ i, i ≤ all.length →
    (e1 row all n i).getD (a * n + j) default = row.getD (a * n + j) default ^^^ sm (fun i => gmul ((all.getD i default).2.getD j default) ((bss (kps all) i).getD (a + 1) default)) i
  | 0, _ => by rw [e1, sm, x_zero]
  | i + 1, hi => by
    have hb : (bss (kps all) i).length = all.length := by rw [bss_length (by rw [kps_length]; omega), kps_length]
    rw [e1, e2_get (hd i (by omega)) hj _ (by rw [e1_length, hb, hl]; exact Nat.le_refl _), e1_get hd hj hl ha i (by omega), sm, if_pos (by omega), x_assoc, gmul_comm]
    have hdr : ((bss (kps all) i).drop 1).getD a default = (bss (kps all) i).getD (a + 1) default := by
      simp only [List.getD_eq_getElem?_getD, List.getElem?_drop, Nat.add_comm]
    rw [hdr]
theorem padd_get {a b : List UInt8} {i : Nat} (h : a.length = b.length) : (padd a b).getD i default = a.getD i default ^^^ b.getD i default := by
  rcases Nat.lt_or_ge i a.length with hi | hi
  · simp [padd, List.getElem?_zipWith, hi, show i < b.length by omega]
  · simp only [List.getD_eq_getElem?_getD]
    rw [List.getElem?_eq_none (by rw [padd_length]; omega), List.getElem?_eq_none hi, List.getElem?_eq_none (by omega)]
    exact (x_self _).symm
theorem pmul_get {c : UInt8} {a : List UInt8} {i : Nat} : (pmul c a).getD i default = gmul c (a.getD i default) := by
  rcases Nat.lt_or_ge i a.length with hi | hi
  · simp [pmul, hi]
  · simp only [List.getD_eq_getElem?_getD]
    rw [List.getElem?_eq_none (by rw [pmul_length]; exact hi), List.getElem?_eq_none hi]
    exact (gmul_zero c).symm
theorem lagC_get (p : List UInt8) (y : Nat → UInt8) (a : Nat) : ∀ k, k ≤ p.length → (lagC p y k).getD a default = sm (fun i => gmul (y i) ((bss p i).getD a default)) k
  | 0, _ => by
    rw [lagC, sm]
    simp only [List.getD_eq_getElem?_getD, List.getElem?_replicate]
    split <;> rfl
  | k + 1, hk => by
    rw [lagC, padd_get (by rw [lagC_length p y k (by omega), pmul_length, bss_length (by omega)]), pmul_get, lagC_get p y a k (by omega), sm]
/-- The explaining bytes are the coefficients of the polynomials through the secret and the shares. -/
theorem exR_get {l : List Sh} {S : List UInt8} {a j : Nat} (hd : ∀ i, i < l.length → (l.getD i default).2.length = S.length) (ha : a < l.length) (hj : j < S.length) :
    (exR l S).getD (a * S.length + j) default = (lagC (kps (exl l S)) (fun i => ((exl l S).getD i default).2.getD j default) (kps (exl l S)).length).getD (a + 1) default := by
  have hal : (exl l S).length = l.length + 1 := rfl
  have hd' : ∀ i, i < (exl l S).length → ((exl l S).getD i default).2.length = S.length := by
    intro i hi
    cases i with
    | zero => rfl
    | succ i => exact hd i (by omega)
  have h1 := e1_get (row := List.replicate (l.length * S.length) 0) (all := exl l S) (n := S.length) (a := a) (j := j) hd' hj (by rw [List.length_replicate, hal]; rfl) (by omega) (l.length + 1) (by omega)
  rw [exR, h1, lagC_get _ _ _ _ (Nat.le_refl _), kps_length, hal]
  have e : (List.replicate (l.length * S.length) (0 : UInt8)).getD (a * S.length + j) default = 0 := by
    have := place_lt hj ha
    simp [this]
  rw [e, zero_x]
theorem kb_ne_zero {a : Int} (ha : 1 ≤ a ∧ a ≤ 10) : kb a ≠ 0 := by
  intro h
  have h1 : (kb a).toNat = (0 : UInt8).toNat := by rw [h]
  unfold kb at h1
  simp at h1
  omega
theorem exl_nodup {S R S' : List UInt8} {m : Nat} {l : List Sh} (h : Ofs S m R l) : (kps (exl l S')).Nodup := by
  show (kb 0 :: kps l).Nodup
  refine List.nodup_cons.2 ⟨fun hm => ?_, h.nodup⟩
  obtain ⟨s, hs, e⟩ := List.mem_map.1 hm
  exact kb_ne_zero (h.k s hs) (by rw [e]; rfl)
/-- Shares of a secret, one less than needed, are explained by the bytes with which it was divided. -/
theorem ofs_explain {S R : List UInt8} {m : Nat} {l : List Sh} (h : Ofs S m R l) (hm : 1 ≤ m) (hl : l.length = m - 1) (hR : R.length = (m - 1) * S.length) : exR l S = R := by
  have hlen : ∀ j, j < l.length → (l.getD j default).2.length = S.length := fun j hj => by rw [(ofs_get h hj).1, ev_length hR]
  have hxl : (exR l S).length = R.length := by rw [exR_length, hR, hl]
  apply List.ext_getElem hxl
  intro i h1 h2
  have hn : 0 < S.length := by
    rcases Nat.eq_zero_or_pos S.length with h0 | h0
    · rw [hR, h0] at h2; omega
    · exact h0
  have hj : i % S.length < S.length := Nat.mod_lt _ hn
  have ha : i / S.length < l.length := by rw [hl]; exact Nat.div_lt_of_lt_mul (by rw [Nat.mul_comm, ← hR]; exact h2)
  have hi : i / S.length * S.length + i % S.length = i := by rw [Nat.mul_comm]; exact Nat.div_add_mod i S.length
  have e1 := exR_get (l := l) (S := S) hlen ha hj
  rw [hi] at e1
  have e2 := (lag_poly (p := kps (exl l S)) (c := cof S R (i % S.length) (m - 1)) (y := fun k => ((exl l S).getD k default).2.getD (i % S.length) default) (exl_nodup h) (by rw [cof_length, kps_length]; show m - 1 + 1 = l.length + 1; omega) (fun k hk => by
    rw [kps_length] at hk
    have hkp : (kps (exl l S)).getD k default = kb ((exl l S).getD k default).1 := by simp [kps, hk]
    rw [hkp]
    cases k with
    | zero =>
      show S.getD (i % S.length) default = hv _ (kb 0)
      have := ev_get (x := 0) hm hR hj
      rw [ev_zero hm hR] at this
      exact this
    | succ k =>
      have hk' : k < l.length := by simp only [exl, List.length_cons] at hk; omega
      show (l.getD k default).2.getD (i % S.length) default = hv _ (kb (l.getD k default).1)
      rw [(ofs_get h hk').1, ev_get hm hR hj])).1
  rw [e2] at e1
  have e3 : (cof S R (i % S.length) (m - 1)).getD (i / S.length + 1) default = R.getD i default := by
    have : i / S.length < m - 1 := by omega
    simp [cof, this, hi]
  rw [e3] at e1
  simpa [h1, h2] using e1
end Go.M
