/- Plain laws: polynomials over the field, their roots, and the polynomial through points. No program in sight. -/
import Derived.Test.YtidedcbaahiplaaPlainA
namespace Go.M

/-! ### The field -/
theorem x_assoc (a b c : UInt8) : a ^^^ b ^^^ c = a ^^^ (b ^^^ c) := UInt8.xor_assoc a b c
theorem x_comm (a b : UInt8) : a ^^^ b = b ^^^ a := UInt8.xor_comm a b
theorem x_lc (a b c : UInt8) : a ^^^ (b ^^^ c) = b ^^^ (a ^^^ c) := by rw [← x_assoc, x_comm a b, x_assoc]
theorem x_self (a : UInt8) : a ^^^ a = 0 := UInt8.xor_self
theorem x_zero (a : UInt8) : a ^^^ 0 = a := UInt8.xor_zero
theorem zero_x (a : UInt8) : 0 ^^^ a = a := UInt8.zero_xor
theorem x_eq_zero {a b : UInt8} (h : a ^^^ b = 0) : a = b := by
  have h1 : a ^^^ b ^^^ b = 0 ^^^ b := by rw [h]
  rwa [x_assoc, x_self, x_zero, zero_x] at h1
theorem x_ne {a b : UInt8} (h : a ≠ b) : a ^^^ b ≠ 0 := fun e => h (x_eq_zero e)
theorem gmul_inv {a : UInt8} (h : a ≠ 0) : gmul a (ginv a) = 1 := by
  have key : ∀ a : Fin 256, UInt8.ofNat a.val ≠ 0 → gmul (UInt8.ofNat a.val) (ginv (UInt8.ofNat a.val)) = 1 := by decide +kernel
  have := key ⟨a.toNat, a.toNat_lt⟩
  simp only [UInt8.ofNat_toNat] at this
  exact this h
theorem gmul_eq_zero {a b : UInt8} (h : gmul a b = 0) (ha : a ≠ 0) : b = 0 := by
  have h1 : gmul (ginv a) (gmul a b) = 0 := by rw [h, gmul_zero]
  rwa [← gmul_assoc, gmul_comm (ginv a), gmul_inv ha, one_mul] at h1
theorem gdiv_self {a : UInt8} (h : a ≠ 0) : gdiv a a = 1 := gmul_inv h
theorem gdiv_inv (a b : UInt8) : gdiv a b = gmul a (ginv b) := rfl
theorem gdiv_zero_left (b : UInt8) : gdiv 0 b = 0 := zero_gmul _
theorem gmul_lc (a b c : UInt8) : gmul a (gmul b c) = gmul b (gmul a c) := by rw [← gmul_assoc, gmul_comm a b, gmul_assoc]

/-! ### Polynomials, the lowest coefficient first -/
def hv : List UInt8 → UInt8 → UInt8
  | [], _ => 0
  | a :: l, x => a ^^^ gmul x (hv l x)
/-- The quotient by (x + r). -/
def dv : List UInt8 → UInt8 → List UInt8
  | [], _ => []
  | [_], _ => []
  | _ :: b :: l, r => hv (b :: l) r :: dv (b :: l) r
theorem dv_length : ∀ (l : List UInt8) (r : UInt8), (dv l r).length = l.length - 1
  | [], _ => rfl
  | [_], _ => rfl
  | _ :: b :: l, r => by simp [dv, dv_length (b :: l) r]
theorem hv_dv : ∀ (l : List UInt8) (r x : UInt8), hv l x = gmul (x ^^^ r) (hv (dv l r) x) ^^^ hv l r
  | [], _, _ => by simp [dv, hv, gmul_zero]
  | [a], _, _ => by simp [dv, hv, gmul_zero]
  | a :: b :: l, r, x => by
    have ih := hv_dv (b :: l) r x
    show a ^^^ gmul x (hv (b :: l) x) = gmul (x ^^^ r) (hv (b :: l) r ^^^ gmul x (hv (dv (b :: l) r) x)) ^^^ (a ^^^ gmul r (hv (b :: l) r))
    rw [ih]
    generalize hv (dv (b :: l) r) x = q
    generalize hv (b :: l) r = c
    rw [gmul_xor_right, gmul_xor_right, gmul_lc x (x ^^^ r) q, gmul_xor_left x r c]
    generalize gmul (x ^^^ r) (gmul x q) = u
    generalize gmul x c = v
    generalize gmul r c = t
    rw [x_lc a u v, x_comm (v ^^^ t) u, x_assoc u, x_assoc v, x_lc t a t, x_self, x_zero, x_comm v a]
theorem zero_of_dv : ∀ (l : List UInt8) (r : UInt8), (∀ a ∈ dv l r, a = 0) → hv l r = 0 → ∀ a ∈ l, a = 0
  | [], _, _, _, a, h => by cases h
  | [b], r, _, h0, a, h => by
    simp only [hv, gmul_zero, x_zero] at h0
    simp only [List.mem_singleton] at h
    rw [h, h0]
  | c :: b :: l, r, hd, h0, a, h => by
    have h1 : hv (b :: l) r = 0 := hd _ (by simp [dv])
    have ih := zero_of_dv (b :: l) r (fun a ha => hd a (by simp [dv, ha])) h1
    have h2 : c ^^^ gmul r (hv (b :: l) r) = 0 := h0
    rw [h1, gmul_zero, x_zero] at h2
    rcases List.mem_cons.1 h with rfl | h
    · exact h2
    · exact ih a h
/-- As many roots as coefficients: all are 0. -/
theorem roots_zero : ∀ (xs : List UInt8) (l : List UInt8), l.length ≤ xs.length → xs.Nodup → (∀ x ∈ xs, hv l x = 0) → ∀ a ∈ l, a = 0
  | [], l, hl, _, _, a, h => by
    have : l = [] := List.eq_nil_of_length_eq_zero (by simpa using hl)
    subst this; cases h
  | r :: xs, l, hl, hn, hr, a, h => by
    have hn' := List.nodup_cons.1 hn
    refine zero_of_dv l r (roots_zero xs (dv l r) (by rw [dv_length]; simp at hl; omega) hn'.2 (fun x hx => ?_)) (hr r (.head _)) a h
    have h1 := hv_dv l r x
    rw [hr x (.tail _ hx), hr r (.head _), x_zero] at h1
    exact gmul_eq_zero h1.symm (x_ne (fun e => hn'.1 (e ▸ hx)))

/-! ### Sums and multiples -/
def padd (a b : List UInt8) : List UInt8 := List.zipWith (· ^^^ ·) a b
def pmul (c : UInt8) (a : List UInt8) : List UInt8 := a.map (gmul c)
theorem padd_length (a b : List UInt8) : (padd a b).length = min a.length b.length := by simp [padd]
theorem pmul_length (c : UInt8) (a : List UInt8) : (pmul c a).length = a.length := by simp [pmul]
theorem hv_padd : ∀ (a b : List UInt8) (x : UInt8), a.length = b.length → hv (padd a b) x = hv a x ^^^ hv b x
  | [], [], _, _ => by simp [padd, hv]
  | [], _ :: _, _, h => by cases h
  | _ :: _, [], _, h => by cases h
  | a :: l, b :: m, x, h => by
    show (a ^^^ b) ^^^ gmul x (hv (padd l m) x) = (a ^^^ gmul x (hv l x)) ^^^ (b ^^^ gmul x (hv m x))
    rw [hv_padd l m x (by simpa using h), gmul_xor_right]
    generalize gmul x (hv l x) = u
    generalize gmul x (hv m x) = v
    rw [x_assoc, x_assoc, x_lc b u v]
theorem hv_pmul : ∀ (c : UInt8) (a : List UInt8) (x : UInt8), hv (pmul c a) x = gmul c (hv a x)
  | c, [], x => by simp [pmul, hv, gmul_zero]
  | c, a :: l, x => by
    show gmul c a ^^^ gmul x (hv (pmul c l) x) = gmul c (a ^^^ gmul x (hv l x))
    rw [hv_pmul c l x, gmul_xor_right, gmul_lc]
theorem hv_zeros : ∀ (n : Nat) (x : UInt8), hv (List.replicate n 0) x = 0
  | 0, _ => rfl
  | n + 1, x => by
    show 0 ^^^ gmul x (hv (List.replicate n 0) x) = 0
    rw [hv_zeros n x, gmul_zero, x_zero]
theorem hv_eq_of {xs l m : List UInt8} (hlm : l.length = m.length) (hl : l.length ≤ xs.length) (hn : xs.Nodup) (h : ∀ x ∈ xs, hv l x = hv m x) : l = m := by
  have hz := roots_zero xs (padd l m) (by rw [padd_length, hlm, Nat.min_self, ← hlm]; exact hl) hn (fun x hx => by rw [hv_padd l m x hlm, h x hx, x_self])
  apply List.ext_getElem hlm
  intro i h1 h2
  have h3 := hz (l[i] ^^^ m[i]) (by
    have : i < (padd l m).length := by rw [padd_length]; omega
    have e : (padd l m)[i] = l[i] ^^^ m[i] := by simp [padd]
    rw [← e]; exact List.getElem_mem this)
  exact x_eq_zero h3

/-! ### The values as the program and the reference reckon them -/
theorem evP_add (x : UInt8) : ∀ k, evP x (k + 1) = gmul x (evP x k) := fun k => by rw [evP, gmul_comm]
/-- Sums of terms. -/
def sm (f : Nat → UInt8) : Nat → UInt8
  | 0 => 0
  | k + 1 => sm f k ^^^ f k
theorem sm_congr {f g : Nat → UInt8} : ∀ {n : Nat}, (∀ i, i < n → f i = g i) → sm f n = sm g n
  | 0, _ => rfl
  | n + 1, h => by rw [sm, sm, sm_congr (fun i hi => h i (by omega)), h n (by omega)]
theorem sm_mul (c : UInt8) (f : Nat → UInt8) : ∀ n, sm (fun i => gmul c (f i)) n = gmul c (sm f n)
  | 0 => by simp [sm, gmul_zero]
  | n + 1 => by rw [sm, sm, sm_mul c f n, gmul_xor_right]
theorem sm_first (f : Nat → UInt8) : ∀ n, sm f (n + 1) = f 0 ^^^ sm (fun i => f (i + 1)) n
  | 0 => by simp [sm]
  | n + 1 => by rw [sm, sm_first f n, sm, x_assoc]
theorem sm_zero {f : Nat → UInt8} {n : Nat} (h : ∀ i, i < n → f i = 0) : sm f n = 0 := by
  induction n with
  | zero => rfl
  | succ n ih => rw [sm, ih (fun i hi => h i (by omega)), h n (by omega), x_zero]
theorem sm_one {f : Nat → UInt8} {n j : Nat} (hj : j < n) (h : ∀ i, i < n → i ≠ j → f i = 0) : sm f n = f j := by
  induction n with
  | zero => omega
  | succ n ih =>
    rw [sm]
    by_cases e : j = n
    · subst e
      rw [sm_zero (fun i hi => h i (by omega) (by omega)), zero_x]
    · rw [ih (by omega) (fun i hi hne => h i (by omega) hne), h n (by omega) (by omega), x_zero]
theorem vaF_sm (l : List UInt8) (x : UInt8) : ∀ k, vaF l x k = sm (fun j => gmul (l.getD j default) (evP x j)) k
  | 0 => rfl
  | k + 1 => by rw [vaF, vaF_sm l x k, sm]
theorem va_hv : ∀ (l : List UInt8) (x : UInt8), va l x = hv l x
  | [], _ => rfl
  | a :: l, x => by
    have ih := va_hv l x
    unfold va at ih ⊢
    rw [vaF_sm] at ih ⊢
    rw [List.length_cons, sm_first]
    show gmul a (evP x 0) ^^^ sm (fun i => gmul (l.getD i default) (evP x (i + 1))) l.length = a ^^^ gmul x (hv l x)
    rw [← ih, ← sm_mul, evP, gmul_one]
    congr 1
    refine sm_congr fun i _ => ?_
    rw [evP_add, gmul_lc]

/-! ### The polynomial that is 1 at one point and 0 at others -/
theorem wtF_zero {p : List UInt8} {x : UInt8} {i j : Nat} (hj : p.getD j default = x) (hij : j ≠ i) : ∀ k, j < k → wtF p x i k = 0
  | k + 1, hk => by
    unfold wtF
    split
    · rename_i e
      exact wtF_zero hj hij k (by omega)
    · by_cases e : j = k
      · subst e
        rw [hj, x_self, gdiv_zero_left, gmul_zero]
      · rw [wtF_zero hj hij k (by omega), zero_gmul]
theorem wtF_self {p : List UInt8} {i : Nat} (hn : p.Nodup) (hi : i < p.length) : ∀ k, k ≤ p.length → wtF p (p.getD i default) i k = 1
  | 0, _ => rfl
  | k + 1, hk => by
    unfold wtF
    split
    · exact wtF_self hn hi k (by omega)
    · rename_i e
      rw [wtF_self hn hi k (by omega), one_mul, gdiv_self]
      apply x_ne
      intro e'
      have hk' : k < p.length := by omega
      simp only [List.getD_eq_getElem?_getD, List.getElem?_eq_getElem hi, List.getElem?_eq_getElem hk', Option.getD_some] at e'
      have hp := List.pairwise_iff_getElem.1 hn
      rcases Nat.lt_trichotomy k i with h | h | h
      · exact hp k i hk' hi h e'.symm
      · exact e h
      · exact hp i k hi hk' h e'

/-- The polynomial of the weights. -/
theorem nbF_get {out : List UInt8} {q b : UInt8} : ∀ (m : Nat), m ≤ out.length → ∀ j, (nbF out q b m).getD j default = (if j < m then gmul (gmul (out.getD j default) q) b else 0) ^^^ (if 0 < j ∧ j ≤ m then gmul (out.getD (j - 1) default) q else 0)
  | 0, _, j => by
    have e : (nbF out q b 0).getD j default = 0 := by
      simp only [nbF, List.getD_eq_getElem?_getD, List.getElem?_replicate]
      split <;> rfl
    rw [e, if_neg (by omega), if_neg (by omega)]; rfl
  | m + 1, hm, j => by
    have ih := nbF_get (out := out) (q := q) (b := b) m (by omega)
    have hl := nbF_length out q b m
    have e : (nbF out q b (m + 1)) = ((nbF out q b m).set m ((nbF out q b m).getD m default ^^^ gmul (gmul (out.getD m default) q) b)).set (m + 1) (((nbF out q b m).set m ((nbF out q b m).getD m default ^^^ gmul (gmul (out.getD m default) q) b)).getD (m + 1) default ^^^ gmul (out.getD m default) q) := rfl
    have gs : ∀ (l : List UInt8) (i j : Nat) (v : UInt8), i < l.length → (l.set i v).getD j default = if j = i then v else l.getD j default := by
      intro l i j v hi
      simp only [List.getD_eq_getElem?_getD, List.getElem?_set]
      by_cases h : i = j
      · subst h; simp [hi]
      · rw [if_neg h, if_neg (fun e => h e.symm)]
    rw [e, gs _ _ _ _ (by rw [List.length_set]; omega), gs _ _ (m + 1) _ (by omega), gs _ _ j _ (by omega), if_neg (show ¬ m + 1 = m by omega), ih, ih, ih]
    by_cases h1 : j = m + 1
    · subst h1
      rw [if_pos rfl, if_neg (by omega), if_neg (by omega), if_neg (by omega), if_pos (by omega), Nat.add_sub_cancel]
      simp
    · rw [if_neg h1]
      by_cases h2 : j = m
      · subst h2
        rw [if_pos rfl, if_neg (show ¬ j < j by omega), if_pos (show j < j + 1 by omega), zero_x, x_comm]
        by_cases h3 : 0 < j
        · rw [if_pos (by omega), if_pos (by omega)]
        · rw [if_neg (by omega), if_neg (by omega)]
      · rw [if_neg h2]
        by_cases h3 : j < m
        · have a1 : j < m + 1 := by omega
          have a2 : j ≤ m := by omega
          have a3 : j ≤ m + 1 := by omega
          by_cases h4 : 0 < j
          · simp only [h3, a1, h4, a2, a3, if_true, and_self]
          · simp only [h3, a1, h4, if_true, false_and, if_false]
        · have a1 : ¬ j < m + 1 := by omega
          have a2 : ¬ j ≤ m := by omega
          have a3 : ¬ j ≤ m + 1 := by omega
          simp only [h3, a1, a2, a3, and_false, if_false]
theorem hv_sm (l : List UInt8) (x : UInt8) : hv l x = sm (fun j => gmul (l.getD j default) (evP x j)) l.length := by
  rw [← va_hv, va, vaF_sm]
theorem sm_add (f g : Nat → UInt8) : ∀ n, sm (fun i => f i ^^^ g i) n = sm f n ^^^ sm g n
  | 0 => by simp [sm]
  | n + 1 => by
    rw [sm, sm, sm, sm_add f g n, x_assoc, x_assoc, x_lc (sm g n)]
theorem hv_nb (out : List UInt8) (q b x : UInt8) : hv (nbF out q b out.length) x = gmul (gmul (hv out x) q) (x ^^^ b) := by
  rw [hv_sm, nbF_length]
  have h1 : sm (fun j => gmul ((nbF out q b out.length).getD j default) (evP x j)) (out.length + 1) =
      sm (fun j => gmul (if j < out.length then gmul (gmul (out.getD j default) q) b else 0) (evP x j)) (out.length + 1) ^^^ sm (fun j => gmul (if 0 < j ∧ j ≤ out.length then gmul (out.getD (j - 1) default) q else 0) (evP x j)) (out.length + 1) := by
    rw [← sm_add]
    refine sm_congr fun i _ => ?_
    rw [nbF_get _ (Nat.le_refl _), gmul_xor_left]
  rw [h1, sm, if_neg (by omega), zero_gmul, x_zero, sm_first, if_neg (by omega), zero_gmul, zero_x]
  have h2 : sm (fun j => gmul (if j < out.length then gmul (gmul (out.getD j default) q) b else 0) (evP x j)) out.length = gmul (gmul q b) (hv out x) := by
    rw [hv_sm, ← sm_mul]
    refine sm_congr fun i hi => ?_
    rw [if_pos hi, gmul_assoc (out.getD i default) q b, gmul_comm (out.getD i default), gmul_assoc]
  have h3 : sm (fun j => gmul (if 0 < j + 1 ∧ j + 1 ≤ out.length then gmul (out.getD (j + 1 - 1) default) q else 0) (evP x (j + 1))) out.length = gmul (gmul q x) (hv out x) := by
    rw [hv_sm, ← sm_mul]
    refine sm_congr fun i hi => ?_
    rw [if_pos (by omega), Nat.add_sub_cancel, evP_add, gmul_comm (out.getD i default) q, gmul_assoc, gmul_assoc, gmul_lc (out.getD i default) x]
  rw [h2, h3, gmul_comm (hv out x) q, gmul_xor_right, x_comm]
  congr 1
  · rw [gmul_assoc, gmul_assoc, gmul_comm x]
  · rw [gmul_assoc, gmul_assoc, gmul_comm b]
theorem hv_bs (p : List UInt8) (i : Nat) (x : UInt8) : ∀ k, hv (bsF p i k) x = wtF p x i k
  | 0 => by simp [bsF, hv, wtF, gmul_zero]
  | k + 1 => by
    unfold bsF wtF
    split
    · exact hv_bs p i x k
    · rw [hv_nb, hv_bs p i x k, gdiv_inv, gmul_assoc, gmul_comm (ginv _)]
/-- The value at x of the polynomial through points. -/
def lag (p : List UInt8) (y : Nat → UInt8) (x : UInt8) : UInt8 := sm (fun j => gmul (wtF p x j p.length) (y j)) p.length
/-- Its coefficients. -/
def lagC (p : List UInt8) (y : Nat → UInt8) : Nat → List UInt8
  | 0 => List.replicate p.length 0
  | k + 1 => padd (lagC p y k) (pmul (y k) (bss p k))
theorem lagC_length (p : List UInt8) (y : Nat → UInt8) : ∀ k, k ≤ p.length → (lagC p y k).length = p.length
  | 0, _ => by simp [lagC]
  | k + 1, hk => by rw [lagC, padd_length, pmul_length, lagC_length p y k (by omega), bss_length (by omega), Nat.min_self]
theorem hv_lagC (p : List UInt8) (y : Nat → UInt8) (x : UInt8) : ∀ k, k ≤ p.length → hv (lagC p y k) x = sm (fun j => gmul (wtF p x j p.length) (y j)) k
  | 0, _ => by rw [lagC, hv_zeros, sm]
  | k + 1, hk => by
    rw [lagC, hv_padd _ _ _ (by rw [lagC_length p y k (by omega), pmul_length, bss_length (by omega)]), hv_pmul, hv_lagC p y x k (by omega), sm, bss, hv_bs, gmul_comm]
theorem lag_at {p : List UInt8} {y : Nat → UInt8} {j : Nat} (hn : p.Nodup) (hj : j < p.length) : lag p y (p.getD j default) = y j := by
  unfold lag
  rw [sm_one hj (fun i hi hne => by rw [wtF_zero rfl (Ne.symm hne) _ hj, zero_gmul]), wtF_self hn hj _ (Nat.le_refl _), one_mul]
/-- What agrees with a polynomial at as many points as it has coefficients gives the polynomial. -/
theorem lag_poly {p c : List UInt8} {y : Nat → UInt8} (hn : p.Nodup) (hc : c.length = p.length) (h : ∀ j, j < p.length → y j = hv c (p.getD j default)) : lagC p y p.length = c ∧ ∀ x, lag p y x = hv c x := by
  have key : lagC p y p.length = c := by
    refine hv_eq_of (xs := p) (by rw [lagC_length p y _ (Nat.le_refl _), hc]) (by rw [lagC_length p y _ (Nat.le_refl _)]; exact Nat.le_refl _) hn (fun x hx => ?_)
    obtain ⟨j, hj, e⟩ := List.getElem_of_mem hx
    have e' : p.getD j default = x := by simp [hj, e]
    rw [hv_lagC p y x _ (Nat.le_refl _)]
    have := lag_at (y := y) hn hj
    unfold lag at this
    rw [e'] at this
    rw [this, h j hj, e']
  refine ⟨key, fun x => ?_⟩
  rw [← key, hv_lagC p y x _ (Nat.le_refl _)]
  rfl
end Go.M
