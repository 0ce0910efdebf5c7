/- Plain functions: shares of secrets, by the program's own steps. No program in sight. -/
import Derived.Test.YtidedcbaahiplaaMath
namespace Go.M

abbrev Sh := Int × List UInt8
def kb (k : Int) : UInt8 := UInt8.ofNat k.toNat
def kps (l : List Sh) : List UInt8 := l.map (fun s => kb s.1)

/-- The factor of point i, after k of the points. -/
def wtF (p : List UInt8) (x : UInt8) (i : Nat) : Nat → UInt8
  | 0 => 1
  | k + 1 => if k = i then wtF p x i k else gmul (wtF p x i k) (gdiv (x ^^^ p.getD k default) (p.getD i default ^^^ p.getD k default))
def wts (p : List UInt8) (x : UInt8) : List UInt8 := (List.range p.length).map fun i => wtF p x i p.length

/-- A row to which a multiple of another one is added. -/
def addRow (w : UInt8) (row data : List UInt8) : List UInt8 := List.zipWith (fun o c => o ^^^ gmul w c) row data
/-- After i places of the row. -/
def addTo (w : UInt8) (row data : List UInt8) (i : Nat) : List UInt8 := (addRow w row data).take i ++ row.drop i
def atF (ws : List UInt8) (base : List Sh) (row : List UInt8) : Nat → List UInt8
  | 0 => row
  | k + 1 => addRow (ws.getD k default) (atF ws base row k) (base.getD k default).2
/-- The values at x of the polynomials through a base. -/
def atS (base : List Sh) (x : UInt8) : List UInt8 := atF (wts (kps base) x) base (List.replicate (base.getD 0 default).2.length 0) base.length

theorem addRow_length (w : UInt8) (row data : List UInt8) : (addRow w row data).length = min row.length data.length := by simp [addRow]
theorem addTo_zero (w : UInt8) (row data : List UInt8) : addTo w row data 0 = row := by simp [addTo]
theorem addTo_length (w : UInt8) (row data : List UInt8) (i : Nat) (h : row.length = data.length) (hi : i ≤ row.length) : (addTo w row data i).length = row.length := by
  simp [addTo, addRow_length, ← h]; omega
theorem addTo_all (w : UInt8) (row data : List UInt8) (h : row.length = data.length) : addTo w row data row.length = addRow w row data := by
  unfold addTo
  rw [List.drop_length, List.append_nil, List.take_of_length_le (by rw [addRow_length, ← h]; simp)]
theorem addTo_get (w : UInt8) (row data : List UInt8) (i : Nat) (h : row.length = data.length) (hi : i < row.length) : (addTo w row data i)[i]? = some (row.getD i default) := by
  unfold addTo
  rw [List.getElem?_append_right (by simp [addRow_length, ← h]; omega)]
  have : ((addRow w row data).take i).length = i := by simp [addRow_length, ← h]; omega
  rw [this]
  simp [hi]
theorem addTo_succ (w : UInt8) (row data : List UInt8) (i : Nat) (h : row.length = data.length) (hi : i < row.length) :
    (addTo w row data i).set i (row.getD i default ^^^ gmul w (data.getD i default)) = addTo w row data (i + 1) := by
  apply List.ext_getElem?
  intro j
  have hlen : ((addRow w row data).take i).length = i := by simp [addRow_length, ← h]; omega
  have hA : ∀ k, k < row.length → (addRow w row data)[k]? = some (row.getD k default ^^^ gmul w (data.getD k default)) := by
    intro k hk
    have hk2 : k < data.length := by omega
    simp [addRow, List.getElem?_zipWith, hk, hk2]
  rcases Nat.lt_trichotomy j i with hj | hj | hj
  · rw [List.getElem?_set_ne (by omega)]
    unfold addTo
    rw [List.getElem?_append_left (by omega), List.getElem?_append_left (by simp [addRow_length, ← h]; omega), List.getElem?_take, List.getElem?_take, if_pos hj, if_pos (by omega)]
  · subst hj
    rw [List.getElem?_set_self (by rw [addTo_length _ _ _ _ h (by omega)]; exact hi)]
    unfold addTo
    rw [List.getElem?_append_left (by simp [addRow_length, ← h]; omega), List.getElem?_take, if_pos (by omega), hA j hi]
  · rw [List.getElem?_set_ne (by omega)]
    unfold addTo
    have hlen1 : ((addRow w row data).take (i + 1)).length = i + 1 := by simp [addRow_length, ← h]; omega
    rw [List.getElem?_append_right (by omega), List.getElem?_append_right (by omega), hlen, hlen1, List.getElem?_drop, List.getElem?_drop]
    congr 1
    omega
theorem atF_length (ws : List UInt8) (base : List Sh) (row : List UInt8) (h : ∀ i, i < base.length → (base.getD i default).2.length = row.length) : ∀ k, k ≤ base.length → (atF ws base row k).length = row.length
  | 0, _ => rfl
  | k + 1, hk => by
    show (addRow _ _ _).length = _
    rw [addRow_length, atF_length ws base row h k (by omega), h k (by omega)]
    omega
theorem wts_length (p : List UInt8) (x : UInt8) : (wts p x).length = p.length := by simp [wts]
theorem kps_length (l : List Sh) : (kps l).length = l.length := by simp [kps]

/-- The power of x at which the k-th random bytes stand. -/
def evP (x : UInt8) : Nat → UInt8
  | 0 => 1
  | k + 1 => gmul (evP x k) x
def rnd (R : List UInt8) (n k : Nat) : List UInt8 := (R.drop (k * n)).take n
/-- A secret's values at x, after k of the coefficients. -/
def evF (S R : List UInt8) (x : UInt8) : Nat → List UInt8
  | 0 => S
  | k + 1 => addRow (evP x (k + 1)) (evF S R x k) (rnd R S.length k)
theorem rnd_length {R : List UInt8} {n k m : Nat} (h : R.length = m * n) (hk : k < m) : (rnd R n k).length = n := by
  have h1 : (k + 1) * n ≤ m * n := Nat.mul_le_mul_right _ hk
  rw [Nat.add_mul] at h1
  simp [rnd]; omega
theorem rnd_get {R : List UInt8} {n k m i : Nat} (h : R.length = m * n) (hk : k < m) (hi : i < n) : R.getD (k * n + i) default = (rnd R n k).getD i default := by
  have h1 : (k + 1) * n ≤ m * n := Nat.mul_le_mul_right _ hk
  rw [Nat.add_mul] at h1
  simp [rnd, List.getElem?_take, hi, List.getElem?_drop]
theorem rnd_lt {R : List UInt8} {n k m i : Nat} (h : R.length = m * n) (hk : k < m) (hi : i < n) : k * n + i < R.length := by
  have h1 : (k + 1) * n ≤ m * n := Nat.mul_le_mul_right _ hk
  rw [Nat.add_mul] at h1
  omega
theorem evF_length {S R : List UInt8} {x : UInt8} {m : Nat} (h : R.length = m * S.length) : ∀ k, k ≤ m → (evF S R x k).length = S.length
  | 0, _ => rfl
  | k + 1, hk => by
    show (addRow _ _ _).length = _
    rw [addRow_length, evF_length h k (by omega), rnd_length h (by omega)]
    omega
/-- The values of the polynomials of a secret at x. -/
def ev (S : List UInt8) (needed : Nat) (R : List UInt8) (x : UInt8) : List UInt8 := evF S R x (needed - 1)
/-- Shares of one length, of numbers that are bytes. -/
structure Good (l : List Sh) : Prop where
  k : ∀ i, i < l.length → 0 ≤ (l.getD i default).1 ∧ (l.getD i default).1 ≤ 10
  d : ∀ i, i < l.length → (l.getD i default).2.length = (l.getD 0 default).2.length
  m : (l.getD 0 default).2.length ≤ 4096
  n : l.length ≤ 11
theorem getD_take {α : Type} [Inhabited α] {l : List α} {m i : Nat} (h : i < m) : (l.take m).getD i default = l.getD i default := by
  simp [List.getElem?_take, h]
theorem Good.take {l : List Sh} {m : Nat} (h : Good l) (hm : 0 < m) : Good (l.take m) := by
  refine ⟨fun i hi => ?_, fun i hi => ?_, ?_, ?_⟩
  · simp only [List.length_take] at hi
    rw [getD_take (by omega)]; exact h.k i (by omega)
  · simp only [List.length_take] at hi
    rw [getD_take (by omega), getD_take hm]; exact h.d i (by omega)
  · rw [getD_take hm]; exact h.m
  · have := h.n; simp only [List.length_take]; omega

/-- The first share from i on that does not fit the base. -/
def frF (l : List Sh) (m : Nat) : Nat → Nat → Int × Int
  | 0, _ => (0, 0)
  | n + 1, i => if atS (l.take m) (kb (l.getD i default).1) = (l.getD i default).2 then frF l m n (i + 1) else (19, i)
def frg (l : List Sh) (m : Nat) : Int × Int := frF l m (l.length - m) m
/-- The first place from i on that has this keeper. -/
def fidx (l : List Sh) (k : Int) : Nat → Nat → Int
  | 0, _ => -1
  | n + 1, i => if (l.getD i default).1 = k then i else fidx l k n (i + 1)
/-- What is wrong with share i. -/
def chk1 (l : List Sh) (i : Nat) : Int :=
  if (l.getD i default).1 < 1 ∨ 10 < (l.getD i default).1 then 4
  else if 0 ≤ fidx (l.take i) (l.getD i default).1 (l.take i).length 0 then 8
  else if 4096 < (l.getD i default).2.length then 3
  else if (l.getD i default).2.length ≠ (l.getD 0 default).2.length then 9
  else 0
def chF (l : List Sh) : Nat → Nat → Int × Int
  | 0, _ => (0, 0)
  | n + 1, i => if chk1 l i = 0 then chF l n (i + 1) else (chk1 l i, i)
def chkList (l : List Sh) : Int × Int := if 10 < l.length then (2, -1) else chF l l.length 0
def chkAll (l : List Sh) (m : Int) : Int × Int :=
  if chkList l ≠ (0, 0) then chkList l else if ¬ (1 ≤ m ∧ m ≤ 10) then (4, -2) else if (l.length : Int) < m then (18, -1) else (0, 0)

theorem chF_ok {l : List Sh} : ∀ (n i : Nat), chF l n i = (0, 0) → ∀ j, i ≤ j → j < i + n → chk1 l j = 0
  | 0, i, _, j, h1, h2 => by omega
  | n + 1, i, h, j, h1, h2 => by
    unfold chF at h
    split at h
    · rename_i h0
      rcases Nat.lt_or_ge i j with hj | hj
      · exact chF_ok n (i + 1) h j hj (by omega)
      · obtain rfl : i = j := by omega
        exact h0
    · rename_i h0
      simp only [Prod.mk.injEq] at h
      exact absurd h.1 h0
theorem good_of {l : List Sh} (h : chkList l = (0, 0)) : Good l ∧ (∀ i, i < l.length → 1 ≤ (l.getD i default).1) ∧ l.length ≤ 10 := by
  unfold chkList at h
  split at h
  · simp at h
  · rename_i hn
    have h1 := chF_ok l.length 0 h
    have key : ∀ i, i < l.length → (1 ≤ (l.getD i default).1 ∧ (l.getD i default).1 ≤ 10) ∧ (l.getD i default).2.length ≤ 4096 ∧ (l.getD i default).2.length = (l.getD 0 default).2.length := by
      intro i hi
      have h2 := h1 i (Nat.zero_le _) (by omega)
      unfold chk1 at h2
      split at h2
      · simp at h2
      · split at h2
        · simp at h2
        · split at h2
          · simp at h2
          · split at h2
            · simp at h2
            · rename_i a b c e
              refine ⟨by omega, by omega, by omega⟩
    refine ⟨⟨fun i hi => by have := (key i hi).1; omega, fun i hi => (key i hi).2.2, ?_, by omega⟩, fun i hi => (key i hi).1.1, by omega⟩
    rcases Nat.eq_zero_or_pos l.length with h0 | h0
    · have : l = [] := List.eq_nil_of_length_eq_zero h0
      subst this
      decide
    · exact (key 0 h0).2.1
/-- What Join says, and gives. -/
def jnF (l : List Sh) (m : Int) : Int × Int := if chkAll l m ≠ (0, 0) then chkAll l m else frg l m.toNat
def jn (l : List Sh) (m : Int) : List UInt8 := if jnF l m = (0, 0) then atS (l.take m.toNat) 0 else []
def axF (l : List Sh) (m k : Int) : Int × Int := if chkAll l m ≠ (0, 0) then chkAll l m else if k < 1 ∨ 10 < k then (4, -3) else frg l m.toNat
def axK (l : List Sh) (m k : Int) : Int := if axF l m k = (0, 0) then k else 0
def axD (l : List Sh) (m k : Int) : List UInt8 := if axF l m k = (0, 0) then atS (l.take m.toNat) (kb k) else []
theorem chkAll_ok {l : List Sh} {m : Int} (h : chkAll l m = (0, 0)) : Good l ∧ (∀ i, i < l.length → 1 ≤ (l.getD i default).1) ∧ l.length ≤ 10 ∧ 1 ≤ m ∧ m ≤ 10 ∧ m ≤ l.length := by
  unfold chkAll at h
  split at h
  · rename_i h0; exact absurd h h0
  · rename_i h0
    have h1 : chkList l = (0, 0) := Decidable.byContradiction h0
    obtain ⟨g1, g2, g3⟩ := good_of h1
    split at h
    · simp at h
    · rename_i h2
      split at h
      · simp at h
      · rename_i h3
        refine ⟨g1, g2, g3, by omega, by omega, by omega⟩
/-- What Split says, and gives. -/
def spF (S : List UInt8) (m k : Int) (R : List UInt8) : Int × Int :=
  if 4096 < S.length then (3, -1) else if ¬ (1 ≤ m ∧ m ≤ 10) then (4, -2) else if k < m ∨ 10 < k then (4, -3) else if (R.length : Int) ≠ (m - 1) * S.length then (9, -4) else (0, 0)
def spl (S : List UInt8) (m : Nat) (R : List UInt8) (k : Nat) : List Sh := (List.range k).map fun (j : Nat) => (((j : Int) + 1 : Int), ev S m R (kb ((j : Int) + 1)))
def spA (S : List UInt8) (m k : Int) (R : List UInt8) : List Sh := if spF S m k R = (0, 0) then spl S m.toNat R k.toNat else []
theorem spl_succ (S : List UInt8) (m : Nat) (R : List UInt8) (k : Nat) : spl S m R (k + 1) = spl S m R k ++ [((k : Int) + 1, ev S m R (kb ((k : Int) + 1)))] := by
  simp [spl, List.range_succ]
theorem spl_length (S : List UInt8) (m : Nat) (R : List UInt8) (k : Nat) : (spl S m R k).length = k := by simp [spl]
/-- What Renew says, and gives. -/
def rnF (l : List Sh) (m : Int) (R : List UInt8) : Int × Int :=
  if chkAll l m ≠ (0, 0) then chkAll l m else if (R.length : Int) ≠ (m - 1) * (l.getD 0 default).2.length then (9, -3) else frg l m.toNat
def rn1 (m : Nat) (R : List UInt8) (n : Nat) (s : Sh) : Sh := (s.1, addRow 1 (ev (List.replicate n 0) m R (kb s.1)) s.2)
def rnl (l : List Sh) (m : Nat) (R : List UInt8) (k : Nat) : List Sh := (l.take k).map (rn1 m R (l.getD 0 default).2.length)
def rnA (l : List Sh) (m : Int) (R : List UInt8) : List Sh := if rnF l m R = (0, 0) then rnl l m.toNat R l.length else []
theorem rnl_succ {l : List Sh} {m : Nat} {R : List UInt8} {k : Nat} (h : k < l.length) : rnl l m R (k + 1) = rnl l m R k ++ [rn1 m R (l.getD 0 default).2.length (l.getD k default)] := by
  unfold rnl
  rw [List.take_succ_eq_append_getElem h, List.map_append]
  simp [h]
theorem rnl_length {l : List Sh} {m : Nat} {R : List UInt8} {k : Nat} (h : k ≤ l.length) : (rnl l m R k).length = k := by simp [rnl]; omega
theorem ev_length {S R : List UInt8} {x : UInt8} {m : Nat} (h : R.length = (m - 1) * S.length) : (ev S m R x).length = S.length := evF_length h _ (Nat.le_refl _)

/-- A polynomial times (x + b) * q, after m of its coefficients. -/
def nbF (out : List UInt8) (q b : UInt8) : Nat → List UInt8
  | 0 => List.replicate (out.length + 1) 0
  | m + 1 =>
    let r := (nbF out q b m).set m ((nbF out q b m).getD m default ^^^ gmul (gmul (out.getD m default) q) b)
    r.set (m + 1) (r.getD (m + 1) default ^^^ gmul (out.getD m default) q)
theorem nbF_length (out : List UInt8) (q b : UInt8) : ∀ m, (nbF out q b m).length = out.length + 1
  | 0 => by simp [nbF]
  | m + 1 => by simp [nbF, nbF_length out q b m]
/-- The polynomial that is 1 at point i and 0 at the first k of the other ones. -/
def bsF (p : List UInt8) (i : Nat) : Nat → List UInt8
  | 0 => [1]
  | k + 1 => if k = i then bsF p i k else nbF (bsF p i k) (ginv (p.getD i default ^^^ p.getD k default)) (p.getD k default) (bsF p i k).length
def bss (p : List UInt8) (i : Nat) : List UInt8 := bsF p i p.length
theorem bsF_length (p : List UInt8) (i : Nat) : ∀ k, (bsF p i k).length = if i < k then k else k + 1
  | 0 => by simp [bsF]
  | k + 1 => by
    unfold bsF
    split
    · rename_i h
      rw [bsF_length p i k]
      subst h
      simp
    · rename_i h
      rw [nbF_length, bsF_length p i k]
      by_cases h1 : i < k
      · rw [if_pos h1, if_pos (by omega)]
      · rw [if_neg h1, if_neg (by omega)]

/-- Places of a table, row m of width n: c times the data are added, after k of them. -/
def e3 (row : List UInt8) (c : UInt8) (m n : Nat) (data : List UInt8) : Nat → List UInt8
  | 0 => row
  | k + 1 => (e3 row c m n data k).set (m * n + k) ((e3 row c m n data k).getD (m * n + k) default ^^^ gmul c (data.getD k default))
def e2 (row coefs data : List UInt8) (n : Nat) : Nat → List UInt8
  | 0 => row
  | m + 1 => e3 (e2 row coefs data n m) (coefs.getD m default) m n data data.length
def e1 (row : List UInt8) (all : List Sh) (n : Nat) : Nat → List UInt8
  | 0 => row
  | i + 1 => e2 (e1 row all n i) ((bss (kps all) i).drop 1) (all.getD i default).2 n ((bss (kps all) i).length - 1)
theorem e3_length (row : List UInt8) (c : UInt8) (m n : Nat) (data : List UInt8) : ∀ k, (e3 row c m n data k).length = row.length
  | 0 => rfl
  | k + 1 => by simp [e3, e3_length row c m n data k]
theorem e2_length (row coefs data : List UInt8) (n : Nat) : ∀ m, (e2 row coefs data n m).length = row.length
  | 0 => rfl
  | m + 1 => by rw [e2, e3_length, e2_length row coefs data n m]
theorem e1_length (row : List UInt8) (all : List Sh) (n : Nat) : ∀ i, (e1 row all n i).length = row.length
  | 0 => rfl
  | i + 1 => by rw [e1, e2_length, e1_length row all n i]
/-- What Explain says, and gives. -/
def exF (l : List Sh) (m : Int) (S : List UInt8) : Int × Int :=
  if chkList l ≠ (0, 0) then chkList l else if ¬ (1 ≤ m ∧ m ≤ 10) then (4, -2) else if (l.length : Int) ≠ m - 1 then (9, -1) else if 4096 < S.length then (3, -3)
  else if 0 < l.length ∧ S.length ≠ (l.getD 0 default).2.length then (9, -3) else (0, 0)
theorem exF_ok {l : List Sh} {m : Int} {S : List UInt8} (h : exF l m S = (0, 0)) : Good l ∧ (∀ i, i < l.length → 1 ≤ (l.getD i default).1) ∧ l.length ≤ 10 ∧ 1 ≤ m ∧ m ≤ 10 ∧ (l.length : Int) = m - 1 ∧ S.length ≤ 4096 ∧ (0 < l.length → S.length = (l.getD 0 default).2.length) := by
  unfold exF at h
  split at h
  · rename_i h0; exact absurd h h0
  · rename_i h0
    obtain ⟨g1, g2, g3⟩ := good_of (Decidable.byContradiction h0)
    repeat' (split at h)
    all_goals first
      | (simp at h; done)
      | skip
    refine ⟨g1, g2, g3, ?_⟩
    omega
def exl (l : List Sh) (S : List UInt8) : List Sh := (0, S) :: l
def exR (l : List Sh) (S : List UInt8) : List UInt8 := e1 (List.replicate (l.length * S.length) 0) (exl l S) S.length (l.length + 1)
theorem exR_length (l : List Sh) (S : List UInt8) : (exR l S).length = l.length * S.length := by rw [exR, e1_length, List.length_replicate]
theorem exl_good {l : List Sh} {S : List UInt8} (h : Good l) (hn : l.length ≤ 10) (hS : S.length ≤ 4096) (h0 : 0 < l.length → S.length = (l.getD 0 default).2.length) : Good (exl l S) := by
  refine ⟨fun i hi => ?_, fun i hi => ?_, hS, by simp only [exl, List.length_cons]; omega⟩
  · cases i with
    | zero => exact ⟨Int.le_refl _, by show (0 : Int) ≤ 10; omega⟩
    | succ i => exact h.k i (by simp only [exl, List.length_cons] at hi; omega)
  · cases i with
    | zero => rfl
    | succ i =>
      simp only [exl, List.length_cons] at hi
      show (l.getD i default).2.length = S.length
      rw [h.d i (by omega), h0 (by omega)]
theorem bss_length {p : List UInt8} {i : Nat} (h : i < p.length) : (bss p i).length = p.length := by rw [bss, bsF_length, if_pos h]
def exA (l : List Sh) (m : Int) (S : List UInt8) : List UInt8 := if exF l m S = (0, 0) then exR l S else []
end Go.M
