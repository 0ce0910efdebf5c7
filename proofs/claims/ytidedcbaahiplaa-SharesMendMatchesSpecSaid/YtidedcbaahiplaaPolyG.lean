/- Elimination, plainly: the steps keep the solution, and there is always a pivot. No program in sight. -/
import Derived.Test.YtidedcbaahiplaaPolyF
namespace Go.M

def mk {α : Type} (n : Nat) (F : Nat → α) : List α := (List.range n).map F
section
variable {α : Type} [Inhabited α] {n i : Nat} {F G : Nat → α}
theorem mk_len {α : Type} {n : Nat} {F : Nat → α} : (mk n F).length = n := by simp [mk]
theorem mk_get (h : i < n) : (mk n F).getD i default = F i := by simp [mk, List.getD_eq_getElem?_getD, h]
theorem mk_congr {α : Type} {n : Nat} {F G : Nat → α} (h : ∀ j, j < n → F j = G j) : mk n F = mk n G := List.map_congr_left fun j hj => h j (List.mem_range.1 hj)
theorem mk_set {α : Type} {n i : Nat} {F : Nat → α} {a : α} : (mk n F).set i a = mk n (fun j => if j = i then a else F j) := by
  refine List.ext_getElem (by simp [mk]) fun j h1 h2 => ?_
  simp only [mk, List.getElem_set, List.getElem_map, List.getElem_range]
  by_cases h : i = j
  · rw [if_pos h, if_pos h.symm]
  · rw [if_neg h, if_neg (fun e => h e.symm)]
theorem mk_succ {α : Type} {n : Nat} {F : Nat → α} : mk (n + 1) F = mk n F ++ [F n] := by simp [mk, List.range_succ]
theorem mk_of (l : List α) : mk l.length (fun i => l.getD i default) = l := by
  refine List.ext_getElem (by simp [mk]) fun i h1 h2 => ?_
  simp [mk, List.getD_eq_getElem?_getD, h2]
end
def mk2 (n : Nat) (F : Nat → Nat → UInt8) : List (List UInt8) := mk n fun i => mk (n + 1) (F i)
section
variable {n i k c p : Nat} {F : Nat → Nat → UInt8}
theorem mk2_len : (mk2 n F).length = n := mk_len
theorem mk2_row (h : i < n) : (mk2 n F).getD i default = mk (n + 1) (F i) := mk_get h
theorem mk2_row_len (h : i < n) : ((mk2 n F).getD i default).length = n + 1 := by rw [mk2_row h, mk_len]
theorem mk2_get (h : i < n) (hk : k ≤ n) : ((mk2 n F).getD i default).getD k default = F i k := by rw [mk2_row h, mk_get (by omega)]
theorem mk2_set (h : i < n) {a : UInt8} : (mk2 n F).set i (((mk2 n F).getD i default).set k a) = mk2 n (fun i' k' => if i' = i ∧ k' = k then a else F i' k') := by
  rw [mk2_row h, mk_set, mk2, mk_set]
  refine mk_congr fun j _ => ?_
  by_cases e : j = i
  · subst e; rw [if_pos rfl]
    exact mk_congr fun k' _ => by simp
  · rw [if_neg e]
    exact mk_congr fun k' _ => by simp [e]
theorem mk2_congr {G : Nat → Nat → UInt8} (h : ∀ i k, i < n → k ≤ n → F i k = G i k) : mk2 n F = mk2 n G := mk_congr fun i hi => mk_congr fun k hk => h i k hi (by omega)
end

theorem quoF_mul {a b : UInt8} : ∀ (k n : Nat), (∃ j, n ≤ j ∧ j < n + k ∧ gmul (UInt8.ofNat j) b = a) → gmul (quoF a b k n) b = a
  | 0, n, ⟨j, h1, h2, _⟩ => by omega
  | k + 1, n, ⟨j, h1, h2, h3⟩ => by
    rw [quoF]
    split
    · assumption
    · rename_i hne
      refine quoF_mul k (n + 1) ⟨j, ?_, by omega, h3⟩
      rcases Nat.eq_or_lt_of_le h1 with e | e
      · subst e; exact absurd h3 hne
      · exact e
theorem gquo_eq {a b : UInt8} (hb : b ≠ 0) : gquo a b = gmul (ginv b) a := by
  have h : gmul (gquo a b) b = a := quoF_mul 256 0 ⟨(gmul a (ginv b)).toNat, Nat.zero_le _, by have := (gmul a (ginv b)).toNat_lt; omega, by
    rw [UInt8.ofNat_toNat, gmul_assoc, gmul_comm (ginv b), gmul_inv hb, gmul_one]⟩
  have h2 : gmul (gmul (gquo a b) b) (ginv b) = gmul a (ginv b) := congrArg (fun z => gmul z (ginv b)) h
  rw [gmul_assoc, gmul_inv hb, gmul_one] at h2
  rw [h2, gmul_comm]
theorem ginv_ne {b : UInt8} (hb : b ≠ 0) : ginv b ≠ 0 := fun e => by
  have := gmul_inv hb
  rw [e, gmul_zero] at this
  exact absurd this (by decide)
theorem sm_two {f : Nat → UInt8} {n a b : Nat} (ha : a < n) (hb : b < n) (hab : a ≠ b) (h : ∀ i, i < n → i ≠ a → i ≠ b → f i = 0) : sm f n = f a ^^^ f b := by
  have e1 : sm f n = sm (fun i => (if i = a then f a else 0) ^^^ (if i = b then f b else 0)) n := sm_congr fun i hi => by
    by_cases ea : i = a
    · subst ea; rw [if_pos rfl, if_neg hab, x_zero]
    · rw [if_neg ea]
      by_cases eb : i = b
      · subst eb; rw [if_pos rfl, zero_x]
      · rw [if_neg eb, h i hi ea eb, x_zero]
  rw [e1, sm_add, sm_one ha (fun i _ hi => if_neg hi), sm_one hb (fun i _ hi => if_neg hi), if_pos rfl, if_pos rfl]

/-- What elimination keeps. -/
structure GI (n : Nat) (s : Nat → UInt8) (F : Nat → Nat → UInt8) (c : Nat) : Prop where
  sol : ∀ i, i < n → sm (fun k => gmul (F i k) (s k)) n = F i n
  ker : ∀ v : Nat → UInt8, (∀ i, i < n → sm (fun k => gmul (F i k) (v k)) n = 0) → ∀ k, k < n → v k = 0
  unit : ∀ j, j < c → ∀ i, i < n → F i j = if i = j then 1 else 0
section
variable {n c : Nat} {s : Nat → UInt8} {F : Nat → Nat → UInt8}
theorem GI.pivot (h : GI n s F c) (hc : c < n) : ∃ p, c ≤ p ∧ p < n ∧ F p c ≠ 0 := by
  refine Classical.byContradiction fun hno => ?_
  have hz : ∀ p, c ≤ p → p < n → F p c = 0 := fun p h1 h2 => Classical.byContradiction fun e => hno ⟨p, h1, h2, e⟩
  have := h.ker (fun k => if k = c then 1 else if k < c then F k c else 0) (fun i hi => ?_) c hc
  · simp at this
  · rcases Nat.lt_or_ge i c with hic | hic
    · rw [sm_two hi hc (by omega) fun k hk h1 h2 => ?_]
      · simp only [if_neg (show i ≠ c by omega), if_pos hic, if_true]
        rw [h.unit i hic i hi, if_pos rfl, one_mul, gmul_one, x_self]
      · simp only [if_neg h2]
        rcases Nat.lt_or_ge k c with h3 | h3
        · rw [h.unit k h3 i hi, if_neg (fun e => h1 e.symm), zero_gmul]
        · rw [if_neg (by omega), gmul_zero]
    · refine sm_zero fun k hk => ?_
      rcases Nat.lt_trichotomy k c with h3 | h3 | h3
      · rw [h.unit k h3 i hi, if_neg (by omega), zero_gmul]
      · subst h3; rw [hz i hic hi, zero_gmul]
      · simp only [if_neg (show k ≠ c by omega), if_neg (show ¬ k < c by omega), gmul_zero]
/-- Two rows change their places. -/
def sg (c p i : Nat) : Nat := if i = p then c else if i = c then p else i
theorem sg_lt {p i : Nat} (hc : c < n) (hp : p < n) (hi : i < n) : sg c p i < n := by unfold sg; split; exact hc; split; exact hp; exact hi
theorem sg_sg {p i : Nat} : sg c p (sg c p i) = i := by
  unfold sg
  repeat' split
  all_goals omega
theorem GI.swap {p : Nat} (h : GI n s F c) (hc : c < n) (hcp : c ≤ p) (hp : p < n) : GI n s (fun i => F (sg c p i)) c := by
  refine ⟨fun i hi => h.sol _ (sg_lt hc hp hi), fun v hv => h.ker v fun i hi => ?_, fun j hj i hi => ?_⟩
  · have := hv (sg c p i) (sg_lt hc hp hi)
    simp only [sg_sg] at this
    exact this
  · show F (sg c p i) j = _
    rw [h.unit j hj _ (sg_lt hc hp hi)]
    unfold sg
    by_cases h1 : i = p
    · rw [if_pos h1, if_neg (by omega), if_neg (by omega)]
    · rw [if_neg h1]
      by_cases h2 : i = c
      · rw [if_pos h2, if_neg (by omega), if_neg (by omega)]
      · rw [if_neg h2]
/-- A round of elimination. -/
def gst (c : Nat) (F : Nat → Nat → UInt8) (i k : Nat) : UInt8 := if i = c then gquo (F c k) (F c c) else F i k ^^^ gmul (F i c) (gquo (F c k) (F c c))
theorem GI.step (h : GI n s F c) (hc : c < n) (hp : F c c ≠ 0) : GI n s (gst c F) (c + 1) := by
  have e1 : ∀ k, gst c F c k = gmul (ginv (F c c)) (F c k) := fun k => by rw [gst, if_pos rfl, gquo_eq hp]
  have e2 : ∀ i k, i ≠ c → gst c F i k = F i k ^^^ gmul (F i c) (gmul (ginv (F c c)) (F c k)) := fun i k hi => by rw [gst, if_neg hi, gquo_eq hp]
  have s1 : ∀ v : Nat → UInt8, sm (fun k => gmul (gst c F c k) (v k)) n = gmul (ginv (F c c)) (sm (fun k => gmul (F c k) (v k)) n) := fun v => by
    rw [← sm_mul]; exact sm_congr fun k _ => by rw [e1, gmul_assoc]
  have s2 : ∀ (v : Nat → UInt8) i, i ≠ c → sm (fun k => gmul (gst c F i k) (v k)) n = sm (fun k => gmul (F i k) (v k)) n ^^^ gmul (F i c) (gmul (ginv (F c c)) (sm (fun k => gmul (F c k) (v k)) n)) := fun v i hi => by
    rw [← sm_mul, ← sm_mul, ← sm_add]; exact sm_congr fun k _ => by rw [e2 i k hi, gmul_xor_left, gmul_assoc, gmul_assoc]
  refine ⟨fun i hi => ?_, fun v hv => h.ker v fun i hi => ?_, fun j hj i hi => ?_⟩
  · by_cases hic : i = c
    · subst hic; rw [s1, h.sol _ hi, e1]
    · rw [s2 _ _ hic, h.sol _ hi, h.sol _ hc, e2 _ _ hic]
  · have hz : sm (fun k => gmul (F c k) (v k)) n = 0 := by
      have := hv c hc
      rw [s1] at this
      exact gmul_eq_zero this (ginv_ne hp)
    by_cases hic : i = c
    · subst hic; exact hz
    · have := hv i hi
      rw [s2 _ _ hic, hz, gmul_zero, gmul_zero, x_zero] at this
      exact this
  · rcases Nat.lt_or_ge j c with hjc | hjc
    · have hcj : F c j = 0 := by rw [h.unit j hjc c hc, if_neg (by omega)]
      by_cases hic : i = c
      · subst hic; rw [e1, hcj, gmul_zero, if_neg (by omega)]
      · rw [e2 _ _ hic, hcj, gmul_zero, gmul_zero, x_zero, h.unit j hjc i hi]
    · obtain rfl : j = c := by omega
      have hone : gmul (ginv (F j j)) (F j j) = 1 := by rw [gmul_comm, gmul_inv hp]
      by_cases hic : i = j
      · subst hic; rw [e1, hone, if_pos rfl]
      · rw [e2 _ _ hic, hone, gmul_one, x_self, if_neg hic]
theorem GI.last (h : GI n s F n) {i : Nat} (hi : i < n) : F i n = s i := by
  rw [← h.sol i hi, sm_one hi (fun k hk hne => by rw [h.unit k hk i hi, if_neg (fun e => hne e.symm), zero_gmul]), h.unit i hi i hi, if_pos rfl, one_mul]
end
theorem mk_sm {n : Nat} {s : Nat → UInt8} {x : UInt8} : sm (fun k => gmul (evP x k) (s k)) n = hv (mk n s) x := by
  rw [hv_sm, mk_len]
  exact sm_congr fun k hk => by rw [mk_get hk, gmul_comm]
/-- The first matrix: powers, and the values. -/
theorem GI.start {p : List UInt8} {y s : Nat → UInt8} (hn : p.Nodup) (hs : ∀ i, i < p.length → hv (Go.M.mk p.length s) (p.getD i default) = y i) : GI p.length s (fun i k => if k < p.length then evP (p.getD i default) k else y i) 0 := by
  have e : ∀ (v : Nat → UInt8) i, sm (fun k => gmul (if k < p.length then evP (p.getD i default) k else y i) (v k)) p.length = hv (Go.M.mk p.length v) (p.getD i default) := fun v i => by
    rw [← mk_sm]; exact sm_congr fun k hk => by rw [if_pos hk]
  refine ⟨fun i hi => ?_, fun v hv k hk => ?_, fun j hj => by omega⟩
  · rw [e, hs i hi, if_neg (by omega)]
  · have := roots_zero p (Go.M.mk p.length v) (by rw [mk_len]; exact Nat.le_refl _) hn (fun x hx => by
      obtain ⟨i, hi, rfl⟩ := List.getElem_of_mem hx
      have h1 := hv i hi
      rw [e, getD_lt hi] at h1
      exact h1) (v k) (by simp only [Go.M.mk, List.mem_map, List.mem_range]; exact ⟨k, hk, rfl⟩)
    exact this
theorem least {P : Nat → Prop} {c n : Nat} (h : ∃ p, c ≤ p ∧ p < n ∧ P p) : ∃ p, c ≤ p ∧ p < n ∧ P p ∧ ∀ q, c ≤ q → q < p → ¬ P q := by
  obtain ⟨p, h1, h2, h3⟩ := h
  induction p using Nat.strongRecOn with
  | _ p ih =>
    by_cases hq : ∃ q, c ≤ q ∧ q < p ∧ P q
    · obtain ⟨q, a, b, d⟩ := hq
      exact ih q b a (by omega) d
    · exact ⟨p, h1, h2, h3, fun q a b d => hq ⟨q, a, b, d⟩⟩
theorem lagC_congr {p : List UInt8} {y z : Nat → UInt8} : ∀ k, (∀ i, i < k → y i = z i) → lagC p y k = lagC p z k
  | 0, _ => rfl
  | k + 1, h => by rw [lagC, lagC, lagC_congr k (fun i hi => h i (by omega)), h k (by omega)]
end Go.M
