/- Plain laws: shares of one secret give each other and the secret. No program in sight. -/
import Derived.Test.YtidedcbaahiplaaPolyA
import Derived.Test.YtidedcbaahiplaaSpecC
namespace Go.M

theorem atF_get {ws : List UInt8} {base : List Sh} {row : List UInt8} {i : Nat} (h : ∀ j, j < base.length → (base.getD j default).2.length = row.length) (hi : i < row.length) : ∀ k, k ≤ base.length →
    (atF ws base row k).getD i default = row.getD i default ^^^ sm (fun j => gmul (ws.getD j default) ((base.getD j default).2.getD i default)) k
  | 0, _ => by rw [atF, sm, x_zero]
  | k + 1, hk => by
    rw [atF, addRow_get (by rw [atF_length ws base row h k (by omega)]; exact hi) (by rw [h k (by omega)]; exact hi), atF_get h hi k (by omega), sm, x_assoc]
theorem wts_get {p : List UInt8} {x : UInt8} {j : Nat} (hj : j < p.length) : (wts p x).getD j default = wtF p x j p.length := by
  simp [wts, hj]
theorem atS_length {base : List Sh} {x : UInt8} (hd : ∀ j, j < base.length → (base.getD j default).2.length = (base.getD 0 default).2.length) : (atS base x).length = (base.getD 0 default).2.length := by
  rw [atS, atF_length _ _ _ (by rw [List.length_replicate]; exact hd) _ (Nat.le_refl _), List.length_replicate]
theorem atS_get {base : List Sh} {x : UInt8} {i : Nat} (hd : ∀ j, j < base.length → (base.getD j default).2.length = (base.getD 0 default).2.length) (hi : i < (base.getD 0 default).2.length) :
    (atS base x).getD i default = lag (kps base) (fun j => (base.getD j default).2.getD i default) x := by
  rw [atS, atF_get (by rw [List.length_replicate]; exact hd) (by rw [List.length_replicate]; exact hi) _ (Nat.le_refl _)]
  have e : (List.replicate (base.getD 0 default).2.length (0 : UInt8)).getD i default = 0 := by
    generalize (base.getD 0 default).2.length = z at hi
    simp [hi]
  rw [e, zero_x, lag, kps_length]
  refine sm_congr fun j hj => ?_
  rw [wts_get (by rw [kps_length]; exact hj), kps_length]

/-- Shares of one secret, of different keepers. -/
structure Ofs (S : List UInt8) (m : Nat) (R : List UInt8) (l : List Sh) : Prop where
  d : ∀ s ∈ l, s.2 = ev S m R (kb s.1)
  k : ∀ s ∈ l, 1 ≤ s.1 ∧ s.1 ≤ 10
  n : l.Pairwise fun a b => a.1 ≠ b.1
theorem Ofs.sub {S R : List UInt8} {m : Nat} {l l' : List Sh} (h : Ofs S m R l) (hs : l'.Sublist l) : Ofs S m R l' :=
  ⟨fun s hm => h.d s (hs.subset hm), fun s hm => h.k s (hs.subset hm), h.n.sublist hs⟩
theorem kb_inj {a b : Int} (ha : 1 ≤ a ∧ a ≤ 10) (hb : 1 ≤ b ∧ b ≤ 10) (h : kb a = kb b) : a = b := by
  have h1 : (kb a).toNat = (kb b).toNat := by rw [h]
  unfold kb at h1
  simp at h1
  omega
theorem Ofs.nodup {S R : List UInt8} {m : Nat} {l : List Sh} (h : Ofs S m R l) : (kps l).Nodup := by
  unfold kps List.Nodup
  rw [List.pairwise_map]
  exact h.n.imp_of_mem fun {a b} ha hb hne e => hne (kb_inj (h.k a ha) (h.k b hb) e)
theorem ofs_get {S R : List UInt8} {m : Nat} {l : List Sh} (h : Ofs S m R l) {j : Nat} (hj : j < l.length) : (l.getD j default).2 = ev S m R (kb (l.getD j default).1) ∧ 1 ≤ (l.getD j default).1 ∧ (l.getD j default).1 ≤ 10 := by
  have hm : l.getD j default ∈ l := by simp [hj]
  exact ⟨h.d _ hm, h.k _ hm⟩
theorem ev_get {S R : List UInt8} {m : Nat} {x : UInt8} {i : Nat} (hm : 1 ≤ m) (hR : R.length = (m - 1) * S.length) (hi : i < S.length) : (ev S m R x).getD i default = hv (cof S R i (m - 1)) x := by
  rw [ev_shd hm hR, ← va_hv]
  simp [shd, shF, hi]
/-- As many of them as needed give the value everywhere. -/
theorem ofs_at {S R : List UInt8} {m : Nat} {l : List Sh} {x : UInt8} (h : Ofs S m R l) (hl : l.length = m) (hm : 1 ≤ m) (hR : R.length = (m - 1) * S.length) : atS l x = ev S m R x := by
  have hlen : ∀ j, j < l.length → (l.getD j default).2.length = S.length := fun j hj => by rw [(ofs_get h hj).1, ev_length hR]
  have hd : ∀ j, j < l.length → (l.getD j default).2.length = (l.getD 0 default).2.length := fun j hj => by rw [hlen j hj, hlen 0 (by omega)]
  have h0 := hlen 0 (by omega)
  apply List.ext_getElem?
  intro i
  rcases Nat.lt_or_ge i S.length with hi | hi
  · have e1 := atS_get (x := x) hd (show i < (l.getD 0 default).2.length by omega)
    have e2 := ev_get (x := x) hm hR hi
    have e3 := (lag_poly (p := kps l) (c := cof S R i (m - 1)) (y := fun j => (l.getD j default).2.getD i default) h.nodup (by rw [cof_length, kps_length]; omega) (fun j hj => by
      rw [kps_length] at hj
      show (l.getD j default).2.getD i default = _
      rw [(ofs_get h hj).1, ev_get hm hR hi]
      congr 1
      simp [kps, hj])).2 x
    have l1 := atS_length (x := x) hd
    have l2 := ev_length (x := x) hR
    have hi1 : i < (atS l x).length := by omega
    have hi2 : i < (ev S m R x).length := by omega
    rw [List.getElem?_eq_getElem hi1, List.getElem?_eq_getElem hi2]
    simp only [List.getD_eq_getElem?_getD, List.getElem?_eq_getElem hi1, Option.getD_some] at e1
    simp only [List.getD_eq_getElem?_getD, List.getElem?_eq_getElem hi2, Option.getD_some] at e2
    simp only [List.getD_eq_getElem?_getD] at e3
    rw [e1, e2, e3]
  · rw [List.getElem?_eq_none (by rw [atS_length hd]; omega), List.getElem?_eq_none (by rw [ev_length hR]; omega)]
theorem ev_zero {S R : List UInt8} {m : Nat} (hm : 1 ≤ m) (hR : R.length = (m - 1) * S.length) : ev S m R 0 = S := by
  apply List.ext_getElem?
  intro i
  rcases Nat.lt_or_ge i S.length with hi | hi
  · have e2 := ev_get (x := 0) hm hR hi
    have l2 := ev_length (x := 0) hR
    have hi2 : i < (ev S m R 0).length := by omega
    simp only [List.getD_eq_getElem?_getD, List.getElem?_eq_getElem hi2, Option.getD_some] at e2
    rw [List.getElem?_eq_getElem hi2, e2]
    simp [cof, hv, zero_gmul, hi]
  · rw [List.getElem?_eq_none (by rw [ev_length hR]; omega), List.getElem?_eq_none hi]

theorem fidx_none {l : List Sh} {k : Int} : ∀ (n i : Nat), (∀ j, i ≤ j → j < i + n → (l.getD j default).1 ≠ k) → fidx l k n i = -1
  | 0, _, _ => rfl
  | n + 1, i, h => by rw [fidx, if_neg (h i (Nat.le_refl _) (by omega)), fidx_none n (i + 1) (fun j h1 h2 => h j (by omega) (by omega))]
theorem chF_all {l : List Sh} : ∀ (n i : Nat), (∀ j, i ≤ j → j < i + n → chk1 l j = 0) → chF l n i = (0, 0)
  | 0, _, _ => rfl
  | n + 1, i, h => by rw [chF, if_pos (h i (Nat.le_refl _) (by omega)), chF_all n (i + 1) (fun j h1 h2 => h j (by omega) (by omega))]
theorem frF_all {l : List Sh} {m : Nat} : ∀ (n i : Nat), (∀ j, i ≤ j → j < i + n → atS (l.take m) (kb (l.getD j default).1) = (l.getD j default).2) → frF l m n i = (0, 0)
  | 0, _, _ => rfl
  | n + 1, i, h => by rw [frF, if_pos (h i (Nat.le_refl _) (by omega)), frF_all n (i + 1) (fun j h1 h2 => h j (by omega) (by omega))]
theorem ofs_chk {S R : List UInt8} {m : Nat} {l : List Sh} (h : Ofs S m R l) (hl : l.length ≤ 10) (hS : S.length ≤ 4096) (hR : R.length = (m - 1) * S.length) : chkList l = (0, 0) := by
  rw [chkList, if_neg (by omega)]
  have hp := List.pairwise_iff_getElem.1 h.n
  refine chF_all _ _ fun j _ hj => ?_
  have hj' : j < l.length := by omega
  obtain ⟨g1, g2, g3⟩ := ofs_get h hj'
  have gl : (l.getD j default).2.length = S.length := by rw [g1, ev_length hR]
  have g0 : (l.getD 0 default).2.length = S.length := by rw [(ofs_get h (show 0 < l.length by omega)).1, ev_length hR]
  have gf : fidx (l.take j) (l.getD j default).1 (l.take j).length 0 = -1 := by
    refine fidx_none _ _ fun i _ hi => ?_
    simp only [List.length_take] at hi
    have hij : i < j := by omega
    rw [getD_take hij]
    have := hp i j (by omega) hj' hij
    simpa [hj', show i < l.length by omega] using this
  unfold chk1
  rw [if_neg (by omega), gf, if_neg (by omega), if_neg (by omega), if_neg (by omega)]
/-- Shares of one secret: too few are refused, as many as needed give it. -/
theorem ofs_join {S R : List UInt8} {m : Nat} {l : List Sh} (h : Ofs S m R l) (hl : l.length ≤ 10) (hS : S.length ≤ 4096) (hm : 1 ≤ m) (hm2 : m ≤ 10) (hR : R.length = (m - 1) * S.length) :
    (l.length < m → jnF l m = (18, -1) ∧ jn l m = []) ∧ (m ≤ l.length → jnF l m = (0, 0) ∧ jn l m = S) := by
  have hc := ofs_chk h hl hS hR
  constructor
  · intro hlt
    have e : chkAll l m = (18, -1) := by
      unfold chkAll
      rw [if_neg (fun k => k hc), if_neg (by omega), if_pos (by omega)]
    have e2 : jnF l m = (18, -1) := by rw [jnF, if_pos (by rw [e]; decide), e]
    exact ⟨e2, by rw [jn, if_neg (by rw [e2]; decide)]⟩
  · intro hge
    have e : chkAll l m = (0, 0) := by
      unfold chkAll
      rw [if_neg (fun k => k hc), if_neg (by omega), if_neg (by omega)]
    have ht : Ofs S m R (l.take m) := h.sub (List.take_sublist _ _)
    have hat : ∀ x, atS (l.take m) x = ev S m R x := fun x => ofs_at ht (by rw [List.length_take]; omega) hm hR
    have e3 : frg l m = (0, 0) := by
      unfold frg
      refine frF_all _ _ fun j h1 h2 => ?_
      rw [hat, (ofs_get h (show j < l.length by omega)).1]
    have e2 : jnF l m = (0, 0) := by
      rw [jnF, if_neg (fun k => k e), Int.toNat_natCast, e3]
    exact ⟨e2, by rw [jn, if_pos e2, Int.toNat_natCast, hat, ev_zero hm hR]⟩
theorem chs_sub (l : List Sh) (b : Nat) : ∀ i, i ≤ l.length → (chs l b i).Sublist (l.take i)
  | 0, _ => by simp [chs]
  | i + 1, hi => by
    have hi' : i < l.length := by omega
    rw [chs, List.take_succ_eq_append_getElem hi']
    refine (chs_sub l b i (by omega)).append ?_
    split
    · simp [hi']
    · exact List.nil_sublist _
theorem spl_ofs {S R : List UInt8} {m k : Nat} (hk : k ≤ 10) : Ofs S m R (spl S m R k) := by
  refine ⟨fun s hs => ?_, fun s hs => ?_, ?_⟩
  · obtain ⟨j, _, rfl⟩ := List.mem_map.1 hs; rfl
  · obtain ⟨j, hj, rfl⟩ := List.mem_map.1 hs
    have := List.mem_range.1 hj
    show 1 ≤ (j : Int) + 1 ∧ (j : Int) + 1 ≤ 10
    omega
  · unfold spl
    rw [List.pairwise_map]
    exact List.pairwise_lt_range.imp fun {a b} hab e => by
      have : (a : Int) + 1 = (b : Int) + 1 := e
      omega
end Go.M
