/- Plain laws: the field, and that a secret's shares are as specified. No program in sight. -/
import Derived.Test.YtidedcbaahiplaaSpecB
namespace Go.M

/-! ### The product is linear on both sides, and commutes -/
theorem xlc (a b c : Nat) : a ^^^ (b ^^^ c) = b ^^^ (a ^^^ c) := by rw [← Nat.xor_assoc, Nat.xor_comm a b, Nat.xor_assoc]
theorem xself (a b : Nat) : a ^^^ (a ^^^ b) = b := by rw [← Nat.xor_assoc, Nat.xor_self, Nat.zero_xor]
theorem xt_xor {x y : Nat} (hx : x < 256) (hy : y < 256) : xt (x ^^^ y) = xt x ^^^ xt y := by
  have key : ∀ x : Fin 256, xt x.val = ((2 * x.val) % 256) ^^^ (x.val / 128 * 29) := by decide +kernel
  have hxy := xor_lt hx hy
  have h1 := key ⟨x, hx⟩
  have h2 := key ⟨y, hy⟩
  have h3 := key ⟨x ^^^ y, hxy⟩
  simp only at h1 h2 h3
  rw [h1, h2, h3]
  have e1 : 2 * (x ^^^ y) % 256 = (2 * x % 256) ^^^ (2 * y % 256) := by
    have := Nat.shiftLeft_xor_distrib (a := x) (b := y) (i := 1)
    rw [Nat.shiftLeft_eq, Nat.shiftLeft_eq, Nat.shiftLeft_eq] at this
    have h := Nat.xor_mod_two_pow (a := x * 2 ^ 1) (b := y * 2 ^ 1) (n := 8)
    rw [← this] at h
    simp only [Nat.reducePow] at h
    rw [Nat.mul_comm 2, Nat.mul_comm 2 x, Nat.mul_comm 2 y]
    exact h
  have e2 : (x ^^^ y) / 128 = (x / 128) ^^^ (y / 128) := by
    have := Nat.shiftRight_xor_distrib (a := x) (b := y) (i := 7)
    simpa [Nat.shiftRight_eq_div_pow] using this
  have e3 : ∀ p q : Nat, p < 2 → q < 2 → (p ^^^ q) * 29 = (p * 29) ^^^ (q * 29) := by
    intro p q hp hq
    have : ∀ p q : Fin 2, (p.val ^^^ q.val) * 29 = (p.val * 29) ^^^ (q.val * 29) := by decide
    exact this ⟨p, hp⟩ ⟨q, hq⟩
  rw [e1, e2, e3 _ _ (by omega) (by omega)]
  simp only [Nat.xor_assoc, xlc]
/-- The rounds, without the stop. -/
def gmG : Nat → Nat → Nat → Nat
  | 0, _, _ => 0
  | n + 1, x, b => (if b % 2 = 1 then x else 0) ^^^ gmG n (xt x) (b / 2)
theorem gmG_zero : ∀ (n x : Nat), gmG n x 0 = 0
  | 0, _ => rfl
  | n + 1, x => by simp [gmG, gmG_zero n]
theorem gmF_gmG : ∀ (n x b s : Nat), gmF n x b s = s ^^^ gmG n x b
  | 0, x, b, s => by simp [gmF, gmG]
  | n + 1, x, b, s => by
    unfold gmF gmG
    split
    · rename_i h; subst h; simp [gmG_zero]
    · rw [gmF_gmG n]
      split
      · rw [Nat.xor_assoc]
      · rw [Nat.zero_xor]
theorem gmG_xor_left : ∀ (n x y b : Nat), x < 256 → y < 256 → gmG n (x ^^^ y) b = gmG n x b ^^^ gmG n y b
  | 0, _, _, _, _, _ => by simp [gmG]
  | n + 1, x, y, b, hx, hy => by
    unfold gmG
    rw [xt_xor hx hy, gmG_xor_left n _ _ _ (xt_lt hx) (xt_lt hy)]
    split
    · simp only [Nat.xor_assoc, xlc]
    · simp
theorem mod2_xor (a b : Nat) : (a ^^^ b) % 2 = (a % 2) ^^^ (b % 2) := by
  have := Nat.xor_mod_two_pow (a := a) (b := b) (n := 1)
  simpa using this
theorem div2_xor (a b : Nat) : (a ^^^ b) / 2 = (a / 2) ^^^ (b / 2) := by
  have := Nat.shiftRight_xor_distrib (a := a) (b := b) (i := 1)
  simpa [Nat.shiftRight_eq_div_pow] using this
theorem gmG_xor_right : ∀ (n x a b : Nat), gmG n x (a ^^^ b) = gmG n x a ^^^ gmG n x b
  | 0, _, _, _ => by simp [gmG]
  | n + 1, x, a, b => by
    unfold gmG
    rw [div2_xor, gmG_xor_right n, mod2_xor]
    rcases Nat.mod_two_eq_zero_or_one a with h1 | h1 <;> rcases Nat.mod_two_eq_zero_or_one b with h2 | h2 
    · simp [h1, h2]
    · simp [h1, h2]; rw [xlc]
    · simp [h1, h2, Nat.xor_assoc]
    · simp [h1, h2]; rw [Nat.xor_assoc, xlc (gmG n (xt x) (a / 2)), xself]
theorem gmul_nat (a b : UInt8) : (gmul a b).toNat = gmG 8 a.toNat b.toNat := by
  have h := gmF_lt 8 a.toNat b.toNat 0 a.toNat_lt (by decide)
  rw [gmul, gmF_gmG, Nat.zero_xor] at *
  simp
  omega
theorem gmul_xor_left (a b c : UInt8) : gmul (a ^^^ b) c = gmul a c ^^^ gmul b c := by
  apply UInt8.toNat_inj.1
  rw [UInt8.toNat_xor, gmul_nat, gmul_nat, gmul_nat, UInt8.toNat_xor, gmG_xor_left _ _ _ _ a.toNat_lt b.toNat_lt]
theorem gmul_xor_right (a b c : UInt8) : gmul a (b ^^^ c) = gmul a b ^^^ gmul a c := by
  apply UInt8.toNat_inj.1
  rw [UInt8.toNat_xor, gmul_nat, gmul_nat, gmul_nat, UInt8.toNat_xor, gmG_xor_right]
theorem gmul_zero (a : UInt8) : gmul a 0 = 0 := by
  apply UInt8.toNat_inj.1
  rw [gmul_nat]; exact gmG_zero _ _
theorem zero_gmul (a : UInt8) : gmul 0 a = 0 := by
  have h := gmul_xor_left a a a
  simpa using h
/-- A byte is the sum of its bits: what is linear is told by the eight powers of two. -/
def bt (i : Nat) : UInt8 := UInt8.ofNat (2 ^ i)
def sumB (a : UInt8) : Nat → UInt8
  | 0 => 0
  | n + 1 => sumB a n ^^^ (if a.toNat.testBit n then bt n else 0)
theorem sumB_eq (a : UInt8) : sumB a 8 = a := by
  have key : ∀ a : Fin 256, sumB (UInt8.ofNat a.val) 8 = UInt8.ofNat a.val := by decide +kernel
  have := key ⟨a.toNat, a.toNat_lt⟩
  simpa using this
theorem lin_eq {f g : UInt8 → UInt8} (hf : ∀ a b, f (a ^^^ b) = f a ^^^ f b) (hg : ∀ a b, g (a ^^^ b) = g a ^^^ g b) (h : ∀ i, i < 8 → f (bt i) = g (bt i)) (a : UInt8) : f a = g a := by
  have hf0 : f 0 = 0 := by have := hf 0 0; simpa using this
  have hg0 : g 0 = 0 := by have := hg 0 0; simpa using this
  have key : ∀ n, n ≤ 8 → f (sumB a n) = g (sumB a n) := by
    intro n
    induction n with
    | zero => intro _; rw [sumB, hf0, hg0]
    | succ n ih =>
      intro hn
      rw [sumB, hf, hg, ih (by omega)]
      split
      · rw [h n (by omega)]
      · rw [hf0, hg0]
  have := key 8 (Nat.le_refl _)
  rwa [sumB_eq] at this
theorem gmul_comm (a b : UInt8) : gmul a b = gmul b a := by
  refine lin_eq (f := fun a => gmul a b) (g := fun a => gmul b a) (fun x y => gmul_xor_left x y b) (fun x y => gmul_xor_right b x y) (fun i hi => ?_) a
  refine lin_eq (f := fun b => gmul (bt i) b) (g := fun b => gmul b (bt i)) (fun x y => gmul_xor_right _ x y) (fun x y => gmul_xor_left x y _) (fun j hj => ?_) b
  have key : ∀ i j : Fin 8, gmul (bt i.val) (bt j.val) = gmul (bt j.val) (bt i.val) := by decide +kernel
  exact key ⟨i, hi⟩ ⟨j, hj⟩
theorem gmul_assoc (a b c : UInt8) : gmul (gmul a b) c = gmul a (gmul b c) := by
  refine lin_eq (f := fun a => gmul (gmul a b) c) (g := fun a => gmul a (gmul b c)) (fun x y => by rw [gmul_xor_left, gmul_xor_left]) (fun x y => gmul_xor_left x y _) (fun i hi => ?_) a
  refine lin_eq (f := fun b => gmul (gmul (bt i) b) c) (g := fun b => gmul (bt i) (gmul b c)) (fun x y => by rw [gmul_xor_right, gmul_xor_left]) (fun x y => by rw [gmul_xor_left, gmul_xor_right]) (fun j hj => ?_) b
  refine lin_eq (f := fun c => gmul (gmul (bt i) (bt j)) c) (g := fun c => gmul (bt i) (gmul (bt j) c)) (fun x y => gmul_xor_right _ x y) (fun x y => by rw [gmul_xor_right, gmul_xor_right]) (fun k hk => ?_) c
  have key : ∀ i j k : Fin 8, gmul (gmul (bt i.val) (bt j.val)) (bt k.val) = gmul (bt i.val) (gmul (bt j.val) (bt k.val)) := by decide +kernel
  exact key ⟨i, hi⟩ ⟨j, hj⟩ ⟨k, hk⟩
theorem gmul_one (a : UInt8) : gmul a 1 = a := by rw [gmul_comm, one_mul]

/-! ### The shares of a secret -/
theorem addRow_get {w : UInt8} {row data : List UInt8} {i : Nat} (h : i < row.length) (h2 : i < data.length) : (addRow w row data).getD i default = row.getD i default ^^^ gmul w (data.getD i default) := by
  simp [addRow, List.getElem?_zipWith, h, h2]
theorem vaF_cof {S R : List UInt8} {m i : Nat} {x : UInt8} (hR : R.length = m * S.length) (hi : i < S.length) : ∀ k, k ≤ m → vaF (cof S R i m) x (k + 1) = (evF S R x k).getD i default
  | 0, _ => by
    show vaF _ _ 0 ^^^ gmul _ _ = S.getD i default
    simp [vaF, evP, cof, gmul_one]
  | k + 1, hk => by
    rw [vaF, vaF_cof hR hi k (by omega)]
    show _ = (addRow (evP x (k + 1)) (evF S R x k) (rnd R S.length k)).getD i default
    rw [addRow_get (by rw [evF_length hR k (by omega)]; exact hi) (by rw [rnd_length hR (by omega)]; exact hi), ← rnd_get hR (by omega) hi, gmul_comm]
    congr 2
    have hk' : k < m := by omega
    simp [cof, hk']
theorem ev_shd {S R : List UInt8} {m : Nat} {x : UInt8} (hm : 1 ≤ m) (hR : R.length = (m - 1) * S.length) : ev S m R x = shd S m R x := by
  apply List.ext_getElem?
  intro i
  have hl := ev_length (x := x) hR
  rcases Nat.lt_or_ge i S.length with hi | hi
  · have h1 := vaF_cof (x := x) hR hi (m - 1) (Nat.le_refl _)
    rw [List.getElem?_eq_getElem (by rw [hl]; exact hi)]
    simp only [shd, shF, List.getElem?_map, List.getElem?_range hi, Option.map_some]
    congr 1
    unfold va
    rw [cof_length, h1]
    simp [ev, hl] at *
    rw [List.getElem?_eq_getElem (by rw [← ev, hl]; exact hi)]
    rfl
  · rw [List.getElem?_eq_none (by rw [hl]; exact hi), List.getElem?_eq_none (by rw [shd, shF_length]; exact hi)]
theorem spF_ok {S R : List UInt8} {m k : Int} (h : (spF S m k R).1 = 0) : spF S m k R = (0, 0) ∧ S.length ≤ 4096 ∧ 1 ≤ m ∧ m ≤ 10 ∧ m ≤ k ∧ k ≤ 10 ∧ R.length = (m.toNat - 1) * S.length := by
  unfold spF at h ⊢
  split at h
  · exact absurd h (by decide)
  · split at h
    · exact absurd h (by decide)
    · split at h
      · exact absurd h (by decide)
      · split at h
        · exact absurd h (by decide)
        · rename_i h1 h2 h3 h4
          rw [if_neg h1, if_neg h2, if_neg h3, if_neg h4]
          have h2' : 1 ≤ m ∧ m ≤ 10 := Decidable.byContradiction h2
          refine ⟨rfl, by omega, h2'.1, h2'.2, by omega, by omega, ?_⟩
          have h7 : ((m.toNat - 1 : Nat) : Int) = m - 1 := by omega
          have h8 : (((m.toNat - 1) * S.length : Nat) : Int) = (m - 1) * (S.length : Int) := by rw [Int.natCast_mul, h7]
          omega
theorem spA_good {S R : List UInt8} {m k : Int} (h : spF S m k R = (0, 0)) : spA S m k R = spl S m.toNat R k.toNat := by rw [spA, if_pos h]
theorem spA_bad {S R : List UInt8} {m k : Int} (h : ¬ (spF S m k R).1 = 0) : spA S m k R = [] := by rw [spA, if_neg (fun e => h (by rw [e]))]
theorem spl_one {S R : List UInt8} {m k i : Nat} (hm : 1 ≤ m) (hR : R.length = (m - 1) * S.length) (hi : i < k) : ((spl S m R k).drop i).take 1 = [(((i : Int) + 1 : Int), shd S m R (kb ((i : Int) + 1)))] := by
  rw [← ev_shd hm hR]
  have hl := spl_length S m R k
  rw [List.drop_eq_getElem_cons (by omega)]
  simp [spl]
end Go.M
