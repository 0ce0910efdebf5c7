/- Plain combinators in which the generator writes what code computes: checks, and loops that may not end. No program in sight. -/
import Derived.WalkKit
import Derived.Test.YtdiieblgeaehpaaGreatDoorEngH
namespace Go.L
abbrev I64 (x : Int) : Prop := -9223372036854775808 ≤ x ∧ x ≤ 9223372036854775807
def chk {α : Type} (p : Prop) [Decidable p] (k : Option α) : Option α := if p then k else none
theorem chk_some {α : Type} {p : Prop} [Decidable p] {k : Option α} {e : α} (h : chk p k = some e) : p ∧ k = some e := by
  unfold chk at h
  split at h
  · rename_i hp; exact ⟨hp, h⟩
  · cases h
theorem chk_pos {α : Type} {p : Prop} [Decidable p] {k : Option α} (h : p) : chk p k = k := by unfold chk; rw [if_pos h]
theorem bind_some {α β : Type} {m : Option α} {f : α → Option β} {e : β} (h : m.bind f = some e) : ∃ x, m = some x ∧ f x = some e := Option.bind_eq_some_iff.1 h
theorem ite_t {α : Type} {b : Bool} {x y : Option α} {e : α} (hb : b = true) (h : (if b then x else y) = some e) : x = some e := by rw [if_pos hb] at h; exact h
theorem ite_f {α : Type} {b : Bool} {x y : Option α} {e : α} (hb : b = false) (h : (if b then x else y) = some e) : y = some e := by rw [if_neg (by rw [hb]; decide)] at h; exact h
theorem ite_p {α : Type} {p : Prop} [Decidable p] {x y : Option α} {e : α} (hb : p) (h : (if p then x else y) = some e) : x = some e := by rw [if_pos hb] at h; exact h
theorem ite_n {α : Type} {p : Prop} [Decidable p] {x y : Option α} {e : α} (hb : ¬ p) (h : (if p then x else y) = some e) : y = some e := by rw [if_neg hb] at h; exact h
section
variable {σ ρ : Type}
/-- A loop, so many rounds at most. -/
def itr (b : σ → Option (σ ⊕ ρ)) : Nat → σ → Option ρ
  | 0, _ => none
  | n + 1, s => (b s).bind fun e => match e with | .inl s' => itr b n s' | .inr r => some r
/-- What a round leads to. -/
def Nxt (b : σ → Option (σ ⊕ ρ)) (n : Nat) (r : ρ) : σ ⊕ ρ → Prop
  | .inl s => itr b n s = some r
  | .inr x => x = r
theorem itr_some {b : σ → Option (σ ⊕ ρ)} {n : Nat} {s : σ} {r : ρ} (h : itr b n s = some r) : ∃ m e, n = m + 1 ∧ b s = some e ∧ Nxt b m r e := by
  cases n with
  | zero => cases h
  | succ m =>
    obtain ⟨e, h1, h2⟩ := Option.bind_eq_some_iff.1 h
    refine ⟨m, e, rfl, h1, ?_⟩
    cases e with
    | inl s' => exact h2
    | inr x => exact Option.some.inj h2
theorem Nxt.out {b : σ → Option (σ ⊕ ρ)} {n : Nat} {r : ρ} {e : σ ⊕ ρ} {m : Option ρ} (h : m.map Sum.inr = some e) (hm : Nxt b n r e) : m = some r := by
  cases m with
  | none => cases h
  | some x => cases h; exact congrArg some hm
theorem Nxt.again {b : σ → Option (σ ⊕ ρ)} {n : Nat} {r : ρ} {e : σ ⊕ ρ} {s : σ} (h : some (Sum.inl s) = some e) (hm : Nxt b n r e) : itr b n s = some r := by cases h; exact hm
theorem itr_more {b : σ → Option (σ ⊕ ρ)} : ∀ {n : Nat} {s : σ} {r : ρ} (k : Nat), itr b n s = some r → itr b (n + k) s = some r
  | 0, _, _, _, h => by cases h
  | n + 1, s, r, k, h => by
    obtain ⟨m, e, hm, h1, h2⟩ := itr_some h
    obtain rfl : n = m := by omega
    rw [show n + 1 + k = (n + k) + 1 by omega, itr, h1]
    cases e with
    | inl s' => exact itr_more k h2
    | inr x => exact congrArg some h2
theorem itr_one {b : σ → Option (σ ⊕ ρ)} {n m : Nat} {s : σ} {r q : ρ} (h : itr b n s = some r) (k : itr b m s = some q) : r = q := by
  have h1 := itr_more m h
  have h2 := itr_more n k
  rw [Nat.add_comm] at h2
  exact Option.some.inj (h1.symm.trans h2)
/-- A loop, as many rounds as it takes. -/
noncomputable def run (b : σ → Option (σ ⊕ ρ)) (s : σ) : Option ρ :=
  open Classical in if h : ∃ r, ∃ n, itr b n s = some r then some h.choose else none
theorem run_of {b : σ → Option (σ ⊕ ρ)} {n : Nat} {s : σ} {r : ρ} (h : itr b n s = some r) : run b s = some r := by
  have hx : ∃ r, ∃ n, itr b n s = some r := ⟨r, n, h⟩
  unfold run
  rw [dif_pos hx]
  obtain ⟨m, hm⟩ := hx.choose_spec
  rw [itr_one hm h]
theorem run_some {b : σ → Option (σ ⊕ ρ)} {s : σ} {r : ρ} (h : run b s = some r) : ∃ n, itr b n s = some r := by
  unfold run at h
  split at h
  · rename_i hx
    cases h
    exact hx.choose_spec
  · cases h
theorem run_inl {b : σ → Option (σ ⊕ ρ)} {s s' : σ} (h : b s = some (.inl s')) : run b s = run b s' := by
  cases hr : run b s' with
  | some r =>
    obtain ⟨n, hn⟩ := run_some hr
    exact run_of (n := n + 1) (by rw [itr, h]; exact hn)
  | none =>
    cases hs : run b s with
    | none => rfl
    | some r =>
      obtain ⟨n, hn⟩ := run_some hs
      obtain ⟨m, e, _, h1, h2⟩ := itr_some hn
      rw [h] at h1; cases h1
      rw [run_of h2] at hr; cases hr
theorem run_inr {b : σ → Option (σ ⊕ ρ)} {s : σ} {m : Option ρ} (h : b s = m.map .inr) : run b s = m := by
  cases m with
  | some r => exact run_of (n := 1) (by rw [itr, h]; rfl)
  | none =>
    cases hs : run b s with
    | none => rfl
    | some r =>
      obtain ⟨n, hn⟩ := run_some hs
      obtain ⟨m, e, _, h1, h2⟩ := itr_some hn
      rw [h] at h1; cases h1
/-- A loop under an invariant. -/
theorem run_inv {b : σ → Option (σ ⊕ ρ)} (I : σ → Prop) (μ : σ → Nat) {m : Option ρ} (step : ∀ s, I s → (∃ s', b s = some (.inl s') ∧ I s' ∧ μ s' < μ s) ∨ b s = m.map .inr) {s : σ} (h : I s) : run b s = m := by
  have key : ∀ k s, μ s = k → I s → run b s = m := by
    intro k
    induction k using Nat.strongRecOn with
    | _ k ih =>
      intro s hk hI
      rcases step s hI with ⟨s', h1, h2, h3⟩ | h1
      · rw [run_inl h1]; exact ih (μ s') (by omega) s' rfl h2
      · exact run_inr h1
  exact key _ s rfl h
/-- A loop that counts up to an end: the state is given at each round. -/
theorem run_count {b : σ → Option (σ ⊕ ρ)} (st : Nat → σ) (k : Nat) {m : Option ρ} (step : ∀ i, i < k → b (st i) = some (.inl (st (i + 1)))) (last : b (st k) = m.map .inr) (i : Nat) (hi : i ≤ k) : run b (st i) = m := by
  have key : ∀ d i, i + d = k → run b (st i) = m := by
    intro d
    induction d with
    | zero => intro i h; rw [Nat.add_zero] at h; subst h; exact run_inr last
    | succ d ih => intro i h; rw [run_inl (step i (by omega))]; exact ih (i + 1) (by omega)
  exact key (k - i) i (by omega)
end
/-- A number as a byte. -/
def u8 (a : Int) : UInt8 := UInt8.ofNat (a % 256).toNat
theorem u8_toNat (a : Int) : ((u8 a).toNat : Int) = a % 256 := by
  unfold u8
  rw [UInt8.toNat_ofNat']
  omega
end Go.L
namespace Go.E
open Go Go.RowKit
/-- The memory that lies fast: that of the arguments, and what is new and not owned. -/
def gz (H : PH) (w0 w : World) (O : List Res) : PH := un H (nf w0 w O)
section
variable {H : PH} {w0 w w' : World} {O O' : List Res}
theorem le_un_left' {A B : PH} (hA : Le A (hp w0)) (hB : ∀ b o, B b = some o → w0.heap.size ≤ b) : Le A (un A B) := fun b o e => by
  have hb : b < w0.heap.size := lt_of_heap (hA b o e)
  unfold un
  cases h : B b with
  | none => exact e
  | some o' => have := hB b o' h; omega
theorem nf_ge {b : Nat} {o : Obj} (h : nf w0 w O b = some o) : w0.heap.size ≤ b := by
  unfold nf at h
  split at h
  · assumption
  · cases h
theorem gz_left (hH : Le H (hp w0)) : Le H (gz H w0 w O) := le_un_left' hH (fun _ _ h => nf_ge h)
theorem gz_right : Le (nf w0 w O) (gz H w0 w O) := le_un_right
theorem un_mono_right {A B C : PH} (hA : Le A (un A C)) (h : Le B C) : Le (un A B) (un A C) := un_le hA (h.trans le_un_right)
theorem gz_mono (hH : Le H (hp w0)) (h : Le (fz w O) (fz w' O')) : Le (gz H w0 w O) (gz H w0 w' O') := un_mono_right (gz_left hH) (nf_mono h)
theorem gz_fz (hH : Le H (hp w0)) (hL : Lcl w0 O w) : Le (gz H w0 w O) (fz w O) := un_le (hH.trans hL.argFz) nf_fz
theorem gz_le (hH : Le H (hp w0)) (hL : Lcl w0 O w) : Le (gz H w0 w O) (hp w) := (gz_fz hH hL).trans (fz_le _ _)
theorem gz_new (hL : Lcl w0 O w) : Le (nw w w') (gz H w0 w' O) := (nw_nf hL).trans le_un_right
theorem gz_nw (hH : Le H (hp w0)) (hL : Lcl w0 O w) (hx : Ext w w') : Le (un (gz H w0 w O) (nw w w')) (gz H w0 w' O) := un_le (gz_mono hH (fz_ext hL hx)) (gz_new hL)
theorem gz_res (hH : Le H (hp w0)) : Le (gz H w0 w O) (un H (nw w0 w)) := un_le (le_un_left hH) (nf_nw.trans le_un_right)
/-- What lies fast here. -/
theorem Lcl.rG (_ : Lcl w0 O w) (H : PH) : Le (gz H w0 w O) (gz H w0 w O) := Le.refl _
end
/-- A slice of the call's own whose elements lie in H or in new memory. -/
def OwnH {α : Type} (e : TypeId) (r : Rp α) (H : PH) (w w' : World) (v : Value) (l : List α) : Prop :=
  ∃ xs, w'.ownsRow w.heap.size e r.sz v l.length xs ∧ Elems r (un H (nwBut w w' v)) l xs
section
variable {α : Type} {e : TypeId} {r : Rp α} {H : PH} {w0 w w' : World} {O : List Res} {v : Value} {l : List α} {i : Nat} {xs : List Value}
theorem nwBut_ge {b : Nat} {o : Obj} (h : nwBut w w' v b = some o) : w.heap.size ≤ b := by
  unfold nwBut nw at h
  split at h
  · cases h
  · split at h
    · assumption
    · cases h
theorem OwnH.vec (hH : Le H (hp w)) (h : OwnH e r H w w' v l) : Vec r (un H (nw w w')) v l := by
  obtain ⟨xs, h1, h2⟩ := h
  refine vec_of_row h1 h2 (un_le (le_un_left hH) (nwBut_le.trans le_un_right)) fun k hk o ho => ?_
  have := (h1.lt k hk).1
  apply le_un_right
  unfold nw
  rw [if_pos this]; exact ho
theorem OwnH.vecG (h : OwnH e r (gz H w0 w O) w w' v l) (hH : Le H (hp w0)) (hL : Lcl w0 O w) (hx : Ext w w') : Vec r (gz H w0 w' O) v l := (h.vec (gz_le hH hL)).mono (gz_nw hH hL hx)
theorem OwnH.take (h : OwnH e r (gz H w0 w O) w w' v l) (hH : Le H (hp w0)) (hL : Lcl w0 O w) (hx : Ext w w') : ∃ xs, Lcl w0 (.row v e r.sz l.length xs :: O) w' ∧ Le (fz w O) (fz w' (.row v e r.sz l.length xs :: O)) ∧ Elems r (gz H w0 w' (.row v e r.sz l.length xs :: O)) l xs := by
  obtain ⟨xs, h1, h2⟩ := h
  obtain ⟨h3, h4⟩ := row_new hL hx h1
  refine ⟨xs, h3, h4, h2.mono (un_le (gz_mono hH h4) (fun b o hb => gz_right b o ?_))⟩
  have hge : w0.heap.size ≤ b := Nat.le_trans hL.ext.size (nwBut_ge hb)
  unfold nf
  rw [if_pos hge]
  exact nwBut_fz hL b o hb
theorem OwnH.nil {H : PH} : OwnH e r H w w' (.slice none 0 0) ([] : List α) := ⟨[], World.ownsRow_nil w' _ e _, .nil⟩
theorem Lcl.ownH (hL : Lcl w0 O w) (hH : Le H (hp w0)) (hi : nthR O i = some (.row v e r.sz l.length xs)) (he : Elems r (gz H w0 w O) l xs) : OwnH e r H w0 w v l :=
  ⟨xs, ownsRow_base (hL.at hi) (fun k hk => hL.own _ ((perm_nth hi).mem_iff.2 (.head _)) k hk), he.mono (un_le (le_un_left' hH (fun _ _ h => nwBut_ge h)) ((nf_but hi).trans le_un_right))⟩
/-- A row lies fast from now on. -/
theorem Lcl.vecG (hL : Lcl w0 O w) (hH : Le H (hp w0)) (hi : nthR O i = some (.row v e r.sz l.length xs)) (he : Elems r (gz H w0 w O) l xs) : Vec r (gz H w0 w (delR O i)) v l :=
  vec_of_row (hL.at hi) he (gz_mono hH (fz_dropAt hi)) (fun k hk o ho => gz_right k o (by
    unfold nf
    rw [if_pos (hL.own _ ((perm_nth hi).mem_iff.2 (.head _)) k hk), fz_hp_drop hi hk hL.dis]; exact ho))
/-- A row is read. -/
theorem Lcl.vecN (hL : Lcl w0 O w) (hH : Le H (hp w0)) (hi : nthR O i = some (.row v e r.sz l.length xs)) (he : Elems r (gz H w0 w O) l xs) : Vec r (hp w) v l := hL.vecR hi (he.mono (gz_fz hH hL))
end
/-- Strings. -/
def Rp.st : Rp (List UInt8) := ⟨1, fun _ x c => c = [.string ⟨x.toArray⟩], fun h => by simp [h], fun _ h => h, fun h u hu => by subst h; simp at hu; subst hu; rfl⟩
/-- Nothing. -/
def Rp.unit : Rp Unit := ⟨0, fun _ _ c => c = [], fun h => by simp [h], fun _ h => h, fun h u hu => by subst h; cases hu⟩
theorem Elems.set {α : Type} {r : Rp α} {H : PH} {l : List α} {cs : List Value} {x : α} {u : Value} (h : Elems r H l cs) (hx : r.rel H x [u]) : ∀ i, i < l.length → Elems r H (l.set i x) (cs.set (i * r.sz) u) := by
  have hsz : r.sz = 1 := (r.len hx).symm
  induction h with
  | nil => intro i hi; cases hi
  | @cons y l c cs h t ih =>
    intro i hi
    have hc : c.length = 1 := by rw [r.len h, hsz]
    obtain ⟨z, rfl⟩ := List.length_eq_one_iff.1 hc
    cases i with
    | zero => rw [Nat.zero_mul]; exact .cons hx t
    | succ i =>
      rw [hsz, Nat.mul_one] at *
      simp only [List.length_cons] at hi
      have := ih i (by omega)
      rw [Nat.mul_one] at this
      exact .cons h this
section
variable {P : Program} {n : Sz} {ops : Array Oper} {Q : Exit → Act → World → Prop} {L : Env} {w w0 : World} {O : List Res} {rest : List Oper}
  {d : Nat} {ty : TypeId} {pos : String} {af : Array Edge} {α : Type} {r : Rp α} {x y : Operand} {v u : Value} {t t' e : TypeId} {H : PH}
abbrev Cap (bt n : Nat) : Prop := n * bt ≤ 140737488355328 ∧ n ≤ 9223372036854775807
theorem S_appE (i : Nat) {bt : Nat} {zz : Value} {l m : List α} {xs : List Value} (hx : ev L x = some v) (hy : ev L y = some u) (ht : P.underlying t = some (.slice e)) (hz : Zr P e zz r.sz bt) (hzs : zz.cells.size = r.sz) (hsz : 0 < r.sz) (hn : Nat.blt d n.n = true)
    (hH : Le H (hp w0)) (hL : Lcl w0 O w) (hi : nthR O i = some (.row v e r.sz l.length xs)) (he : Elems r (gz H w0 w O) l xs) (hm : Vec r (gz H w0 w O) u m) (hby : Cap bt (l.length + m.length))
    (h : ∀ v' w' xs', Lcl w0 (setR O i (.row v' e r.sz (l ++ m).length xs')) w' → Le (fz w O) (fz w' (setR O i (.row v' e r.sz (l ++ m).length xs'))) → Elems r (gz H w0 w' (setR O i (.row v' e r.sz (l ++ m).length xs'))) (l ++ m) xs' → S P n ops Q rest ((d, v') :: L) w') :
    S P n ops Q (⟨some d, .call ⟨.builtin .append, #[x, y], #[t, t]⟩, ty, pos, af, none⟩ :: rest) L w := by
  obtain ⟨news, hn1, hs⟩ := hm.elems
  refine S_append i hx hy ht hz hzs hsz hn hL hi (hs.mono (gz_le hH hL)) hn1.one hby fun v' w' h1 h2 => ?_
  rw [← List.length_append] at h1 h2
  exact h v' w' _ h1 h2 ((he.append hn1).mono (gz_mono hH h2))
/-- A row that this region has made holds more. -/
theorem S_storeE (i : Nat) {bt k j : Nat} {zz : Value} {l : List α} {xs : List Value} {p : Addr} {z : α} (hx : ev L x = some (.pointer (some p))) (hy : ev L y = some u) (hu : u.oneCell' = true) (hz : Zr P t zz 1 bt) (hH : Le H (hp w0)) (hL : Lcl w0 O w) (hi : nthR O i = some (.row v e r.sz l.length xs)) (he : Elems r (gz H w0 w O) l xs)
    (hp' : RowPtr v k p) (hk : k = j * r.sz) (hj : j < l.length) (hz' : r.rel (gz H w0 w O) z [u])
    (h : ∀ w' xs', Lcl w0 (setR O i (.row v e r.sz (l.set j z).length xs')) w' → Le (fz w O) (fz w' (setR O i (.row v e r.sz (l.set j z).length xs'))) → Elems r (gz H w0 w' (setR O i (.row v e r.sz (l.set j z).length xs'))) (l.set j z) xs' → S P n ops Q rest L w') :
    S P n ops Q (⟨none, .store t x y, ty, pos, af, none⟩ :: rest) L w := by
  subst hk
  have hlen := he.len
  have hsz : r.sz = 1 := (r.len hz').symm
  refine S_storeR i hx hy hu hz hL hi hp' (by rw [hlen, hsz]; omega) fun w' h1 h2 => ?_
  have e1 : l.length = (l.set j z).length := by simp
  rw [e1] at h1 h2
  exact h w' _ h1 h2 ((he.set hz' j hj).mono (gz_mono hH h2))
/-- A slice literal, read. -/
theorem S_litE {ps : List (Nat × Operand)} {vs : List (Nat × Value)} {cs : List Value} {l : List α} (hp' : evp L ps = some vs) (hr : ∀ w, (Instr.buildSlice t l.length vs.toArray).run P w = .ok (.slice (some ⟨w.heap.size, 0, none⟩) l.length l.length) (w.alloc (.cells cs.toArray e))) (hn : Nat.blt d n.n = true) (hlen : l.length ≤ 9223372036854775807) (hH : Le H (hp w0)) (hL : Lcl w0 O w) (he : Elems r (gz H w0 w O) l cs)
    (h : ∀ u w', Ext w w' → Lcl w0 O w' → Le (fz w O) (fz w' O) → Vec r (gz H w0 w' O) u l → S P n ops Q rest ((d, u) :: L) w') :
    S P n ops Q (⟨some d, .buildSlice t l.length ps.toArray, ty, pos, af, none⟩ :: rest) L w :=
  S_lit (sz := r.sz) hp' hr he.len hlen hn hL fun u w' hx hL' hle hs _ => h u w' hx hL' hle (vec_of_src (he.mono (gz_mono hH hle)) (hs.mono (gz_new hL)))
/-- A slice literal, owned. -/
theorem S_litO {ps : List (Nat × Operand)} {vs : List (Nat × Value)} {cs : List Value} {l : List α} (hp' : evp L ps = some vs) (hr : ∀ w, (Instr.buildSlice t l.length vs.toArray).run P w = .ok (.slice (some ⟨w.heap.size, 0, none⟩) l.length l.length) (w.alloc (.cells cs.toArray e))) (hn : Nat.blt d n.n = true) (hlen : l.length ≤ 9223372036854775807) (hH : Le H (hp w0)) (hL : Lcl w0 O w) (he : Elems r (gz H w0 w O) l cs)
    (h : ∀ u w' xs, Lcl w0 (.row u e r.sz l.length xs :: O) w' → Le (fz w O) (fz w' (.row u e r.sz l.length xs :: O)) → Elems r (gz H w0 w' (.row u e r.sz l.length xs :: O)) l xs → S P n ops Q rest ((d, u) :: L) w') :
    S P n ops Q (⟨some d, .buildSlice t l.length ps.toArray, ty, pos, af, none⟩ :: rest) L w :=
  S_lit (sz := r.sz) hp' hr he.len hlen hn hL fun u w' hx _ _ _ ho => by
    obtain ⟨h1, h2⟩ := row_new hL hx ho
    exact h u w' _ h1 h2 (he.mono (gz_mono hH h2))
theorem S_makeE {bt : Nat} {k k' : IntKind} {zz : Value} {c c' : Int} {z : α} (hx : ev L x = some (.int k c)) (hy : ev L y = some (.int k' c')) (hcc : c' = c) (ht : P.underlying t = some (.slice e)) (hz : Zr P e zz r.sz bt) (hzc : zz.cells = #[zz]) (hrz : ∀ G, r.rel G z [zz]) (hn : Nat.blt d n.n = true) (_hH : Le H (hp w0)) (hL : Lcl w0 O w) (hm : 0 ≤ c ∧ (bt : Int) * c ≤ 281474976710656 ∧ c ≤ 9223372036854775807)
    (h : ∀ v' w' xs, Lcl w0 (.row v' e r.sz (List.replicate c.toNat z).length xs :: O) w' → Le (fz w O) (fz w' (.row v' e r.sz (List.replicate c.toNat z).length xs :: O)) → Elems r (gz H w0 w' (.row v' e r.sz (List.replicate c.toNat z).length xs :: O)) (List.replicate c.toNat z) xs → S P n ops Q rest ((d, v') :: L) w') :
    S P n ops Q (⟨some d, .makeSlice t x y, ty, pos, af, none⟩ :: rest) L w := by
  have hsz : r.sz = 1 := (r.len (hrz H)).symm
  obtain ⟨m, rfl⟩ := Int.eq_ofNat_of_zero_le hm.1
  subst hcc
  rw [hsz] at hz
  refine S_make (m := m) hx hy ⟨rfl, rfl⟩ ht hz hzc hn hL ⟨by have := hm.2.1; rw [← Int.natCast_mul] at this; exact Int.ofNat_le.1 this, by omega⟩ fun v' w' _ h1 h2 => ?_
  have e1 : m = (List.replicate (m : Int).toNat z).length := by simp
  have e2 : Res.row v' e 1 m (List.replicate m zz) = .row v' e r.sz (List.replicate (m : Int).toNat z).length (List.replicate m zz) := by rw [hsz, ← e1]
  rw [e2] at h1 h2
  refine h v' w' _ h1 h2 ?_
  have key : ∀ (G : PH) (k : Nat), Elems r G (List.replicate k z) (List.replicate k zz) := fun G k => by
    induction k with
    | zero => exact .nil
    | succ k ih => exact .cons (c := [zz]) (hrz G) ih
  exact key _ _
end
section
variable {P : Program} {n : Sz} {lo : List Oper} {Q : Exit → Act → World → Prop} {L : Env} {w w0 : World} {O : List Res} {tr : Tr} {ix : Nat}
  {d : Nat} {ty : TypeId} {pos : String} {af : Array Edge} {α : Type} {r : Rp α} {x y : Operand} {v : Value} {t e : TypeId} {H : PH}
theorem D_litE {ps : List (Nat × Operand)} {vs : List (Nat × Value)} {cs : List Value} {l : List α} (ho : nthO lo ix = some ⟨some d, .buildSlice t l.length ps.toArray, ty, pos, af, none⟩) (hp' : evp L ps = some vs) (hr : ∀ w, (Instr.buildSlice t l.length vs.toArray).run P w = .ok (.slice (some ⟨w.heap.size, 0, none⟩) l.length l.length) (w.alloc (.cells cs.toArray e))) (hn : Nat.blt d n.n = true) (hlen : l.length ≤ 9223372036854775807) (hH : Le H (hp w0)) (hL : Lcl w0 O w) (he : Elems r (gz H w0 w O) l cs)
    (h : ∀ u w', Ext w w' → Lcl w0 O w' → Le (fz w O) (fz w' O) → Vec r (gz H w0 w' O) u l → D P n lo Q tr ((d, u) :: L) w') : D P n lo Q (.h ix tr) L w := by
  refine D_hop (R := fun w1 u w' => Src (nw w1 w') r.sz u l.length cs) ho hn (fun w1 hx1 ρ hρ => ?_) (fun w1 u w' hx1 hx2 hR => ?_)
  · have e1 := hρ.mapp _ _ hp'
    have e' : (ps.toArray.map fun (i, x) => (i, ρ x)) = vs.toArray := by rw [← e1]; simp
    refine ⟨_, _, by simp [execOp, e', hr w1, -List.map_toArray], ext_alloc w1 (.cells cs.toArray e), he.len, some ⟨w1.heap.size, 0, none⟩, l.length, rfl, Nat.le_refl _, by unfold maxLen; omega, (fun e => by cases e), fun A hA _ => ?_⟩
    cases hA
    refine ⟨rfl, fun j u hu => ?_⟩
    simp only [Addr.add_lit, Nat.zero_add, cellP, nw, Nat.le_refl, if_true, heap_alloc_new]
    simpa using hu
  · have hL1 := hL.call hx1
    have hle := (fz_ext hL hx1).trans (fz_ext hL1 hx2)
    exact h u w' (hx1.trans hx2) (hL1.call hx2) hle (vec_of_src (he.mono (gz_mono hH hle)) (hR.mono (gz_new hL1)))
theorem D_litO {ps : List (Nat × Operand)} {vs : List (Nat × Value)} {cs : List Value} {l : List α} (ho : nthO lo ix = some ⟨some d, .buildSlice t l.length ps.toArray, ty, pos, af, none⟩) (hp' : evp L ps = some vs) (hr : ∀ w, (Instr.buildSlice t l.length vs.toArray).run P w = .ok (.slice (some ⟨w.heap.size, 0, none⟩) l.length l.length) (w.alloc (.cells cs.toArray e))) (hn : Nat.blt d n.n = true) (hlen : l.length ≤ 9223372036854775807) (hH : Le H (hp w0)) (hL : Lcl w0 O w) (he : Elems r (gz H w0 w O) l cs)
    (h : ∀ u w' xs, Lcl w0 (.row u e r.sz l.length xs :: O) w' → Le (fz w O) (fz w' (.row u e r.sz l.length xs :: O)) → Elems r (gz H w0 w' (.row u e r.sz l.length xs :: O)) l xs → D P n lo Q tr ((d, u) :: L) w') : D P n lo Q (.h ix tr) L w := by
  refine D_hop (R := fun w1 u w' => w'.ownsRow w1.heap.size e r.sz u l.length cs) ho hn (fun w1 hx1 ρ hρ => ?_) (fun w1 u w' hx1 hx2 hR => ?_)
  · have e1 := hρ.mapp _ _ hp'
    have e' : (ps.toArray.map fun (i, x) => (i, ρ x)) = vs.toArray := by rw [← e1]; simp
    refine ⟨.slice (some ⟨w1.heap.size, 0, none⟩) l.length l.length, w1.alloc (.cells cs.toArray e), by simp [execOp, e', hr w1, -List.map_toArray], ext_alloc w1 (.cells cs.toArray e), ?_⟩
    have := World.ownsRow_lit (base := w1.heap.size) (e := e) (size := r.sz) w1 cs.toArray l.length (Nat.le_refl _) (by unfold maxLen; omega) (by simpa using he.len)
    simpa using this
  · obtain ⟨h1, h2⟩ := row_new (hL.call hx1) hx2 hR
    have hle := (fz_ext hL hx1).trans h2
    exact h u w' _ h1 hle (he.mono (gz_mono hH hle))
end
end Go.E
