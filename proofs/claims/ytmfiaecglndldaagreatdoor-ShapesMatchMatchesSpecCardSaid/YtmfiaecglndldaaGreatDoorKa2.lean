/- Texts of a claim, merged. -/
import Derived.Test.YtmfiaecglndldaaGreatDoorKa1
import Derived.WalkKit
import Derived.Lib.AppendZeros
import Derived.Lib.Bytealg
import Derived.Laws.Externs
import Derived.Lib.ConvBytes
import Derived.Recover
import Derived.RangeFuncSeq
import Derived.RangeFuncLeaves
import Derived.RangeFuncCalls
import Derived.OrdersIn
import Derived.Scope
import Derived.Lib.Builder
import Derived.Lib.UnsafeStr
import Derived.Lib.OthersKept
import Derived.Lib.SliceRun
import Derived.Test.YtmfiaecglndldaaGreatDoorRows
import Derived.KernelRfl
set_option linter.unusedVariables false
set_option linter.unusedSimpArgs false
section
namespace Go.L
abbrev I64 (x : Int) : Prop := -9223372036854775808 ≤ x ∧ x ≤ 9223372036854775807
def chk {α : Type} (p : Prop) [Decidable p] (k : Option α) : Option α := if p then k else none
theorem chk_some {α : Type} {p : Prop} [Decidable p] {k : Option α} {e : α} (h : chk p k = some e) : p ∧ k = some e := by
  unfold chk at h
  split at h
  · rename_i hp; exact ⟨hp, h⟩
  · cases h
theorem chk_pos {α : Type} {p : Prop} [Decidable p] {k : Option α} (h : p) : chk p k = k := by unfold chk; rw [if_pos h]
theorem bind_some {α β : Type} {m : Option α} {f : α → Option β} {e : β} (h : m.bind f = some e) : ∃ x, m = some x ∧ f x = some e := Option.bind_eq_some_iff.1 h
theorem ite_t {α : Type} {b : Bool} {x y : Option α} {e : α} (hb : b = true) (h : (if b then x else y) = some e) : x = some e := by rw [if_pos hb] at h; exact h
theorem ite_f {α : Type} {b : Bool} {x y : Option α} {e : α} (hb : b = false) (h : (if b then x else y) = some e) : y = some e := by rw [if_neg (by rw [hb]; decide)] at h; exact h
theorem ite_p {α : Type} {p : Prop} [Decidable p] {x y : Option α} {e : α} (hb : p) (h : (if p then x else y) = some e) : x = some e := by rw [if_pos hb] at h; exact h
theorem ite_n {α : Type} {p : Prop} [Decidable p] {x y : Option α} {e : α} (hb : ¬ p) (h : (if p then x else y) = some e) : y = some e := by rw [if_neg hb] at h; exact h
section
variable {σ ρ : Type}
/-- A loop, so many rounds at most. -/
def itr (b : σ → Option (σ ⊕ ρ)) : Nat → σ → Option ρ
  | 0, _ => none
  | n + 1, s => (b s).bind fun e => match e with | .inl s' => itr b n s' | .inr r => some r
/-- What a round leads to. -/
def Nxt (b : σ → Option (σ ⊕ ρ)) (n : Nat) (r : ρ) : σ ⊕ ρ → Prop
  | .inl s => itr b n s = some r
  | .inr x => x = r
theorem itr_some {b : σ → Option (σ ⊕ ρ)} {n : Nat} {s : σ} {r : ρ} (h : itr b n s = some r) : ∃ m e, n = m + 1 ∧ b s = some e ∧ Nxt b m r e := by
  cases n with
  | zero => cases h
  | succ m =>
    obtain ⟨e, h1, h2⟩ := Option.bind_eq_some_iff.1 h
    refine ⟨m, e, rfl, h1, ?_⟩
    cases e with
    | inl s' => exact h2
    | inr x => exact Option.some.inj h2
theorem Nxt.out {b : σ → Option (σ ⊕ ρ)} {n : Nat} {r : ρ} {e : σ ⊕ ρ} {m : Option ρ} (h : m.map Sum.inr = some e) (hm : Nxt b n r e) : m = some r := by
  cases m with
  | none => cases h
  | some x => cases h; exact congrArg some hm
theorem Nxt.again {b : σ → Option (σ ⊕ ρ)} {n : Nat} {r : ρ} {e : σ ⊕ ρ} {s : σ} (h : some (Sum.inl s) = some e) (hm : Nxt b n r e) : itr b n s = some r := by cases h; exact hm
theorem itr_more {b : σ → Option (σ ⊕ ρ)} : ∀ {n : Nat} {s : σ} {r : ρ} (k : Nat), itr b n s = some r → itr b (n + k) s = some r
  | 0, _, _, _, h => by cases h
  | n + 1, s, r, k, h => by
    obtain ⟨m, e, hm, h1, h2⟩ := itr_some h
    obtain rfl : n = m := by omega
    rw [show n + 1 + k = (n + k) + 1 by omega, itr, h1]
    cases e with
    | inl s' => exact itr_more k h2
    | inr x => exact congrArg some h2
theorem itr_one {b : σ → Option (σ ⊕ ρ)} {n m : Nat} {s : σ} {r q : ρ} (h : itr b n s = some r) (k : itr b m s = some q) : r = q := by
  have h1 := itr_more m h
  have h2 := itr_more n k
  rw [Nat.add_comm] at h2
  exact Option.some.inj (h1.symm.trans h2)
/-- A loop, as many rounds as it takes. -/
noncomputable def run (b : σ → Option (σ ⊕ ρ)) (s : σ) : Option ρ :=
  open Classical in if h : ∃ r, ∃ n, itr b n s = some r then some h.choose else none
theorem run_of {b : σ → Option (σ ⊕ ρ)} {n : Nat} {s : σ} {r : ρ} (h : itr b n s = some r) : run b s = some r := by
  have hx : ∃ r, ∃ n, itr b n s = some r := ⟨r, n, h⟩
  unfold run
  rw [dif_pos hx]
  obtain ⟨m, hm⟩ := hx.choose_spec
  rw [itr_one hm h]
theorem run_some {b : σ → Option (σ ⊕ ρ)} {s : σ} {r : ρ} (h : run b s = some r) : ∃ n, itr b n s = some r := by
  unfold run at h
  split at h
  · rename_i hx
    cases h
    exact hx.choose_spec
  · cases h
theorem run_inl {b : σ → Option (σ ⊕ ρ)} {s s' : σ} (h : b s = some (.inl s')) : run b s = run b s' := by
  cases hr : run b s' with
  | some r =>
    obtain ⟨n, hn⟩ := run_some hr
    exact run_of (n := n + 1) (by rw [itr, h]; exact hn)
  | none =>
    cases hs : run b s with
    | none => rfl
    | some r =>
      obtain ⟨n, hn⟩ := run_some hs
      obtain ⟨m, e, _, h1, h2⟩ := itr_some hn
      rw [h] at h1; cases h1
      rw [run_of h2] at hr; cases hr
theorem run_inr {b : σ → Option (σ ⊕ ρ)} {s : σ} {m : Option ρ} (h : b s = m.map .inr) : run b s = m := by
  cases m with
  | some r => exact run_of (n := 1) (by rw [itr, h]; rfl)
  | none =>
    cases hs : run b s with
    | none => rfl
    | some r =>
      obtain ⟨n, hn⟩ := run_some hs
      obtain ⟨m, e, _, h1, h2⟩ := itr_some hn
      rw [h] at h1; cases h1
/-- A loop under an invariant. -/
theorem run_inv {b : σ → Option (σ ⊕ ρ)} (I : σ → Prop) (μ : σ → Nat) {m : Option ρ} (step : ∀ s, I s → (∃ s', b s = some (.inl s') ∧ I s' ∧ μ s' < μ s) ∨ b s = m.map .inr) {s : σ} (h : I s) : run b s = m := by
  have key : ∀ k s, μ s = k → I s → run b s = m := by
    intro k
    induction k using Nat.strongRecOn with
    | _ k ih =>
      intro s hk hI
      rcases step s hI with ⟨s', h1, h2, h3⟩ | h1
      · rw [run_inl h1]; exact ih (μ s') (by omega) s' rfl h2
      · exact run_inr h1
  exact key _ s rfl h
/-- A loop that counts up to an end: the state is given at each round. -/
theorem run_count {b : σ → Option (σ ⊕ ρ)} (st : Nat → σ) (k : Nat) {m : Option ρ} (step : ∀ i, i < k → b (st i) = some (.inl (st (i + 1)))) (last : b (st k) = m.map .inr) (i : Nat) (hi : i ≤ k) : run b (st i) = m := by
  have key : ∀ d i, i + d = k → run b (st i) = m := by
    intro d
    induction d with
    | zero => intro i h; rw [Nat.add_zero] at h; subst h; exact run_inr last
    | succ d ih => intro i h; rw [run_inl (step i (by omega))]; exact ih (i + 1) (by omega)
  exact key (k - i) i (by omega)
end
/-- A number as a byte. -/
def u8 (a : Int) : UInt8 := UInt8.ofNat (a % 256).toNat
theorem u8_toNat (a : Int) : ((u8 a).toNat : Int) = a % 256 := by
  unfold u8
  rw [UInt8.toNat_ofNat']
  omega
end Go.L
namespace Go.E
open Go Go.RowKit
/-- The memory that lies fast: that of the arguments, and what is new and not owned. -/
def gz (H : PH) (w0 w : World) (O : List Res) : PH := un H (nf w0 w O)
section
variable {H : PH} {w0 w w' : World} {O O' : List Res}
theorem le_un_left' {A B : PH} (hA : Le A (hp w0)) (hB : ∀ b o, B b = some o → w0.heap.size ≤ b) : Le A (un A B) := fun b o e => by
  have hb : b < w0.heap.size := lt_of_heap (hA b o e)
  unfold un
  cases h : B b with
  | none => exact e
  | some o' => have := hB b o' h; omega
theorem nf_ge {b : Nat} {o : Obj} (h : nf w0 w O b = some o) : w0.heap.size ≤ b := by
  unfold nf at h
  split at h
  · assumption
  · cases h
theorem gz_left (hH : Le H (hp w0)) : Le H (gz H w0 w O) := le_un_left' hH (fun _ _ h => nf_ge h)
theorem gz_right : Le (nf w0 w O) (gz H w0 w O) := le_un_right
theorem un_mono_right {A B C : PH} (hA : Le A (un A C)) (h : Le B C) : Le (un A B) (un A C) := un_le hA (h.trans le_un_right)
theorem gz_mono (hH : Le H (hp w0)) (h : Le (fz w O) (fz w' O')) : Le (gz H w0 w O) (gz H w0 w' O') := un_mono_right (gz_left hH) (nf_mono h)
theorem gz_fz [Dr] (hH : Le H (hp w0)) (hL : Lcl w0 O w) : Le (gz H w0 w O) (fz w O) := un_le (hH.trans hL.argFz) nf_fz
theorem gz_le [Dr] (hH : Le H (hp w0)) (hL : Lcl w0 O w) : Le (gz H w0 w O) (hp w) := (gz_fz hH hL).trans (fz_le _ _)
theorem gz_new [Dr] (hL : Lcl w0 O w) : Le (nw w w') (gz H w0 w' O) := (nw_nf hL).trans le_un_right
theorem gz_nw [Dr] (hH : Le H (hp w0)) (hL : Lcl w0 O w) (hx : Ext w w') : Le (un (gz H w0 w O) (nw w w')) (gz H w0 w' O) := un_le (gz_mono hH (fz_ext hL hx)) (gz_new hL)
theorem gz_res (hH : Le H (hp w0)) : Le (gz H w0 w O) (un H (nw w0 w)) := un_le (le_un_left hH) (nf_nw.trans le_un_right)
/-- What lies fast here. -/
theorem Lcl.rG [Dr] (_ : Lcl w0 O w) (H : PH) : Le (gz H w0 w O) (gz H w0 w O) := Le.refl _
end
/-- A slice of the call's own whose elements lie in H or in new memory. -/
def OwnH {α : Type} (e : TypeId) (r : Rp α) (H : PH) (w w' : World) (v : Value) (l : List α) : Prop :=
  ∃ xs, w'.ownsRow w.heap.size e r.sz v l.length xs ∧ Elems r (un H (nwBut w w' v)) l xs
section
variable {α : Type} {e : TypeId} {r : Rp α} {H : PH} {w0 w w' : World} {O : List Res} {v : Value} {l : List α} {i : Nat} {xs : List Value}
theorem nwBut_ge {b : Nat} {o : Obj} (h : nwBut w w' v b = some o) : w.heap.size ≤ b := by
  unfold nwBut nw at h
  split at h
  · cases h
  · split at h
    · assumption
    · cases h
theorem OwnH.vec (hH : Le H (hp w)) (h : OwnH e r H w w' v l) : Vec r (un H (nw w w')) v l := by
  obtain ⟨xs, h1, h2⟩ := h
  refine vec_of_row h1 h2 (un_le (le_un_left hH) (nwBut_le.trans le_un_right)) fun k hk o ho => ?_
  have := (h1.lt k hk).1
  apply le_un_right
  unfold nw
  rw [if_pos this]; exact ho
theorem OwnH.vecG [Dr] (h : OwnH e r (gz H w0 w O) w w' v l) (hH : Le H (hp w0)) (hL : Lcl w0 O w) (hx : Ext w w') : Vec r (gz H w0 w' O) v l := (h.vec (gz_le hH hL)).mono (gz_nw hH hL hx)
theorem OwnH.take [Dr] (h : OwnH e r (gz H w0 w O) w w' v l) (hH : Le H (hp w0)) (hL : Lcl w0 O w) (hx : Ext w w') : ∃ xs, Lcl w0 (.row v e r.sz l.length xs :: O) w' ∧ Le (fz w O) (fz w' (.row v e r.sz l.length xs :: O)) ∧ Elems r (gz H w0 w' (.row v e r.sz l.length xs :: O)) l xs := by
  obtain ⟨xs, h1, h2⟩ := h
  obtain ⟨h3, h4⟩ := row_new hL hx h1
  refine ⟨xs, h3, h4, h2.mono (un_le (gz_mono hH h4) (fun b o hb => gz_right b o ?_))⟩
  have hge : w0.heap.size ≤ b := Nat.le_trans hL.ext.size (nwBut_ge hb)
  unfold nf
  rw [if_pos hge]
  exact nwBut_fz hL b o hb
theorem OwnH.nil {H : PH} : OwnH e r H w w' (.slice none 0 0) ([] : List α) := ⟨[], World.ownsRow_nil w' _ e _, .nil⟩
theorem Lcl.ownH [Dr] (hL : Lcl w0 O w) (hH : Le H (hp w0)) (hi : nthR O i = some (.row v e r.sz l.length xs)) (he : Elems r (gz H w0 w O) l xs) : OwnH e r H w0 w v l :=
  ⟨xs, ownsRow_base (hL.at hi) (fun k hk => hL.own _ ((perm_nth hi).mem_iff.2 (.head _)) k hk), he.mono (un_le (le_un_left' hH (fun _ _ h => nwBut_ge h)) ((nf_but hi).trans le_un_right))⟩
/-- A row lies fast from now on. -/
theorem Lcl.vecG [Dr] (hL : Lcl w0 O w) (hH : Le H (hp w0)) (hi : nthR O i = some (.row v e r.sz l.length xs)) (he : Elems r (gz H w0 w O) l xs) : Vec r (gz H w0 w (delR O i)) v l :=
  vec_of_row (hL.at hi) he (gz_mono hH (fz_dropAt hi)) (fun k hk o ho => gz_right k o (by
    unfold nf
    rw [if_pos (hL.own _ ((perm_nth hi).mem_iff.2 (.head _)) k hk), fz_hp_drop hi hk hL.dis]; exact ho))
/-- A row is read. -/
theorem Lcl.vecN [Dr] (hL : Lcl w0 O w) (hH : Le H (hp w0)) (hi : nthR O i = some (.row v e r.sz l.length xs)) (he : Elems r (gz H w0 w O) l xs) : Vec r (hp w) v l := hL.vecR hi (he.mono (gz_fz hH hL))
end
/-- Strings. -/
def Rp.st : Rp (List UInt8) := ⟨1, fun _ x c => c = [.string ⟨x.toArray⟩], fun h => by simp [h], fun _ h => h, fun h u hu => by subst h; simp at hu; subst hu; rfl⟩
theorem Elems.set {α : Type} {r : Rp α} {H : PH} {l : List α} {cs : List Value} {x : α} {u : Value} (h : Elems r H l cs) (hx : r.rel H x [u]) : ∀ i, i < l.length → Elems r H (l.set i x) (cs.set (i * r.sz) u) := by
  have hsz : r.sz = 1 := (r.len hx).symm
  induction h with
  | nil => intro i hi; cases hi
  | @cons y l c cs h t ih =>
    intro i hi
    have hc : c.length = 1 := by rw [r.len h, hsz]
    obtain ⟨z, rfl⟩ := List.length_eq_one_iff.1 hc
    cases i with
    | zero => rw [Nat.zero_mul]; exact .cons hx t
    | succ i =>
      rw [hsz, Nat.mul_one] at *
      simp only [List.length_cons] at hi
      have := ih i (by omega)
      rw [Nat.mul_one] at this
      exact .cons h this
section
variable {P : Program} {n : Sz} {ops : Array Oper} {Q : Exit → Act → World → Prop} {L : Env} {w w0 : World} {O : List Res} {rest : List Oper}
  {d : Nat} {ty : TypeId} {pos : String} {af : Array Edge} {α : Type} {r : Rp α} {x y : Operand} {v u : Value} {t t' e : TypeId} {H : PH}
abbrev Cap (bt n : Nat) : Prop := n * bt ≤ 140737488355328 ∧ n ≤ 9223372036854775807
theorem S_appE [Dr] (i : Nat) {bt : Nat} {zz : Value} {l m : List α} {xs : List Value} (hx : ev L x = some v) (hy : ev L y = some u) (ht : P.underlying t = some (.slice e)) (hz : Zr P e zz r.sz bt) (hzs : zz.cells.size = r.sz) (hsz : 0 < r.sz) (hn : Nat.blt d n.n = true)
    (hH : Le H (hp w0)) (hL : Lcl w0 O w) (hi : nthR O i = some (.row v e r.sz l.length xs)) (he : Elems r (gz H w0 w O) l xs) (hm : Vec r (gz H w0 w O) u m) (hby : Cap bt (l.length + m.length))
    (h : ∀ v' w' xs', Lcl w0 (setR O i (.row v' e r.sz (l ++ m).length xs')) w' → Le (fz w O) (fz w' (setR O i (.row v' e r.sz (l ++ m).length xs'))) → Elems r (gz H w0 w' (setR O i (.row v' e r.sz (l ++ m).length xs'))) (l ++ m) xs' → S P n ops Q rest ((d, v') :: L) w') :
    S P n ops Q (⟨some d, .call ⟨.builtin .append, #[x, y], #[t, t]⟩, ty, pos, af, none⟩ :: rest) L w := by
  obtain ⟨news, hn1, hs⟩ := hm.elems
  refine S_append i hx hy ht hz hzs hsz hn hL hi (hs.mono (gz_le hH hL)) hn1.one hby fun v' w' h1 h2 => ?_
  rw [← List.length_append] at h1 h2
  exact h v' w' _ h1 h2 ((he.append hn1).mono (gz_mono hH h2))
/-- A row that this region has made holds more. -/
theorem S_storeE [Dr] (i : Nat) {bt k j : Nat} {zz : Value} {l : List α} {xs : List Value} {p : Addr} {z : α} (hx : ev L x = some (.pointer (some p))) (hy : ev L y = some u) (hu : u.oneCell' = true) (hz : Zr P t zz 1 bt) (hH : Le H (hp w0)) (hL : Lcl w0 O w) (hi : nthR O i = some (.row v e r.sz l.length xs)) (he : Elems r (gz H w0 w O) l xs)
    (hp' : RowPtr v k p) (hk : k = j * r.sz) (hj : j < l.length) (hz' : r.rel (gz H w0 w O) z [u])
    (h : ∀ w' xs', Lcl w0 (setR O i (.row v e r.sz (l.set j z).length xs')) w' → Le (fz w O) (fz w' (setR O i (.row v e r.sz (l.set j z).length xs'))) → Elems r (gz H w0 w' (setR O i (.row v e r.sz (l.set j z).length xs'))) (l.set j z) xs' → S P n ops Q rest L w') :
    S P n ops Q (⟨none, .store t x y, ty, pos, af, none⟩ :: rest) L w := by
  subst hk
  have hlen := he.len
  have hsz : r.sz = 1 := (r.len hz').symm
  refine S_storeR i hx hy hu hz hL hi hp' (by rw [hlen, hsz]; omega) fun w' h1 h2 => ?_
  have e1 : l.length = (l.set j z).length := by simp
  rw [e1] at h1 h2
  exact h w' _ h1 h2 ((he.set hz' j hj).mono (gz_mono hH h2))
/-- A slice literal, read. -/
theorem S_litE [Dr] {ps : List (Nat × Operand)} {vs : List (Nat × Value)} {cs : List Value} {l : List α} (hp' : evp L ps = some vs) (hr : ∀ w, (Instr.buildSlice t l.length vs.toArray).run P w = .ok (.slice (some ⟨w.heap.size, 0, none⟩) l.length l.length) (w.alloc (.cells cs.toArray e))) (hn : Nat.blt d n.n = true) (hlen : l.length ≤ 9223372036854775807) (hH : Le H (hp w0)) (hL : Lcl w0 O w) (he : Elems r (gz H w0 w O) l cs)
    (h : ∀ u w', Ext w w' → Lcl w0 O w' → Le (fz w O) (fz w' O) → Vec r (gz H w0 w' O) u l → S P n ops Q rest ((d, u) :: L) w') :
    S P n ops Q (⟨some d, .buildSlice t l.length ps.toArray, ty, pos, af, none⟩ :: rest) L w :=
  S_lit (sz := r.sz) hp' hr he.len hlen hn hL fun u w' hx hL' hle hs _ => h u w' hx hL' hle (vec_of_src (he.mono (gz_mono hH hle)) (hs.mono (gz_new hL)))
/-- A slice literal, owned. -/
theorem S_litO [Dr] {ps : List (Nat × Operand)} {vs : List (Nat × Value)} {cs : List Value} {l : List α} (hp' : evp L ps = some vs) (hr : ∀ w, (Instr.buildSlice t l.length vs.toArray).run P w = .ok (.slice (some ⟨w.heap.size, 0, none⟩) l.length l.length) (w.alloc (.cells cs.toArray e))) (hn : Nat.blt d n.n = true) (hlen : l.length ≤ 9223372036854775807) (hH : Le H (hp w0)) (hL : Lcl w0 O w) (he : Elems r (gz H w0 w O) l cs)
    (h : ∀ u w' xs, Lcl w0 (.row u e r.sz l.length xs :: O) w' → Le (fz w O) (fz w' (.row u e r.sz l.length xs :: O)) → Elems r (gz H w0 w' (.row u e r.sz l.length xs :: O)) l xs → S P n ops Q rest ((d, u) :: L) w') :
    S P n ops Q (⟨some d, .buildSlice t l.length ps.toArray, ty, pos, af, none⟩ :: rest) L w :=
  S_lit (sz := r.sz) hp' hr he.len hlen hn hL fun u w' hx _ _ _ ho => by
    obtain ⟨h1, h2⟩ := row_new hL hx ho
    exact h u w' _ h1 h2 (he.mono (gz_mono hH h2))
end
section
variable {P : Program} {n : Sz} {lo : List Oper} {Q : Exit → Act → World → Prop} {L : Env} {w w0 : World} {O : List Res} {tr : Tr} {ix : Nat}
  {d : Nat} {ty : TypeId} {pos : String} {af : Array Edge} {α : Type} {r : Rp α} {x y : Operand} {v : Value} {t e : TypeId} {H : PH}
theorem D_litE [Dr] {ps : List (Nat × Operand)} {vs : List (Nat × Value)} {cs : List Value} {l : List α} (ho : nthO lo ix = some ⟨some d, .buildSlice t l.length ps.toArray, ty, pos, af, none⟩) (hp' : evp L ps = some vs) (hr : ∀ w, (Instr.buildSlice t l.length vs.toArray).run P w = .ok (.slice (some ⟨w.heap.size, 0, none⟩) l.length l.length) (w.alloc (.cells cs.toArray e))) (hn : Nat.blt d n.n = true) (hlen : l.length ≤ 9223372036854775807) (hH : Le H (hp w0)) (hL : Lcl w0 O w) (he : Elems r (gz H w0 w O) l cs)
    (h : ∀ u w', Ext w w' → Lcl w0 O w' → Le (fz w O) (fz w' O) → Vec r (gz H w0 w' O) u l → D P n lo Q tr ((d, u) :: L) w') : D P n lo Q (.h ix tr) L w := by
  refine D_hop (R := fun w1 u w' => Src (nw w1 w') r.sz u l.length cs) ho hn (fun w1 hx1 ρ hρ => ?_) (fun w1 u w' hx1 hx2 hR => ?_)
  · have e1 := hρ.mapp _ _ hp'
    have e' : (ps.toArray.map fun (i, x) => (i, ρ x)) = vs.toArray := by rw [← e1]; simp
    refine ⟨_, _, by simp [execOp, e', hr w1, -List.map_toArray], ext_alloc w1 (.cells cs.toArray e), he.len, some ⟨w1.heap.size, 0, none⟩, l.length, rfl, Nat.le_refl _, by unfold maxLen; omega, (fun e => by cases e), fun A hA _ => ?_⟩
    cases hA
    refine ⟨rfl, fun j u hu => ?_⟩
    simp only [Addr.add_lit, Nat.zero_add, cellP, nw, Nat.le_refl, if_true, heap_alloc_new]
    simpa using hu
  · have hL1 := hL.call hx1
    have hle := (fz_ext hL hx1).trans (fz_ext hL1 hx2)
    exact h u w' (hx1.trans hx2) (hL1.call hx2) hle (vec_of_src (he.mono (gz_mono hH hle)) (hR.mono (gz_new hL1)))
end
end Go.E
end
section
namespace Go.E
open Go Go.RowKit
theorem idx_lt {i : Int} {n : Nat} (h : 0 ≤ i ∧ i < (n : Int)) : i.toNat < n := by omega
theorem not_dec_t {p : Prop} [Decidable p] (h : (!decide p) = true) : ¬ p := by simpa using h
theorem not_dec_f {p : Prop} [Decidable p] (h : (!decide p) = false) : p := by simpa using h
theorem RowPtr.add {v : Value} {k : Nat} {p : Addr} (h : RowPtr v k p) (j : Nat) : RowPtr v (k + j) (p.add j) := by
  obtain ⟨b, o, s⟩ := p
  obtain ⟨h1, h2, h3⟩ := h
  simp only at h1 h2 h3
  subst h3
  exact ⟨by simpa [Addr.add_lit] using h1, by simp [Addr.add_lit, h2], by simp [Addr.add_lit]⟩
/-- Data without memory of its own. -/
def Plain {α : Type} (r : Rp α) : Prop := ∀ {H H' : PH} {x : α} {c : List Value}, r.rel H x c → r.rel H' x c
theorem plain_byte : Plain .byte := fun h => h
theorem Elems.ofPlain {α : Type} {r : Rp α} (hp : Plain r) {H H' : PH} {l : List α} {cs : List Value} (h : Elems r H l cs) : Elems r H' l cs := by
  induction h with
  | nil => exact .nil
  | cons h _ ih => exact .cons (hp h) ih
theorem OwnH.ofPlain {α : Type} {e : TypeId} {r : Rp α} {H1 H2 : PH} {w w' : World} {v : Value} {l : List α} (h : OwnH e r H1 w w' v l) (hp : Plain r) : OwnH e r H2 w w' v l := by
  obtain ⟨xs, h1, h2⟩ := h
  exact ⟨xs, h1, h2.ofPlain hp⟩
section
variable {P : Program} {L : Env} {w : World} {x y z : Operand} {ty t t' t'' e : TypeId}
theorem conv_64_u8 (a : Int) : IntKind.u8.wrap a = ((Go.L.u8 a).toNat : Int) := by rw [wrapU8', Go.L.u8_toNat]
theorem r_bitI [Dr] {op : BinOp} {c : Nat} {p q : Int} (hx : ev L x = some (.int .i64 p)) (hy : ev L y = some (.int .i64 q)) (ho : bitN op p.toNat q.toNat = some c) (h : (0 ≤ p ∧ p < 2 ^ 63) ∧ (0 ≤ q ∧ q < 2 ^ 63)) : RunsAt P L w (.binOp op t x y t') ty (.int .i64 (c : Int)) :=
  r_bit64 hx hy (by omega) (by omega) ho (by omega) (by omega)
theorem r_lenS [Dr] {l : List UInt8} (hx : ev L x = some (.string ⟨l.toArray⟩)) (ht : P.underlying t = some .string) : RunsAt P L w (.call ⟨.builtin .len, #[x], #[t]⟩) ty (.int .i64 (l.length : Int)) := by
  intro w' _ ρ hρ dst pos af g
  have : (ByteArray.mk l.toArray).size = l.length := by simp [ByteArray.size]
  simp [execOp, resolve, hρ x _ hx, invoke, builtin, Builtin.len_, run_underlying ht, goInt, this]
theorem r_sne [Dr] {l m : List UInt8} (hx : ev L x = some (.string ⟨l.toArray⟩)) (hy : ev L y = some (.string ⟨m.toArray⟩)) : RunsAt P L w (.binOp .neq t x y t') ty (.bool (!decide (l = m))) := by
  intro w' _ ρ hρ dst pos af g
  have e : (l == m) = decide (l = m) := by rw [Bool.eq_iff_iff]; simp
  simp [execOp, hρ x _ hx, hρ y _ hy, eqGuard, binOp, Op.stringOp, e]
end
section
variable {P : Program} {n : Sz} {ops : Array Oper} {Q : Exit → Act → World → Prop} {L : Env} {w w0 : World} {O : List Res} {rest : List Oper} {lop : List Oper} {ix : Nat} {tr : Tr}
  {d : Nat} {ty : TypeId} {pos : String} {af : Array Edge} {α : Type} {r : Rp α} {x a b : Operand} {v : Value} {t e : TypeId} {H : PH} {l : List α} {k k' : IntKind} {i j : Int} {zz : Value} {bt : Nat}
theorem S_sliceB [Dr] (hx : ev L x = some v) (ha : ev L a = some (.int k i)) (hb : ev L b = some (.int k' j)) (ht : P.underlying t = some (.slice e)) (he : Zr P e zz r.sz bt) (hv : Vec r H v l) (hc : 0 ≤ i ∧ i ≤ j ∧ j ≤ (l.length : Int)) (hn : Nat.blt d n.n = true)
    (h : ∀ v', Vec r H v' ((l.drop i.toNat).take (j.toNat - i.toNat)) → S P n ops Q rest ((d, v') :: L) w) : S P n ops Q (⟨some d, .slice t x (some a) (some b) none, ty, pos, af, none⟩ :: rest) L w :=
  S_slice hx ht he hv i.toNat j.toNat ⟨k, by rw [Int.toNat_of_nonneg (by omega)]; exact ha⟩ ⟨k', by rw [Int.toNat_of_nonneg (by omega)]; exact hb⟩ (by omega) hn h
theorem S_sliceH [Dr] (hx : ev L x = some v) (hb : ev L b = some (.int k' j)) (ht : P.underlying t = some (.slice e)) (he : Zr P e zz r.sz bt) (hv : Vec r H v l) (hc : 0 ≤ j ∧ j ≤ (l.length : Int)) (hn : Nat.blt d n.n = true)
    (h : ∀ v', Vec r H v' (l.take j.toNat) → S P n ops Q rest ((d, v') :: L) w) : S P n ops Q (⟨some d, .slice t x none (some b) none, ty, pos, af, none⟩ :: rest) L w :=
  S_slice hx ht he hv 0 j.toNat rfl ⟨k', by rw [Int.toNat_of_nonneg (by omega)]; exact hb⟩ (by omega) hn fun v' h' => h v' (by simpa using h')
theorem D_sliceL [Dr] (ho : nthO lop ix = some ⟨some d, .slice t x (some a) none none, ty, pos, af, none⟩) (hx : ev L x = some v) (ha : ev L a = some (.int k i)) (ht : P.underlying t = some (.slice e)) (he : Zr P e zz r.sz bt) (hv : Vec r H v l) (hc : 0 ≤ i ∧ i ≤ (l.length : Int)) (hn : Nat.blt d n.n = true)
    (h : ∀ v', Vec r H v' (l.drop i.toNat) → D P n lop Q tr ((d, v') :: L) w) : D P n lop Q (.q ix tr) L w :=
  D_slice ho hx ht he hv i.toNat l.length ⟨k, by rw [Int.toNat_of_nonneg (by omega)]; exact ha⟩ rfl (by omega) hn fun v' h' => h v' (by rwa [List.take_of_length_le (by simp)] at h')
end
end Go.E
namespace Go.E
open Go Go.RowKit
theorem Elems.c1 {α : Type} {r : Rp α} {H : PH} {x : α} {l : List α} {u0 : Value} {cs : List Value} (h : r.rel H x [u0]) (t : Elems r H l cs) : Elems r H (x :: l) (u0 :: cs) := .cons (c := [u0]) h t
theorem Elems.c2 {α : Type} {r : Rp α} {H : PH} {x : α} {l : List α} {u0 u1 : Value} {cs : List Value} (h : r.rel H x [u0, u1]) (t : Elems r H l cs) : Elems r H (x :: l) (u0 :: u1 :: cs) := .cons (c := [u0, u1]) h t
theorem Elems.c3 {α : Type} {r : Rp α} {H : PH} {x : α} {l : List α} {u0 u1 u2 : Value} {cs : List Value} (h : r.rel H x [u0, u1, u2]) (t : Elems r H l cs) : Elems r H (x :: l) (u0 :: u1 :: u2 :: cs) := .cons (c := [u0, u1, u2]) h t
theorem Elems.c4 {α : Type} {r : Rp α} {H : PH} {x : α} {l : List α} {u0 u1 u2 u3 : Value} {cs : List Value} (h : r.rel H x [u0, u1, u2, u3]) (t : Elems r H l cs) : Elems r H (x :: l) (u0 :: u1 :: u2 :: u3 :: cs) := .cons (c := [u0, u1, u2, u3]) h t
theorem Elems.c5 {α : Type} {r : Rp α} {H : PH} {x : α} {l : List α} {u0 u1 u2 u3 u4 : Value} {cs : List Value} (h : r.rel H x [u0, u1, u2, u3, u4]) (t : Elems r H l cs) : Elems r H (x :: l) (u0 :: u1 :: u2 :: u3 :: u4 :: cs) := .cons (c := [u0, u1, u2, u3, u4]) h t
theorem Elems.c6 {α : Type} {r : Rp α} {H : PH} {x : α} {l : List α} {u0 u1 u2 u3 u4 u5 : Value} {cs : List Value} (h : r.rel H x [u0, u1, u2, u3, u4, u5]) (t : Elems r H l cs) : Elems r H (x :: l) (u0 :: u1 :: u2 :: u3 :: u4 :: u5 :: cs) := .cons (c := [u0, u1, u2, u3, u4, u5]) h t
theorem Elems.c7 {α : Type} {r : Rp α} {H : PH} {x : α} {l : List α} {u0 u1 u2 u3 u4 u5 u6 : Value} {cs : List Value} (h : r.rel H x [u0, u1, u2, u3, u4, u5, u6]) (t : Elems r H l cs) : Elems r H (x :: l) (u0 :: u1 :: u2 :: u3 :: u4 :: u5 :: u6 :: cs) := .cons (c := [u0, u1, u2, u3, u4, u5, u6]) h t
theorem Elems.c8 {α : Type} {r : Rp α} {H : PH} {x : α} {l : List α} {u0 u1 u2 u3 u4 u5 u6 u7 : Value} {cs : List Value} (h : r.rel H x [u0, u1, u2, u3, u4, u5, u6, u7]) (t : Elems r H l cs) : Elems r H (x :: l) (u0 :: u1 :: u2 :: u3 :: u4 :: u5 :: u6 :: u7 :: cs) := .cons (c := [u0, u1, u2, u3, u4, u5, u6, u7]) h t
/-- A nil slice is a row of no elements. -/
theorem row_nilE [Dr] {α : Type} (r : Rp α) {w0 w : World} {O : List Res} (H : PH) (e : TypeId) (hL : Lcl w0 O w) :
    Lcl w0 (.row (.slice none 0 0) e r.sz ([] : List α).length [] :: O) w ∧ Le (fz w O) (fz w (.row (.slice none 0 0) e r.sz ([] : List α).length [] :: O)) ∧ Elems r (gz H w0 w (.row (.slice none 0 0) e r.sz ([] : List α).length [] :: O)) [] [] :=
  ⟨(row_nil hL e r.sz).1, (row_nil hL e r.sz).2, .nil⟩
/-- What the post says of a panic hangs on no slot. -/
def NoPanic (Q : Exit → Act → World → Prop) : Prop := ∀ c a (d : Option Tmp) (v : Value) w, Q (.panic c) (a.put d v) w → Q (.panic c) a w
section
variable {P : Program} {n : Sz} {Q : Exit → Act → World → Prop}
theorem np_body {fn : Func} {R : Value → World → Prop} : NoPanic (bodyQ P fn R) := fun _ _ d _ _ h => by cases d <;> exact h
theorem np_seq {y : Code} (h : NoPanic Q) : NoPanic (seqQ P y Q) := fun c a d v w k => h c a d v w k
theorem np_cut {σ : Type} {I : σ → Env} {R : σ → World → Prop} (h : NoPanic Q) : NoPanic (cutQ n I R Q) := fun c a d v w k => h c a d v w k
theorem np_loop {σ : Type} {I : σ → Env} {R : σ → World → Prop} {μ : σ → Nat} {x : σ} (h : NoPanic Q) : NoPanic (loopQ n I R μ x Q) := fun c a d v w k => h c a d v w k
theorem np_block {id : Nat} (h : NoPanic Q) : NoPanic (Exit.inBlock id Q) := fun c a d v w k => h c a d v w k
end
section
variable {P : Program} {n : Sz} {m fuel : Nat} {l : List Oper} {Q : Exit → Act → World → Prop} {L : Env} {w w0 : World} {done : List Nat} {i d : Nat} {op : Op} {ty : TypeId} {pos : String} {af : Array Edge}
def hoistB (l : List Oper) (m : Nat) (done : List Nat) (i : Nat) : Bool :=
  Region.noSelect l.toArray && Region.free .any l.toArray (lst m done) i && (Region.ready .any l.toArray (lst m done)).contains i
end
section
variable {P : Program} {n : Sz} {m fuel : Nat} {lo : List Oper} {Q : Exit → Act → World → Prop} {L : Env} {w w0 : World} {done : List Nat} {i d : Nat} {ty : TypeId} {pos : String} {af : Array Edge} {α : Type} {r : Rp α} {H : PH} {x y : Operand} {v : Value} {t e : TypeId} {O : List Res}
end
end Go.E
namespace Go.E
open Go Go.RowKit
section
variable {P : Program} {L : Env} {w : World} {x y : Operand} {ty t t' : TypeId}
theorem r_beq [Dr] {a b : Bool} (hx : ev L x = some (.bool a)) (hy : ev L y = some (.bool b)) (ht : P.underlying t = some .bool) : RunsAt P L w (.binOp .eql t x y t') ty (.bool (a == b)) := by
  intro w' _ ρ hρ dst pos af g
  have key : ∀ dd : Nat, (Op.equalIn (dd + 1) t (.bool a) (.bool b)).run P w' = .ok (a == b) w' := fun dd => by simp [Op.equalIn, run_underlying ht]
  have k2 : (Op.equal t (.bool a) (.bool b)).run P w' = .ok (a == b) w' := key 9999
  simp [execOp, hρ x _ hx, hρ y _ hy, eqGuard, binOp, k2]
end
theorem cells_one {v : Value} (h : v.oneCell' = true) : v.cells.toList = [v] := by cases v <;> simp_all [Value.cells, Value.oneCell']
section
variable {P : Program} {n : Sz} {ops : Array Oper} {Q : Exit → Act → World → Prop} {L : Env} {w w0 : World} {O : List Res} {rest : List Oper} {d : Nat} {ty : TypeId} {pos : String} {af : Array Edge} {x : Operand} {v : Value} {t e : TypeId} {H : PH}
theorem S_box1 [Dr] (hx : ev L x = some v) (h1 : v.oneCell' = true) (hn : Nat.blt d n.n = true) (hL : Lcl w0 O w)
    (h : ∀ w' b, Lcl w0 (.box b [v] t :: O) w' → Le (fz w O) (fz w' (.box b [v] t :: O)) → Ext w w' → S P n ops Q rest ((d, .pointer (some ⟨b, 0, none⟩)) :: L) w') : S P n ops Q (⟨some d, .box t x, ty, pos, af, none⟩ :: rest) L w :=
  S_box hx (cells_one h1) hn hL h
end
end Go.E
end
section
namespace Go.E
open Go Go.RowKit
theorem PtrTo.part {H : PH} {p : Addr} {c : List Value} (h : PtrTo H p c) (m : Nat) : PtrTo H p (c.take m) :=
  ⟨h.1, fun j u hu => h.2 j u (by
    rw [List.getElem?_take] at hu
    split at hu
    · exact hu
    · cases hu)⟩
section
variable {P : Program} {L : Env} {w w0 : World} {O : List Res} {x : Operand} {ty t : TypeId} {H : PH}
/-- A part of a variable. -/
theorem r_loadBP [Dr] (i m : Nat) {b off : Nat} {cs c : List Value} {t' : TypeId} {dd : TypeDesc} {zz : Value} {bt : Nat} (hx : ev L x = some (.pointer (some ⟨b, off, none⟩))) (ht : P.underlying t = some dd) (hd : aggT dd = true) (hz : Zr P t zz c.length bt) (hL : Lcl w0 O w) (hi : nthR O i = some (.box b cs t')) (hc : (cs.drop off).take m = c) : RunsAt P L w (.load t x) ty (.agg c.toArray) := by
  have h1 := ((box_ptr hL hi).add off).part m
  rw [hc, Addr.add_lit, Nat.zero_add] at h1
  exact r_loadN hx ht hd hz h1 (Le.refl _)
/-- A part of what a pointer shows. -/
theorem r_loadP [Dr] (m : Nat) {p : Addr} {cs c : List Value} {dd : TypeDesc} {zz : Value} {bt : Nat} (hx : ev L x = some (.pointer (some p))) (ht : P.underlying t = some dd) (hd : aggT dd = true) (hz : Zr P t zz c.length bt) (hp' : PtrTo H p cs) (hs : Le H (hp w)) (hc : cs.take m = c) : RunsAt P L w (.load t x) ty (.agg c.toArray) := by
  have h1 := hp'.part m
  rw [hc] at h1
  exact r_loadN hx ht hd hz h1 hs
/-- A slice is nil, or it lies somewhere. -/
theorem nil_or {α : Type} {r : Rp α} {v : Value} {l : List α} (h : Vec r H v l) : (v = .slice none 0 0 ∧ l = []) ∨ ∃ A n c, v = .slice (some A) n c := by
  obtain ⟨a, cap, h1, h2, _, h4, _⟩ := h.ex
  cases a with
  | none =>
    have hc := h4 rfl
    have hl : l.length = 0 := by omega
    left
    rw [h1, hl, hc]
    exact ⟨rfl, List.eq_nil_of_length_eq_zero hl⟩
  | some A => exact .inr ⟨A, _, _, h1⟩
theorem r_nilT [Dr] {y : Operand} {e t' : TypeId} (hx : ev L x = some (.slice none 0 0)) (hy : ev L y = some (.slice none 0 0)) (ht : P.underlying t = some (.slice e)) : RunsAt P L w (.binOp .eql t x y t') ty (.bool true) := by
  intro w' _ ρ hρ dst pos af g
  have key : ∀ dd : Nat, (Op.equalIn (dd + 1) t (.slice none 0 0) (.slice none 0 0)).run P w' = .ok true w' := fun dd => by simp [Op.equalIn, run_underlying ht]
  have k2 : (Op.equal t (.slice none 0 0) (.slice none 0 0)).run P w' = .ok true w' := key 9999
  simp [execOp, hρ x _ hx, hρ y _ hy, eqGuard, binOp, k2]
theorem r_nilF [Dr] {v : Value} {y : Operand} {e t' : TypeId} (hx : ev L x = some v) (hy : ev L y = some (.slice none 0 0)) (ht : P.underlying t = some (.slice e)) (hv : ∃ A n c, v = .slice (some A) n c) : RunsAt P L w (.binOp .eql t x y t') ty (.bool false) := by
  obtain ⟨A, n, c, rfl⟩ := hv
  intro w' _ ρ hρ dst pos af g
  have key : ∀ dd : Nat, (Op.equalIn (dd + 1) t (.slice (some A) n c) (.slice none 0 0)).run P w' = .ok false w' := fun dd => by simp [Op.equalIn, run_underlying ht]
  have k2 : (Op.equal t (.slice (some A) n c) (.slice none 0 0)).run P w' = .ok false w' := key 9999
  simp [execOp, hρ x _ hx, hρ y _ hy, eqGuard, binOp, k2]
/-- The nil slice is a row of one's own. -/
theorem ownNil [Dr] {α : Type} (r : Rp α) {e : TypeId} (hL : Lcl w0 O w) (hH : Le H (hp w0)) : OwnH e r H w0 w (.slice none 0 0) ([] : List α) :=
  (row_nilE r H e hL).1.ownH (i := 0) hH rfl (row_nilE r H e hL).2.2
end
end Go.E
namespace Go.E
open Go Go.RowKit
section
variable {P : Program} {n : Sz} {ops : Array Oper} {Q : Exit → Act → World → Prop} {L : Env} {w w0 : World} {O : List Res} {rest : List Oper} {d : Nat} {ty : TypeId} {pos : String} {af : Array Edge} {x y : Operand} {t tn e : TypeId} {H : PH}
theorem r_cap [Dr] {a : Option Addr} {m c : Nat} (hx : ev L x = some (.slice a m c)) (ht : P.underlying t = some (.slice e)) : RunsAt P L w (.call ⟨.builtin .cap, #[x], #[t]⟩) ty (.int .i64 (c : Int)) := by
  intro w' _ ρ hρ dst pos af g
  simp [execOp, resolve, invoke, builtin, hρ x _ hx, Builtin.cap_, run_underlying ht]
  rfl
/-- append(nil, make([]T, m)...), m at least one. -/
theorem S_growZ [Dr] {k kn : IntKind} {zz : Value} {bt m : Nat} (hx : ev L x = some (.slice none 0 0)) (hy : ev L y = some (.int k (m : Int))) (ht : P.underlying t = some (.slice e)) (htn : P.underlying tn = some (.int kn)) (hz : Zr P e zz 1 bt) (hzc : zz.cells = #[zz]) (hn : Nat.blt d n.n = true) (h0 : 0 < m) (h63 : (m : Int) ≤ 9223372036854775807) (h48 : m * bt ≤ 281474976710656)
    (h : ∀ g cap cur w', Ext w w' → w.heap.size ≤ g → w'.heap[g]? = some (.cells cur e (0, 0)) → cap ≤ maxLen → cur.size = cap → S P n ops Q rest ((d, .slice (some ⟨g, 0, none⟩) m cap) :: L) w') :
    S P n ops Q (⟨some d, .call ⟨.builtin .append, #[x, y], #[t, tn]⟩, ty, pos, af, none⟩ :: rest) L w := by
  obtain ⟨inf, i1, i2, i3, i4⟩ := hz.parts
  have hr := Lib.run_append_nil_zeros (P := P) w t tn ty e inf zz k kn ht htn i1 i2 m h0 (by rw [i3]; decide) h63 (by rw [i4]; exact h48)
  have hge := grownCap_ge w m 0 e
  have hsz : ∀ k, (Builtin.zeroCells zz.cells k).size = k := fun k => by rw [hzc]; simp [Builtin.zeroCells]
  refine S_value (v := .slice (some ⟨w.heap.size, 0, none⟩) m (grownCap w m 0 e)) (w' := w.drew.alloc (.cells (Builtin.zeroCells zz.cells m ++ Builtin.zeroCells zz.cells (grownCap w m 0 e - m)) e)) rfl rfl hn (fun ρ hρ => by simp [execOp, resolve, invoke, builtin, hρ x _ hx, hρ y _ hy, hr]) (h _ _ (Builtin.zeroCells zz.cells m ++ Builtin.zeroCells zz.cells (grownCap w m 0 e - m)) _ ?_ (Nat.le_refl _) ?_ (grownCap_le_maxLen w m 0 e (by unfold maxLen; omega)) ?_)
  · exact (show Ext w w.drew from drawn_world).trans (ext_alloc _ _)
  · show (w.heap.push _)[w.heap.size]? = _
    simp
  · rw [Array.size_append, hsz, hsz]; omega
/-- s[:0] of a slice with room. -/
theorem r_cut0 [Dr] {g m cap : Nat} {k : IntKind} {zz : Value} {bt : Nat} (hx : ev L x = some (.slice (some ⟨g, 0, none⟩) m cap)) (hy : ev L y = some (.int k 0)) (ht : P.underlying t = some (.slice e)) (hz : Zr P e zz 1 bt) : RunsAt P L w (.slice t x none (some y) none) ty (.slice (some ⟨g, 0, none⟩) 0 cap) := by
  obtain ⟨inf, i1, _, _, _⟩ := hz.parts
  intro w' _ ρ hρ dst pos af gd
  simp [execOp, hρ x _ hx, hρ y _ hy, Instr.sliceAt, run_underlying ht, Instr.slice, Instr.sliceBounds, Instr.sliceBound, asIntOf, sizeOf, typeInfo, i1]
  exact fun _ => by rw [Addr.add_lit]
theorem r_sliceNil [Dr] {k : IntKind} {zz : Value} {bt : Nat} (hx : ev L x = some (.slice none 0 0)) (hy : ev L y = some (.int k 0)) (ht : P.underlying t = some (.slice e)) (hz : Zr P e zz 1 bt) : RunsAt P L w (.slice t x none (some y) none) ty (.slice none 0 0) := by
  obtain ⟨inf, i1, _, _, _⟩ := hz.parts
  intro w' _ ρ hρ dst pos af gd
  simp [execOp, hρ x _ hx, hρ y _ hy, Instr.sliceAt, run_underlying ht, Instr.slice, Instr.sliceBounds, Instr.sliceBound, asIntOf, sizeOf, typeInfo, i1]
/-- A byte of a string. -/
theorem r_sidx [Dr] {l : List UInt8} {k : IntKind} {i : Int} (hx : ev L x = some (.string ⟨l.toArray⟩)) (hy : ev L y = some (.int k i)) (ht : P.underlying t = some .string) (hi : 0 ≤ i ∧ i < (l.length : Int)) : RunsAt P L w (.index t x y) ty (.int .u8 ((l.getD i.toNat default).toNat : Int)) := by
  intro w' _ ρ hρ dst pos af g
  have h1 : i.toNat < l.length := by omega
  have h2 : (⟨l.toArray⟩ : ByteArray)[i.toNat]? = some (l.getD i.toNat default) := by
    have hb : i.toNat < (⟨l.toArray⟩ : ByteArray).size := h1
    rw [show l.getD i.toNat default = (⟨l.toArray⟩ : ByteArray)[i.toNat] by rw [List.getD_eq_getElem?_getD, List.getElem?_eq_getElem h1]; rfl]
    simp [hb]
  simp [execOp, hρ x _ hx, hρ y _ hy, Instr.index, asIntOf, run_underlying ht, hi.1, h2]
end
end Go.E
namespace Go.E
open Go Go.RowKit
section
variable {P : Program} {n : Sz} {m fuel : Nat} {l : List Oper} {Q : Exit → Act → World → Prop} {L : Env} {w w0 : World} {done : List Nat} {i d : Nat} {op : Op} {ty : TypeId} {pos : String} {af : Array Edge}
end
end Go.E
namespace Go.E
open Go Go.RowKit
section
variable {P : Program} {L : Env} {w : World} {x y : Operand} {ty : TypeId} {H H' : PH} {u v : Value}
end
end Go.E
namespace Go.E
open Go Go.RowKit
section
variable {P : Program} {L : Env} {w : World} {x y : Operand} {ty t t' e : TypeId}
theorem r_neg [Dr] {a : Int} (hx : ev L x = some (.int .i64 a)) (h : Go.L.I64 (-a)) : RunsAt P L w (.unOp .neg t x) ty (.int .i64 (-a)) := by
  intro w' _ ρ hρ dst pos af g
  have e := wrap64 h.1 h.2
  simp [execOp, hρ x _ hx, Op.unary, Op.intArith, e]
/-- Two strings held against each other. -/
theorem r_scmp [Dr] {f : FuncId} {fn : Func} {at_ : Array TypeId} {l m : List UInt8} (hf : P.funcs[f]? = some fn) (h1 : (fn.name == "runtime.NumGoroutine") = false) (h2 : fn.body.isNone = true) (h3 : Extern.findNext fn = none) (h4 : Extern.find fn = some Extern.BytealgCompare.compare)
    (hx : ev L x = some (.string ⟨l.toArray⟩)) (hy : ev L y = some (.string ⟨m.toArray⟩)) : RunsAt P L w (.call ⟨.value (.func f), #[x, y], at_⟩) ty (.int .i64 (Lib.compareBytes l m)) := by
  intro w' hw ρ hρ dst pos af g
  have e0 : ρ (.func f) = .func (.func f) #[] #[] := hρ _ _ rfl
  have hc : (Extern.BytealgCompare.compare #[.string ⟨l.toArray⟩, .string ⟨m.toArray⟩]).run P w' = .ok (.int .i64 (Lib.compareBytes l m)) w' := by
    show Sem.run P (do pure (goInt (Extern.BytealgCompare.cmp (← Extern.Bytes.bytesOf (.string ⟨l.toArray⟩)) (← Extern.Bytes.bytesOf (.string ⟨m.toArray⟩))))) w' = _
    simp only [Extern.Bytes.bytesOf, Sem.run_bind, Result.andThen_ok, Sem.run_pure, Lib.cmp_eq]
    simp [goInt]
  have hcall : (callFunc f #[.string ⟨l.toArray⟩, .string ⟨m.toArray⟩]).run P w' = .ok (.value (.int .i64 (Lib.compareBytes l m))) w' := by
    rw [run_callFunc_extern hf h1 h2 h3 h4, hc]; rfl
  simp [execOp, resolve, e0, hρ x _ hx, hρ y _ hy, Deferred.ofValue, invoke, hcall]
end
section
variable {P : Program} {n : Sz} {ops : Array Oper} {Q : Exit → Act → World → Prop} {L : Env} {w w0 : World} {O : List Res} {rest : List Oper} {d : Nat} {ty : TypeId} {pos : String} {af : Array Edge} {x : Operand} {t t' e : TypeId} {H : PH}
theorem bytes_vec [Dr] (w : World) (e : TypeId) {l : List UInt8} (hl : l.length ≤ 9223372036854775807) : Ext w (Lib.bytesWorld w e ⟨l.toArray⟩) ∧ Vec .byte (nw w (Lib.bytesWorld w e ⟨l.toArray⟩)) (.slice (some ⟨w.heap.size, 0, none⟩) l.length (grownCap w l.length 0 e)) l := by
  have hs : (ByteArray.mk l.toArray).size = l.length := by simp [ByteArray.size]
  refine ⟨⟨⟨rfl, rfl, rfl, ?_, fun k hk => ?_⟩, fun _ => (by first | exact Nat.le_refl _ | exact Nat.le_succ _)⟩, ⟨some ⟨w.heap.size, 0, none⟩, _, rfl, grownCap_ge _ _ _ _, grownCap_le_maxLen _ _ _ _ (by unfold maxLen; omega), (fun h => by cases h), fun A hA _ => ?_⟩⟩
  · rw [Lib.bytesWorld_size]; omega
  · exact Lib.bytesWorld_at_old w e _ k hk
  · cases hA
    refine ⟨rfl, fun i b hb => ⟨_, rfl, fun j u hu => ?_⟩⟩
    have hi := (List.getElem?_eq_some_iff.1 hb).1
    cases j with
    | zero =>
      simp only [List.getElem?_cons_zero, Option.some.injEq] at hu
      subst hu
      show cellP _ (Addr.add ⟨w.heap.size, 0, none⟩ (i * 1 + 0)) = _
      have := Lib.bytesWorld_cell w e ⟨l.toArray⟩ i (by rw [hs]; exact hi)
      simp only [Addr.add_lit, Nat.zero_add, Nat.mul_one, Nat.add_zero, cellP, nw, Nat.le_refl, if_true]
      unfold World.cell? at this
      rw [show (l.toArray.toList.getD i 0) = b by simp [List.getD_eq_getElem?_getD, hb]] at this
      exact this
    | succ j => cases hu
/-- '[]byte(s)'. -/
theorem S_s2b [Dr] {l : List UInt8} {u : TypeDesc} (hx : ev L x = some (.string ⟨l.toArray⟩)) (ht : P.underlying t = some u) (ht' : P.underlying t' = some (.slice e)) (he : P.underlying e = some (.int .u8)) (hn : Nat.blt d n.n = true) (hL : Lcl w0 O w) (hl : l.length ≤ 9223372036854775807)
    (h : ∀ v w', Ext w w' → Lcl w0 O w' → Le (fz w O) (fz w' O) → Vec .byte (gz H w0 w' O) v l → S P n ops Q rest ((d, v) :: L) w') : S P n ops Q (⟨some d, .convert t t' x, ty, pos, af, none⟩ :: rest) L w := by
  obtain ⟨h1, h2⟩ := bytes_vec w e hl
  have hs : (ByteArray.mk l.toArray).size = l.length := by simp [ByteArray.size]
  refine S_value (v := .slice (some ⟨w.heap.size, 0, none⟩) l.length (grownCap w l.length 0 e)) (w' := Lib.bytesWorld w e ⟨l.toArray⟩) rfl rfl hn (fun ρ hρ => ?_) (h _ _ h1 (hL.call h1) (fz_ext hL h1) (h2.mono (gz_new hL)))
  have := Lib.run_convert_string_bytes (P := P) w t t' e ⟨l.toArray⟩ ht ht' he
  rw [hs] at this
  simp [execOp, hρ x _ hx, this]
end
/-- What is owned, in another order: one place after the other to the front. -/
def pickR (O : List Res) (i : Nat) : List Res := match nthR O i with | some q => q :: delR O i | none => O
def picksR : List Res → List Nat → List Res
  | O, [] => O
  | O, i :: l => picksR (pickR O i) l
theorem pickR_perm (O : List Res) (i : Nat) : O.Perm (pickR O i) := by
  unfold pickR
  split
  · rename_i q hq; exact perm_nth hq
  · exact List.Perm.refl _
theorem picksR_perm : ∀ (l : List Nat) (O : List Res), O.Perm (picksR O l)
  | [], _O => List.Perm.refl _
  | i :: l, O => (pickR_perm O i).trans (picksR_perm l (pickR O i))
theorem Lcl.picks [Dr] {w0 w : World} {O O' : List Res} (l : List Nat) (h : Lcl w0 O w) (e : picksR O l = O') : Lcl w0 O' w := e ▸ h.perm (picksR_perm l O).symm
theorem fz_picks [Dr] {w0 w : World} {O O' : List Res} (l : List Nat) (_ : Lcl w0 O w) (_ : Lcl w0 O' w) (e : picksR O l = O') : Le (fz w O) (fz w O') := by
  rw [← e, fz_perm (picksR_perm l O).symm]; exact Le.refl _
/-- What is owned, and more about it. -/
abbrev InO [Dr] (w0 : World) (O : List Res) (w : World) (P : List Res → Prop) : Prop := Lcl w0 O w ∧ P O
end Go.E
end
section
namespace Go.L
/-- What may have panicked: none leads to ex. -/
def onX {α β : Type} (x : Option α) (ex : Option β) (k : α → Option β) : Option β := match x with
  | none => ex
  | some y => k y
end Go.L
namespace Go.E
open Go Go.RowKit
/-- One panic, not recovered. -/
abbrev pch (v : Value) : List PanicEntry := [{ v := v, recovered := false }]
/-- The same one, recovered. -/
abbrev pchR (v : Value) : List PanicEntry := [{ v := v, recovered := true }]
/-- The ending of a call that may panic with this value (then: none). -/
def RqX (pv : Value) (R : Option Value → World → Prop) : Ending → World → Prop
  | .returned v, w => R (some v) w
  | .panicked c, w => c = pch pv ∧ R none w
  | .outgrown, _ => False
def OkX (P : Program) (f : FuncId) (args : List Value) (w : World) (pv : Value) (R : Option Value → World → Prop) : Prop :=
  Callable P f ∧ Calls P f args.toArray w (RqX pv R)
theorem OkX.mono {P : Program} {f : FuncId} {args : List Value} {w : World} {pv : Value} {R R' : Option Value → World → Prop} (h : OkX P f args w pv R) (hr : ∀ v w', R v w' → R' v w') : OkX P f args w pv R' :=
  ⟨h.1, h.2.mono fun e w' k => by
    cases e with
    | returned v => exact hr _ _ k
    | panicked c => exact ⟨k.1, hr _ _ k.2⟩
    | outgrown => exact k⟩
section
variable {P : Program} {n : Sz} {ops : Array Oper} {Q : Exit → Act → World → Prop} {L : Env} {w : World} {rest : List Oper} {d : Nat} {dst : Option Tmp} {ty : TypeId} {pos : String} {af : Array Edge} {pv : Value}
/-! ### Deferred calls -/
/-- The frame's mode behind 'recover()', and what it yields. -/
inductive RecAt (pv : Value) : FrameMode → FrameMode → Value → Prop
  | no : RecAt pv .returning .returning .nilIface
  | yes : RecAt pv (.panicking (pch pv)) (.panicking (pchR pv)) pv
end
end Go.E
namespace Go.E
open Go Go.RowKit
section
variable {P : Program} {n : Sz} {Q : Exit → Act → World → Prop} {L : Env} {w : World}
/-! ### Scopes and labels that nobody jumps to -/
theorem W_scope {c : Code} (h : W P n c (Exit.noGoto Q) L w) : W P n (.scope c) Q L w := fun a fr => wp_scope_straight (h a fr)
theorem At_scope_ret (h : At n Q .ret L w) : At n (Exit.noGoto Q) .ret L w := h
end
/-! ### Operations inside a fence that lets everything in -/
/-- The wide fence, for a frame of a function or of a round. -/
def Wid (F : Fence) : Prop := F = Fence.wide ∨ ∃ l, F = Fence.wide.inRound l
theorem Wid.fn {F : Fence} (h : Wid F) (f : FuncId) : F.fn f := by rcases h with rfl | ⟨l, rfl⟩ <;> exact trivial
theorem Wid.calls {F : Fence} (h : Wid F) {n : Nat} {P : Program} {f : FuncId} {args : Array Value} {w : World} {R : Ending → World → Prop} (k : Calls P f args w R) : CallsIn F n P f args w R := by
  rcases h with rfl | ⟨l, rfl⟩
  · exact callsIn_wide.2 k
  · exact (callsIn_wide.2 k).inRound l
theorem Wid.rows {F : Fence} (h : Wid F) {n : Nat} {P : Program} {row : String} {args : Array Value} {w : World} {R : Value → World → Prop} (k : Rows P row args w R) : RowsIn F n P row args w R := by
  intro c cs _
  obtain ⟨v, w', hR, hs⟩ := k c cs
  refine ⟨v, w', hR, ?_⟩
  rcases h with rfl | ⟨l, rfl⟩
  · exact stepsIn_wide.2 hs
  · rw [fenced_inRound]; exact stepsIn_wide.2 hs
section
variable {P : Program} {n : Sz} {ops : Array Oper} {Q : Exit → Act → World → Prop} {L : Env} {w : World} {rest : List Oper}
/-! ### A region in which yield is called -/
end
/-! ### A loop whose rounds append the element to a slice in a variable -/
section
variable {P : Program} {j : Nat} {n : Sz} {Q : Exit → Act → World → Prop} {L : Env} {w : World}
/-- An object that is owned is turned into another one. -/
theorem Lcl.putAt [Dr] {w0 : World} {O : List Res} {i b : Nat} {o : Obj} (o' : Obj) (hL : Lcl w0 O w) (hi : nthR O i = some (.obj b o)) : Lcl w0 (setR O i (.obj b o')) (w.putObj b o') ∧ Le (fz w O) (fz (w.putObj b o') (setR O i (.obj b o'))) := by
  have hg : w.grownBy (w.putObj b o') (some b) := ⟨rfl, rfl, rfl, by simp, fun k _ hk => World.putObj_heap_other (fun e => hk (by rw [e]))⟩
  have hlt : b < w.heap.size := (hL.at hi).lt rfl
  exact ⟨hL.turnAt hi (Nat.le_refl _) hg (World.putObj_heap_same hlt) (fun k e => .inl e), fz_turnAt hL hi hg (fun k e => .inl e)⟩
/-! ### The function that holds the statement -/
end
end Go.E
end
section
namespace Go.E
open Go Go.RowKit
/-- An element: plain cells, then one row of bytes. -/
structure Nb (α : Type) where
  pre : α → List Value
  dat : α → List UInt8
  upd : α → List UInt8 → α
  sz : Nat
  len : ∀ x, (pre x).length + 1 = sz
  one : ∀ x, ∀ u ∈ pre x, u.oneCell' = true
  preU : ∀ x d, pre (upd x d) = pre x
  datU : ∀ x d, dat (upd x d) = d
def Nb.b : Nb (List UInt8) := ⟨fun _ => [], fun x => x, fun _ d => d, 1, fun _ => rfl, (fun _ _ h => by cases h), fun _ _ => rfl, fun _ _ => rfl⟩
def Nb.s : Nb (Int × List UInt8) := ⟨fun x => [.int .i64 x.1], fun x => x.2, fun x d => (x.1, d), 2, fun _ => rfl, (fun _ u h => by simp at h; subst h; rfl), fun _ _ => rfl, fun _ _ => rfl⟩
section
variable {α : Type} (N : Nb α) (e : TypeId)
end
section
variable {α : Type} {N : Nb α} {e : TypeId}
theorem nthR_app : ∀ (A T : List Res) (i : Nat), nthR (A ++ T) (A.length + i) = nthR T i
  | [], T, i => by rw [List.nil_append, List.length_nil, Nat.zero_add]
  | a :: A, T, i => by rw [List.length_cons, show A.length + 1 + i = (A.length + i) + 1 by omega]; exact nthR_app A T i
theorem setR_app : ∀ (A T : List Res) (i : Nat) (r : Res), setR (A ++ T) (A.length + i) r = A ++ setR T i r
  | [], T, i, r => by rw [List.nil_append, List.length_nil, Nat.zero_add, List.nil_append]
  | a :: A, T, i, r => by rw [List.length_cons, show A.length + 1 + i = (A.length + i) + 1 by omega]; exact congrArg (a :: ·) (setR_app A T i r)
theorem nthR_left : ∀ {A : List Res} {i : Nat} {r : Res} (T : List Res), nthR A i = some r → nthR (A ++ T) i = some r
  | _ :: _, 0, _, _, h => h
  | _ :: A, i + 1, _, T, h => nthR_left (A := A) (i := i) T h
theorem setR_left : ∀ {A : List Res} {i : Nat} {r : Res} (s : Res) (T : List Res), nthR A i = some r → setR (A ++ T) i s = setR A i s ++ T
  | _ :: _, 0, _, _, _, _ => rfl
  | a :: A, i + 1, _, s, T, h => congrArg (a :: ·) (setR_left (A := A) (i := i) s T h)
end
section
variable {P : Program} {n : Sz} {ops : Array Oper} {Q : Exit → Act → World → Prop} {L : Env} {w w0 : World} {O : List Res} {rest : List Oper}
  {d : Nat} {ty : TypeId} {pos : String} {af : Array Edge} {α : Type} [Inhabited α] {N : Nb α} {x y : Operand} {vo : Value} {t e eo : TypeId} {A : List Res} {l : List α} {vs : List Value}
end
section
variable {P : Program} {n : Sz} {ops : Array Oper} {Q : Exit → Act → World → Prop} {L : Env} {w w0 : World} {rest : List Oper}
  {d d' : Nat} {ty ty' : TypeId} {pos pos' : String} {af af' : Array Edge} {α : Type} {N : Nb α} {x : Operand} {v vo : Value} {t e eo : TypeId} {H : PH} {l : List α} {vs : List Value}
end
section
variable {w w' w0 : World} {A T O O' : List Res} {α : Type} {N : Nb α} {r : Rp α} {vo : Value} {e eo : TypeId} {H : PH} {l : List α} {vs : List Value}
theorem delR_app : ∀ (A T : List Res) (i : Nat), delR (A ++ T) (A.length + i) = A ++ delR T i
  | [], T, i => by rw [List.nil_append, List.length_nil, Nat.zero_add, List.nil_append]
  | a :: A, T, i => by rw [List.length_cons, show A.length + 1 + i = (A.length + i) + 1 by omega]; exact congrArg (a :: ·) (delR_app A T i)
end
end Go.E
namespace Go.L
/-- What a list of entries knows of a key. -/
def mget {κ β : Type} [DecidableEq κ] (d : β) (k : κ) : List (κ × β) → β
  | [] => d
  | (a, y) :: l => if k = a then y else mget d k l
/-- An entry is turned or added. -/
def mput {κ β : Type} [DecidableEq κ] (k : κ) (y : β) : List (κ × β) → List (κ × β)
  | [] => [(k, y)]
  | (a, z) :: l => if k = a then (a, y) :: l else (a, z) :: mput k y l
end Go.L
namespace Go.E
open Go Go.RowKit
/-- Entries in the order in which they were made. -/
def mE {κ : Type} (enc : κ → Value) : Nat → List κ → List Value → List MapEntry
  | i, k :: l, v :: vs => ⟨enc k, v, i⟩ :: mE enc (i + 1) l vs
  | _, _, _ => []
/-- The place of a key. -/
def mI {κ : Type} [DecidableEq κ] (k : κ) : List κ → Option Nat
  | [] => none
  | a :: l => if k = a then some 0 else (mI k l).map (· + 1)
section
variable {κ : Type} {enc : κ → Value} {k : κ}
theorem mE_push {v : Value} : ∀ (l : List κ) (vs : List Value) (i : Nat), l.length = vs.length → mE enc i l vs ++ [⟨enc k, v, i + l.length⟩] = mE enc i (l ++ [k]) (vs ++ [v])
  | [], [], i, _ => by simp [mE]
  | a :: l, u :: vs, i, h => by
    have := mE_push (v := v) l vs (i + 1) (by simpa using h)
    simp only [mE, List.cons_append, List.length_cons]
    rw [← this, show i + (l.length + 1) = i + 1 + l.length by omega]
theorem mE_get : ∀ (l : List κ) (vs : List Value) (i m : Nat) (a : κ), l.length = vs.length → l[m]? = some a → (mE enc i l vs)[m]? = some ⟨enc a, vs.getD m default, i + m⟩
  | b :: l, u :: vs, i, 0, a, _, h => by simp at h; subst h; simp [mE]
  | b :: l, u :: vs, i, m + 1, a, hl, h => by
    have := mE_get l vs (i + 1) m a (by simpa using hl) (by simpa using h)
    simp only [mE, List.getElem?_cons_succ, this]
    simp; omega
theorem mE_length : ∀ (l : List κ) (vs : List Value) (i : Nat), l.length = vs.length → (mE enc i l vs).length = l.length
  | [], [], _, _ => rfl
  | a :: l, u :: vs, i, h => by simp [mE, mE_length l vs (i + 1) (by simpa using h)]
end
/-- Keys that the model tells apart as the list does. -/
structure KeyOk (P : Program) {κ : Type} [DecidableEq κ] (kt : TypeId) (enc : κ → Value) : Prop where
  check : ∀ (b : Bool) (k : κ) w, (Instr.checkKey b 10000 kt (enc k)).run P w = .ok () w
  bits : ∀ k, Instr.sameBits 10000 (enc k) (enc k) = true
  find : ∃ dd, P.underlying kt = some dd ∧ ((∀ a b, Instr.sameNow dd (enc a) (enc b) = some (decide (a = b))) ∨
    ((∀ a b, Instr.sameNow dd (enc a) (enc b) = none) ∧ ∀ a b w, (Op.equal kt (enc a) (enc b)).run P w = .ok (decide (a = b)) w))
section
variable {P : Program} {κ : Type} [DecidableEq κ] {kt t et : TypeId} {enc : κ → Value} {k : κ}
theorem mI_lt : ∀ {l : List κ} {m : Nat}, mI k l = some m → m < l.length ∧ l[m]? = some k
  | a :: l, m, h => by
    simp only [mI] at h
    split at h
    · rename_i e; cases h; subst e; simp
    · cases h1 : mI k l with
      | none => rw [h1] at h; cases h
      | some j =>
        rw [h1] at h; cases h
        have := mI_lt h1
        simpa using this
theorem findNow_mE {dd : TypeDesc} (h : ∀ a b, Instr.sameNow dd (enc a) (enc b) = some (decide (a = b))) : ∀ (l : List κ) (vs : List Value) (i j : Nat), l.length = vs.length →
    Instr.findNow dd (enc k) (mE enc i l vs) j = some ((mI k l).map fun m => (j + m, vs.getD m default))
  | [], _, _, _, _ => by simp [mE, Instr.findNow, mI]
  | a :: l, v :: vs, i, j, hl => by
    simp only [mE, Instr.findNow, h, mI]
    by_cases e : k = a
    · simp [e]
    · simp only [e, decide_false]
      rw [findNow_mE h l vs (i + 1) (j + 1) (by simpa using hl)]
      cases mI k l with
      | none => simp
      | some m => simp; omega
theorem findAsking_mE (h : ∀ a b w, (Op.equal kt (enc a) (enc b)).run P w = .ok (decide (a = b)) w) (w : World) : ∀ (l : List κ) (vs : List Value) (i j : Nat), l.length = vs.length →
    (Instr.findAsking kt (enc k) (mE enc i l vs) j).run P w = .ok ((mI k l).map fun m => (j + m, vs.getD m default)) w
  | [], _, _, _, _ => by simp [mE, Instr.findAsking, mI]
  | a :: l, v :: vs, i, j, hl => by
    simp only [mE, Instr.findAsking, mI, Sem.run_bind, h, Result.andThen]
    by_cases e : k = a
    · simp [e]
    · simp only [e, decide_false]
      rw [if_neg (by simp), findAsking_mE h w l vs (i + 1) (j + 1) (by simpa using hl)]
      cases mI k l with
      | none => simp
      | some m => simp; omega
theorem find_mE (hk : KeyOk P kt enc) {l : List κ} {vs : List Value} (hl : l.length = vs.length) (w : World) :
    (Instr.findKey kt (enc k) (mE enc 0 l vs)).run P w = .ok ((mI k l).map fun m => (m, vs.getD m default)) w := by
  obtain ⟨dd, hd, h⟩ := hk.find
  unfold Instr.findKey
  rcases h with h | ⟨h1, h2⟩
  · simp [run_underlying hd, findNow_mE h l vs 0 0 hl]
  · cases l with
    | nil =>
      have : vs = [] := List.eq_nil_of_length_eq_zero (by simpa using hl.symm)
      subst this
      simp [run_underlying hd, mE, Instr.findNow, mI]
    | cons a l =>
      cases vs with
      | nil => cases hl
      | cons v vs =>
        have e : Instr.findNow dd (enc k) (mE enc 0 (a :: l) (v :: vs)) 0 = none := by simp only [mE, Instr.findNow, h1]
        simp only [Sem.run_bind, run_underlying hd, Result.andThen, e]
        have := findAsking_mE (k := k) h2 w (a :: l) (v :: vs) 0 0 hl
        rw [this]
        simp
/-- What lookup yields. -/
def lkV (z : Value) (k : κ) (l : List κ) (vs : List Value) : Value := match mI k l with
  | some m => vs.getD m default
  | none => z
def Mz (P : Program) (et : TypeId) (z : Value) : Prop := ∀ w, (zeroValue et).run P w = .ok z w
theorem lookup_run {w : World} {b n : Nat} {l : List κ} {vs : List Value} {z : Value} (hk : KeyOk P kt enc) (ht : P.underlying t = some (.map kt et)) (hz : Mz P et z) (hb : w.heap[b]? = some (.map (mE enc 0 l vs).toArray n)) (hl : l.length = vs.length) :
    (Instr.lookup t (.map (some b)) (enc k) false).run P w = .ok (lkV z k l vs) w := by
  have hg : (getObj b).run P w = .ok (.map (mE enc 0 l vs).toArray n) w := by simp [getObj, Sem.run, hb]
  simp only [Instr.lookup, Sem.run_bind, run_underlying ht, Result.andThen, hg, hk.check]
  simp only [Sem.run_pure]
  rw [find_mE hk hl]
  unfold lkV
  cases mI k l with
  | some m => simp
  | none => simp [hz w]
/-- The entries behind an update. -/
def upK (k : κ) (l : List κ) : List κ := match mI k l with
  | some _ => l
  | none => l ++ [k]
def upV (k : κ) (v : Value) (l : List κ) (vs : List Value) : List Value := match mI k l with
  | some m => vs.set m v
  | none => vs ++ [v]
end
/-! ### Against lists of pairs -/
section
variable {κ β : Type} [DecidableEq κ] {k : κ} {z : Value} {enc : κ → Value} {ev' : β → Value}
theorem mI_none : ∀ {l : List (κ × β)} (d : β), mI k (l.map Prod.fst) = none → Go.L.mget d k l = d
  | [], _, _ => rfl
  | (a, y) :: l, d, h => by
    simp only [List.map_cons, mI] at h
    split at h
    · cases h
    · rename_i e
      simp only [Go.L.mget, if_neg e]
      exact mI_none d (by cases h1 : mI k (l.map Prod.fst) <;> simp_all)
theorem mI_some : ∀ {l : List (κ × β)} {m : Nat} (d : β), mI k (l.map Prod.fst) = some m → l[m]? = some (k, Go.L.mget d k l)
  | (a, y) :: l, m, d, h => by
    simp only [List.map_cons, mI] at h
    split at h
    · rename_i e; cases h; subst e; simp [Go.L.mget]
    · rename_i e
      cases h1 : mI k (l.map Prod.fst) with
      | none => rw [h1] at h; cases h
      | some j =>
        rw [h1] at h; cases h
        simpa [Go.L.mget, if_neg e] using mI_some d h1
theorem mput_none {y : β} : ∀ {l : List (κ × β)}, mI k (l.map Prod.fst) = none → Go.L.mput k y l = l ++ [(k, y)]
  | [], _ => rfl
  | (a, x) :: l, h => by
    simp only [List.map_cons, mI] at h
    split at h
    · cases h
    · rename_i e
      simp only [Go.L.mput, if_neg e, List.cons_append]
      rw [mput_none (by cases h1 : mI k (l.map Prod.fst) <;> simp_all)]
theorem mput_some {y : β} : ∀ {l : List (κ × β)} {m : Nat}, mI k (l.map Prod.fst) = some m → Go.L.mput k y l = l.set m (k, y)
  | (a, x) :: l, m, h => by
    simp only [List.map_cons, mI] at h
    split at h
    · rename_i e; cases h; subst e; simp [Go.L.mput]
    · rename_i e
      cases h1 : mI k (l.map Prod.fst) with
      | none => rw [h1] at h; cases h
      | some j =>
        rw [h1] at h; cases h
        simp only [Go.L.mput, if_neg e]
        rw [mput_some h1]
        rfl
theorem upK_mput {y : β} {l : List (κ × β)} : upK k (l.map Prod.fst) = (Go.L.mput k y l).map Prod.fst := by
  unfold upK
  cases h : mI k (l.map Prod.fst) with
  | none => rw [mput_none h]; simp
  | some m =>
    rw [mput_some h]
    obtain ⟨h1, h2⟩ := mI_lt h
    simp only [List.map_set]
    obtain ⟨h3, h4⟩ := List.getElem?_eq_some_iff.1 h2
    conv => lhs; rw [← List.set_getElem_self h3, h4]
end
/-! ### A map of plain values -/
/-- A map's object. -/
abbrev mpR {κ β : Type} (enc : κ → Value) (b : Nat) (l : List (κ × β)) (vs : List Value) : Res := .obj b (.map (mE enc 0 (l.map Prod.fst) vs).toArray l.length)
section
variable {P : Program} {n : Sz} {ops : Array Oper} {Q : Exit → Act → World → Prop} {L : Env} {w w0 : World} {O : List Res} {rest : List Oper} {d : Nat} {ty t kt et : TypeId} {pos : String} {af : Array Edge} {x y x' : Operand}
  {κ β : Type} [DecidableEq κ] {enc : κ → Value} {ev' : β → Value} {l : List (κ × β)} {k : κ} {H : PH}
omit [DecidableEq κ] in
/-- 'map[K]V{}'. -/
theorem S_makeMap [Dr] (enc : κ → Value) (β : Type) (hn : Nat.blt d n.n = true) (hL : Lcl w0 O w)
    (h : ∀ w' b, Lcl w0 (mpR enc b ([] : List (κ × β)) [] :: O) w' → Le (fz w O) (fz w' (mpR enc b ([] : List (κ × β)) [] :: O)) → S P n ops Q rest ((d, .map (some b)) :: L) w') : S P n ops Q (⟨some d, .makeMap t none, ty, pos, af, none⟩ :: rest) L w := by
  have hb : ∀ b, (Res.obj w.heap.size (.map (mE enc 0 (([] : List (κ × β)).map Prod.fst) []).toArray ([] : List (κ × β)).length)).block = some b → w.heap.size ≤ b := fun b e => by cases e; exact Nat.le_refl _
  refine S_value (v := .map (some w.heap.size)) (w' := w.alloc (.map #[] 0)) rfl rfl hn (fun ρ hρ => ?_) (h _ _ (hL.new (ext_alloc w _) (World.alloc_heap_new w _) hb) (fz_new hL (ext_alloc w (.map #[] 0)) hb))
  simp [execOp, Instr.makeMap, newObj, Sem.run]
end
/-! ### A map of slices of the call's own -/
section
variable {κ α : Type} (cw : α → List Value) (e : TypeId) (sz : Nat)
def mR (x : List α) (v : Value) : Res := .row v e sz x.length (x.flatMap cw)
def mT : List (κ × List α) → List Value → List Res
  | x :: l, v :: vs => mR cw e sz x.2 v :: mT l vs
  | _, _ => []
end
section
variable {κ α : Type} {cw : α → List Value} {e : TypeId} {sz : Nat}
theorem mT_at : ∀ {l : List (κ × List α)} {vs : List Value}, l.length = vs.length → ∀ {i : Nat} {k : κ} {x : List α}, l[i]? = some (k, x) → nthR (mT cw e sz l vs) i = some (mR cw e sz x (vs.getD i default))
  | y :: l, v :: vs, h, 0, k, x, hx => by simp at hx; subst hx; rfl
  | y :: l, v :: vs, h, i + 1, k, x, hx => by
    have := mT_at (l := l) (vs := vs) (by simpa using h) (i := i) (by simpa using hx)
    simpa [mT, nthR] using this
theorem mT_set : ∀ {l : List (κ × List α)} {vs : List Value}, l.length = vs.length → ∀ {i : Nat} (k : κ) (x : List α) (v : Value), i < l.length → setR (mT cw e sz l vs) i (mR cw e sz x v) = mT cw e sz (l.set i (k, x)) (vs.set i v)
  | y :: l, u :: vs, h, 0, k, x, v, _ => rfl
  | y :: l, u :: vs, h, i + 1, k, x, v, hi => by
    have := mT_set (l := l) (vs := vs) (by simpa using h) (i := i) k x v (by simpa using hi)
    simp [mT, setR, this]
theorem mT_push (k : κ) (x : List α) (v : Value) : ∀ {l : List (κ × List α)} {vs : List Value}, l.length = vs.length → mT cw e sz (l ++ [(k, x)]) (vs ++ [v]) = mT cw e sz l vs ++ [mR cw e sz x v]
  | [], [], _ => rfl
  | y :: l, u :: vs, h => by
    have := mT_push k x v (l := l) (vs := vs) (by simpa using h)
    simp [mT, this]
end
section
variable {P : Program} {n : Sz} {ops : Array Oper} {Q : Exit → Act → World → Prop} {L : Env} {w w0 : World} {O : List Res} {rest : List Oper} {d : Nat} {ty ty' t mt kt et e : TypeId} {pos pos' : String} {af af' : Array Edge} {x y x' m' : Operand}
  {κ α : Type} [DecidableEq κ] {enc : κ → Value} {cw : α → List Value} {sz : Nat} {l : List (κ × List α)} {vs : List Value} {k : κ} {H : PH} {A : List Res}
/-- Between append and the update: the rows as they will be, in some order. -/
def Pend (cw : α → List Value) (e : TypeId) (sz : Nat) (l : List (κ × List α)) (vs : List Value) (k : κ) (y : List α) (v : Value) (T : List Res) : Prop :=
  v.oneCell' = true ∧ l.length = vs.length ∧ T.Perm (mT cw e sz (Go.L.mput k y l) (upV k v (l.map Prod.fst) vs))
/-- 'append(m[k], z)', behind the look. -/
theorem S_appM [Dr] {r : Rp α} {bt : Nat} {zz u : Value} {z : α} (hr : ∀ G (x : α) c, r.rel G x c ↔ c = cw x) (hsz : r.sz = sz) (hx : ev L x = some (lkV (.slice none 0 0) k (l.map Prod.fst) vs)) (hy : ev L y = some u) (ht : P.underlying t = some (.slice e)) (hz : Zr P e zz sz bt) (hzs : zz.cells.size = sz) (h0 : 0 < sz) (hn : Nat.blt d n.n = true)
    (hH : Le H (hp w0)) (hL : Lcl w0 (A ++ mT cw e sz l vs) w) (hl : l.length = vs.length) (hu : Vec r (gz H w0 w (A ++ mT cw e sz l vs)) u [z]) (hby : Cap bt ((Go.L.mget [] k l).length + 1))
    (h : ∀ v' w' T, Pend cw e sz l vs k (Go.L.mget [] k l ++ [z]) v' T → Lcl w0 (A ++ T) w' → Le (fz w (A ++ mT cw e sz l vs)) (fz w' (A ++ T)) → S P n ops Q rest ((d, v') :: L) w') :
    S P n ops Q (⟨some d, .call ⟨.builtin .append, #[x, y], #[t, t]⟩, ty, pos, af, none⟩ :: rest) L w := by
  have hel : ∃ news, news = cw z ∧ Src (hp w) sz u 1 news := by
    obtain ⟨news, h1, h2⟩ := hu.elems
    have h3 : news = cw z := by
      cases h1 with
      | cons hc ht => cases ht; rw [List.append_nil]; exact (hr _ _ _).1 hc
    rw [hsz] at h2
    exact ⟨news, h3, h2.mono (gz_le hH hL)⟩
  obtain ⟨news, rfl, hsrc⟩ := hel
  have hone : ∀ c ∈ cw z, c.oneCell' = true := fun c hc => r.one (H := H) ((hr H z (cw z)).2 rfl) c hc
  cases hmi : mI k (l.map Prod.fst) with
  | some m =>
    obtain ⟨h1, h2⟩ := mI_lt hmi
    have h1' : m < l.length := by simpa using h1
    have hg := mI_some ([] : List α) hmi
    have hrow := mT_at (cw := cw) (e := e) (sz := sz) hl hg
    have hlk : lkV (.slice none 0 0) k (l.map Prod.fst) vs = vs.getD m default := by unfold lkV; rw [hmi]
    rw [hlk] at hx
    have hO : nthR (A ++ mT cw e sz l vs) (A.length + m) = some (.row (vs.getD m default) e sz (Go.L.mget [] k l).length ((Go.L.mget [] k l).flatMap cw)) := by rw [nthR_app]; exact hrow
    refine S_append (A.length + m) hx hy ht hz hzs h0 hn hL hO hsrc hone hby fun v' w' hL' hle' => ?_
    have e1 : (.row v' e sz ((Go.L.mget [] k l).length + 1) ((Go.L.mget [] k l).flatMap cw ++ cw z) : Res) = mR cw e sz (Go.L.mget [] k l ++ [z]) v' := by simp [mR]
    rw [e1, setR_app, mT_set hl k _ _ h1'] at hL' hle'
    have e2 : upV k v' (l.map Prod.fst) vs = vs.set m v' := by unfold upV; rw [hmi]
    refine h v' w' _ ⟨?_, hl, ?_⟩ hL' hle'
    · have hl1 : (l.set m (k, Go.L.mget [] k l ++ [z])).length = (vs.set m v').length := by simp [hl]
      have hg2 : (l.set m (k, Go.L.mget [] k l ++ [z]))[m]? = some (k, Go.L.mget [] k l ++ [z]) := by simp [h1']
      have hr2 := mT_at (cw := cw) (e := e) (sz := sz) hl1 hg2
      have hgv : (vs.set m v').getD m default = v' := by simp [List.getD_eq_getElem?_getD, show m < vs.length by omega]
      rw [hgv] at hr2
      have := hL'.at (i := A.length + m) (r := mR cw e sz (Go.L.mget [] k l ++ [z]) v') (by rw [nthR_app]; exact hr2)
      exact row_one this
    · rw [e2, mput_some hmi]
  | none =>
    have hg := mI_none ([] : List α) hmi
    have hlk : lkV (.slice none 0 0) k (l.map Prod.fst) vs = .slice none 0 0 := by unfold lkV; rw [hmi]
    rw [hlk] at hx
    have hnil := row_nil hL e sz
    have hby' : Cap bt (0 + 1) := by rw [hg] at hby; exact hby
    refine S_append 0 hx hy ht hz hzs h0 hn hnil.1 rfl hsrc hone hby' fun v' w' hL' hle' => ?_
    have hp : (A ++ (mT cw e sz l vs ++ [mR cw e sz [z] v'])).Perm (.row v' e sz (0 + 1) ([] ++ cw z) :: (A ++ mT cw e sz l vs)) := by
      rw [← List.append_assoc]
      have : (mR cw e sz [z] v' : Res) = .row v' e sz (0 + 1) ([] ++ cw z) := by simp [mR]
      rw [this]
      exact List.perm_append_singleton _ _
    have e2 : upV k v' (l.map Prod.fst) vs = vs ++ [v'] := by unfold upV; rw [hmi]
    refine h v' w' (mT cw e sz l vs ++ [mR cw e sz [z] v']) ⟨row_one (hL'.at (i := 0) rfl), hl, ?_⟩ (hL'.perm hp) ?_
    · rw [e2, mput_none hmi, hg, List.nil_append, mT_push k [z] v' hl]
    · rw [fz_perm hp]; exact hnil.2.trans hle'
end
/-! ### A map that lies fast -/
def VMap {κ β : Type} (enc : κ → Value) (r : Rp β) (H : PH) (v : Value) (l : List (κ × β)) : Prop :=
  ∃ b vs, v = .map (some b) ∧ H b = some (.map (mE enc 0 (l.map Prod.fst) vs).toArray l.length) ∧ l.length = vs.length ∧ ∀ i x, l[i]? = some x → r.rel H x.2 [vs.getD i default]
theorem VMap.mono {κ β : Type} {enc : κ → Value} {r : Rp β} {H H' : PH} {v : Value} {l : List (κ × β)} (h : VMap enc r H v l) (hs : Le H H') : VMap enc r H' v l := by
  obtain ⟨b, vs, h1, h2, h3, h4⟩ := h
  exact ⟨b, vs, h1, hs _ _ h2, h3, fun i x hx => r.mono hs (h4 i x hx)⟩
section
variable {P : Program} {L : Env} {w w0 : World} {ty t kt et e : TypeId} {x y : Operand} {κ α : Type} [DecidableEq κ] {enc : κ → Value} {cw : α → List Value} {r : Rp α} {sz : Nat} {l : List (κ × List α)} {vs : List Value} {k : κ} {H : PH} {A : List Res}
omit [DecidableEq κ] in
theorem mT_fast [Dr] (hsz : r.sz = sz) (hr : ∀ G (x : α) c, r.rel G x c ↔ c = cw x) (hH : Le H (hp w0)) : ∀ {l : List (κ × List α)} {vs : List Value}, l.length = vs.length → Lcl w0 (A ++ mT cw e sz l vs) w → Lcl w0 A w ∧ Le (fz w (A ++ mT cw e sz l vs)) (fz w A) ∧ ∀ i x, l[i]? = some x → Vec r (gz H w0 w A) (vs.getD i default) x.2
  | [], [], _, hL => ⟨by simpa [mT] using hL, by simp only [mT, List.append_nil]; exact Le.refl _, fun i x hx => by cases hx⟩
  | y :: l, v :: vs, hn, hL => by
    have hi : nthR (A ++ mT cw e sz (y :: l) (v :: vs)) (A.length + 0) = some (.row v e r.sz y.2.length (y.2.flatMap cw)) := by rw [nthR_app, hsz]; rfl
    have hel : Elems r (gz H w0 w (A ++ mT cw e sz (y :: l) (v :: vs))) y.2 (y.2.flatMap cw) := by
      generalize gz H w0 w (A ++ mT cw e sz (y :: l) (v :: vs)) = G
      induction y.2 with
      | nil => exact .nil
      | cons a m ih => rw [List.flatMap_cons]; exact .cons ((hr _ _ _).2 rfl) ih
    have hv := hL.vecG hH hi hel
    have hL2 := hL.dropAt hi
    have hf2 := fz_dropAt (w := w) hi
    rw [delR_app] at hv hL2 hf2
    obtain ⟨h1, h2, h3⟩ := mT_fast hsz hr hH (l := l) (vs := vs) (by simpa using hn) hL2
    refine ⟨h1, hf2.trans h2, fun i x hx => ?_⟩
    cases i with
    | zero => simp at hx; subst hx; exact hv.mono (gz_mono hH h2)
    | succ i => simpa using h3 i x (by simpa using hx)
  | [], _ :: _, h, _ => by cases h
  | _ :: _, [], h, _ => by cases h
omit [DecidableEq κ] in
/-- All of it lies fast from now on. -/
theorem map_pub [Dr] (ib : Nat) {b : Nat} (hsz : r.sz = sz) (hr : ∀ G (x : α) c, r.rel G x c ↔ c = cw x) (hH : Le H (hp w0)) (hl : l.length = vs.length) (hL : Lcl w0 (A ++ mT cw e sz l vs) w) (hib : nthR A ib = some (mpR enc b l vs)) :
    Lcl w0 (delR A ib) w ∧ Le (fz w (A ++ mT cw e sz l vs)) (fz w (delR A ib)) ∧ VMap enc (.vec r) (gz H w0 w (delR A ib)) (.map (some b)) l := by
  obtain ⟨h1, h2, h3⟩ := mT_fast hsz hr hH hl hL
  have h4 := fz_dropAt (w := w) hib
  have hb := h1.at hib
  refine ⟨h1.dropAt hib, h2.trans h4, b, vs, rfl, ?_, hl, fun i x hx => ⟨_, rfl, (h3 i x hx).mono (gz_mono hH h4)⟩⟩
  have hge := h1.own _ ((perm_nth hib).mem_iff.2 (.head _)) b rfl
  have h5 : fz w (delR A ib) b = w.heap[b]? := fz_hp_drop hib rfl h1.dis
  refine gz_right b _ ?_
  unfold nf
  rw [if_pos hge, h5]; exact hb
/-- 'm[k]' of slices that lie fast. -/
theorem lookF [Dr] {v : Value} (hm : VMap enc (.vec r) H v l) (hk : KeyOk P kt enc) (ht : P.underlying t = some (.map kt et)) (hz : Mz P et (.slice none 0 0)) (hx : ev L x = some v) (hy : ev L y = some (enc k)) (hs : Le H (hp w)) :
    ∃ u, RunsAt P L w (.lookup t x y false) ty u ∧ Vec r H u (Go.L.mget [] k l) := by
  obtain ⟨b, vs, rfl, h2, h3, h4⟩ := hm
  refine ⟨lkV (.slice none 0 0) k (l.map Prod.fst) vs, fun w' hx' ρ hρ dst pos af g => ?_, ?_⟩
  · have := lookup_run (k := k) (l := l.map Prod.fst) (vs := vs) hk ht hz (hx'.le _ _ (hs _ _ h2)) (by simp [h3])
    simp [execOp, hρ x _ hx, hρ y _ hy, this]
  · unfold lkV
    cases hmi : mI k (l.map Prod.fst) with
    | none => rw [mI_none [] hmi]; exact Vec.nil r H
    | some m =>
      obtain ⟨u, hu1, hu2⟩ := h4 m _ (mI_some [] hmi)
      simp only [List.cons.injEq, and_true] at hu1
      show Vec r H (vs.getD m default) _
      rw [hu1]; exact hu2
end
end Go.E
end
section
namespace Go.E
open Go Go.RowKit
theorem ba_eq (a b : List UInt8) : ((⟨a.toArray⟩ : ByteArray) == ⟨b.toArray⟩) = decide (a = b) := by
  have : ((⟨a.toArray⟩ : ByteArray) == ⟨b.toArray⟩) = (a.toArray == b.toArray) := rfl
  rw [this, Bool.eq_iff_iff]; simp
section
variable {P : Program} {n : Sz} {ops : Array Oper} {Q : Exit → Act → World → Prop} {L : Env} {w : World} {rest : List Oper} {d : Nat} {ty t kt et : TypeId} {pos : String} {af : Array Edge} {x y : Operand}
  {κ α : Type} [DecidableEq κ] {enc : κ → Value} {r : Rp α} {l : List (κ × List α)} {k : κ} {H : PH} {v : Value}
theorem S_lookF [Dr] (hx : ev L x = some v) (hy : ev L y = some (enc k)) (ht : P.underlying t = some (.map kt et)) (hk : KeyOk P kt enc) (hz : Mz P et (.slice none 0 0)) (hm : VMap enc (.vec r) H v l) (hs : Le H (hp w)) (hn : Nat.blt d n.n = true)
    (h : ∀ u, Vec r H u (Go.L.mget [] k l) → S P n ops Q rest ((d, u) :: L) w) : S P n ops Q (⟨some d, .lookup t x y false, ty, pos, af, none⟩ :: rest) L w := by
  obtain ⟨u, h1, h2⟩ := lookF (ty := ty) hm hk ht hz hx hy hs
  exact S_v h1 hn (h u h2)
end
abbrev cwI (h : Int) : List Value := [.int .i64 h]
theorem rel_I : ∀ (G : PH) (x : Int) (c : List Value), (Rp.int .i64).rel G x c ↔ c = cwI x := fun _ _ _ => Iff.rfl
end Go.E
namespace Go.E
open Go Go.RowKit
/-- An operation that waits for all others. -/
def lastB (ops : Array Oper) (j : Nat) : Bool := match ops[j]? with
  | some oj => (List.range ops.size).all fun k => k == j || oj.after.any fun e => Region.binds .any e && e.on == k
  | none => false
theorem lastB_not {ops : Array Oper} {i j : Nat} {oj : Oper} (hj : ops[j]? = some oj) (hi : i < ops.size) (hne : i ≠ j) (hnot : ∀ e ∈ oj.after, Region.binds .any e = true → e.on ≠ i) : lastB ops j = false := by
  unfold lastB
  rw [hj]
  simp only
  cases h : (List.range ops.size).all (fun k => k == j || oj.after.any fun e => Region.binds .any e && e.on == k) with
  | false => rfl
  | true =>
    have h1 := List.all_eq_true.1 h i (List.mem_range.2 hi)
    simp only [Bool.or_eq_true, beq_iff_eq, hne, false_or] at h1
    obtain ⟨e, he, hb⟩ := Array.any_eq_true'.1 h1
    simp only [Bool.and_eq_true, beq_iff_eq] at hb
    exact absurd hb.2 (hnot e he hb.1)
section
variable (Inv : World → Prop) (P : Program) (ops : Array Oper) (Q : Exit → Act → World → Prop)
/-- Every order; between the operations Inv holds. -/
def wpAnyI : Nat → Array Bool → Act → World → Prop
  | 0, listed, a, w => Region.ready .any ops listed = [] ∧ Q .normal a w
  | m + 1, listed, a, w => (Region.ready .any ops listed = [] → Q .normal a w) ∧
    ∀ i ∈ Region.ready .any ops listed, wpOp P ops Q i (fun a' w' => (lastB ops i = true ∨ Inv w') ∧ wpAnyI m (listed.setIfInBounds i true) a' w') a w
/-- The value of an operation wherever Inv holds. -/
def YieldsI (o : Oper) (v : Value) (a : Act) : Prop :=
  (Region.wanted o (yielded ops a.tmps) = true ∧ ∀ w, Inv w → (execOp a.eval o).run P w = .ok (.value v) w) ∨
  (Region.wanted o (yielded ops a.tmps) = false ∧ v = undef)
end
section
variable {Inv : World → Prop} {P : Program} {ops : Array Oper} {Q : Exit → Act → World → Prop}
theorem wpAnyI_any : ∀ (m : Nat) (listed : Array Bool) (a : Act) (w : World), wpAnyI Inv P ops Q m listed a w → wpAny P .any ops Q m listed a w
  | 0, _, _, _, h => h
  | m + 1, _listed, _a, _w, h => ⟨h.1, fun i hi => wpOp_mono (fun _a' _w' k => wpAnyI_any m _ _ _ k.2) (h.2 i hi)⟩
theorem YieldsI.same {o : Oper} {v : Value} {a a' : Act} (hy : YieldsI Inv P ops o v a) (he : execOp a'.eval o = execOp a.eval o) (hw : Region.wanted o (yielded ops a'.tmps) = Region.wanted o (yielded ops a.tmps)) : YieldsI Inv P ops o v a' := by
  unfold YieldsI at *
  rw [he, hw]; exact hy
theorem YieldsI.op {i : Nat} {o : Oper} {v : Value} {a : Act} {w : World} (hi : ops[i]? = some o) (hy : YieldsI Inv P ops o v a) (hw : Inv w) {K : Act → World → Prop} (h : K (a.put o.dst v) w) : wpOp P ops Q i K a w := by
  unfold wpOp
  simp only [hi]
  rcases hy with ⟨h1, hv⟩ | ⟨h1, rfl⟩
  · simp only [h1, if_true, Oper.wp, hv w hw, Oper.upon]; exact .inl h
  · simp only [h1, Bool.false_eq_true, if_false]; exact h
/-- An operation made before another one whose value is known. -/
theorem op_putI {j : Nat} {oi oj : Oper} {v : Value} (hj : ops[j]? = some oj) (hap : oi.apart ops oj = true) (hsi : ∀ cs b, oi.op ≠ .select cs b) (hsj : ∀ cs b, oj.op ≠ .select cs b)
    (hQ : ∀ c a w, Q (.panic c) (a.put oi.dst v) w → Q (.panic c) a w) {K : Act → World → Prop} {a : Act} {w : World} (hy : YieldsI Inv P ops oi v a) (h : wpOp P ops Q j K (a.put oi.dst v) w) :
    wpOp P ops Q j (fun a' w' => YieldsI Inv P ops oi v a' ∧ K (a'.put oi.dst v) w') a w := by
  obtain ⟨h1, h2, h3⟩ := Oper.apart_spec hap
  have keep : ∀ a, YieldsI Inv P ops oi v a → ∀ u, YieldsI Inv P ops oi v (a.put oj.dst u) := fun a hy u => hy.same (execOp_put oi hsi a oj.dst u h3) (wanted_put oi a oj.dst u h3)
  unfold wpOp at *
  simp only [hj] at *
  rw [wanted_put oj a oi.dst v h1] at h
  split
  · rename_i hw
    simp only [hw, if_true] at h
    rcases h with h | ⟨ha, hl⟩
    case inr => exact .inr ⟨by unfold Oper.asks at *; rw [execOp_put oj hsj a oi.dst v h1] at ha; exact ha, hl⟩
    refine .inl ?_
    unfold Oper.wp at *
    rw [execOp_put oj hsj a oi.dst v h1] at h
    generalize (execOp a.eval oj).run P w = r at *
    cases r with
    | ok x w' =>
      cases x <;> simp only [Oper.upon] at h ⊢
      case value u => exact ⟨keep a hy u, by rw [← Act.put_comm a v u h2]; exact h⟩
      case skip => exact ⟨keep a hy _, by rw [← Act.put_comm a v undef h2]; exact h⟩
      case defer d =>
        refine ⟨keep { a with defers := d :: a.defers } (hy.same rfl rfl) _, ?_⟩
        rw [← Act.put_comm _ v undef h2, ← Act.put_defers]
        exact h
      case enter f args =>
        refine h.mono fun e w'' he => ?_
        cases e with
        | returned u => exact ⟨keep a hy u, by rw [← Act.put_comm a v u h2]; exact he⟩
        | panicked c => exact hQ _ _ _ he
        | outgrown => exact he
      case row row args => exact Rows.mono h fun u w'' he => ⟨keep a hy u, by rw [← Act.put_comm a v u h2]; exact he⟩
    | halt x w' =>
      cases x <;> simp only [Oper.upon] at h ⊢
      case panic u => exact hQ _ _ _ h
  · rename_i hw
    simp only [hw] at h
    exact ⟨keep a hy _, by rw [← Act.put_comm a v undef h2]; exact h⟩
theorem anyI_first {i : Nat} {oi : Oper} {v : Value} (hi : ops[i]? = some oi) (hsel : ∀ (j : Nat) (o : Oper) cs b, ops[j]? = some o → o.op ≠ .select cs b) (hQ : ∀ c a w, Q (.panic c) (a.put oi.dst v) w → Q (.panic c) a w) :
    ∀ (m : Nat) (listed : Array Bool) (a : Act) (w : World),
      (∀ j oj, ops[j]? = some oj → j ≠ i → listed.getD j true = false → (∀ e ∈ oj.after, Region.binds .any e = true → e.on ≠ i) → oi.apart ops oj = true) →
      i ∈ Region.ready .any ops listed → Inv w → YieldsI Inv P ops oi v a → wpAnyI Inv P ops Q m (listed.setIfInBounds i true) (a.put oi.dst v) w → wpAnyI Inv P ops Q (m + 1) listed a w := by
  intro m
  induction m with
  | zero =>
    intro listed a w _ hr hw hy H
    refine ⟨fun h => (by rw [h] at hr; cases hr), fun j hj => ?_⟩
    by_cases hji : j = i
    · subst hji; exact hy.op hi hw ⟨.inr hw, H⟩
    · have := ready_mono hj hji
      rw [H.1] at this
      cases this
  | succ m ih =>
    intro listed a w hfree hr hw hy H
    refine ⟨fun h => (by rw [h] at hr; cases hr), fun j hj => ?_⟩
    by_cases hji : j = i
    · subst hji; exact hy.op hi hw ⟨.inr hw, H⟩
    · have h1 := H.2 j (ready_mono hj hji)
      obtain ⟨hjun, oj, hoj, hall⟩ := mem_ready.1 hj
      have hnot : ∀ e ∈ oj.after, Region.binds .any e = true → e.on ≠ i := fun e he hb heq => by
        have h1 := hall e he hb
        have h0 := (mem_ready.1 hr).1
        rw [heq] at h1
        rcases Nat.lt_or_ge i listed.size with h' | h'
        · simp [h'] at h0 h1; rw [h0] at h1; cases h1
        · simp [Array.getElem?_eq_none h'] at h1
      have h2 := op_putI hoj (hfree j oj hoj hji hjun hnot) (fun cs b => hsel i oi cs b hi) (fun cs b => hsel j oj cs b hoj) hQ hy h1
      have hfree' : ∀ k ok, ops[k]? = some ok → k ≠ i → (listed.setIfInBounds j true).getD k true = false →
          (∀ e ∈ ok.after, Region.binds .any e = true → e.on ≠ i) → oi.apart ops ok = true := fun k ok hk hki hun hno => by
        refine hfree k ok hk hki ?_ hno
        by_cases hjk : j = k
        · subst hjk; exact hjun
        · rw [getD_set_ne true hjk] at hun; exact hun
      have hri : i ∈ Region.ready .any ops (listed.setIfInBounds j true) := ready_mono hr (Ne.symm hji)
      refine wpOp_mono (fun a' w' ⟨hy', hI, hk⟩ => ?_) h2
      have hset : wpAnyI Inv P ops Q m ((listed.setIfInBounds j true).setIfInBounds i true) (a'.put oi.dst v) w' := by
        rw [Array.setIfInBounds_comm _ _ hji]; exact hk
      have hi' := (Array.getElem?_eq_some_iff.1 hi).1
      have hI' : Inv w' := hI.resolve_left (by rw [lastB_not hoj hi' (Ne.symm hji) hnot]; simp)
      exact ⟨.inr hI', ih _ a' w' hfree' hri hI' hy' hset⟩
end
def nQI (Inv : World → Prop) (P : Program) (l : List Oper) (Q : Exit → Act → World → Prop) (fuel i : Nat) (listed : Array Bool) : Exit → Act → World → Prop := Exit.then (fun a w => (lastB l.toArray i = true ∨ Inv w) ∧ wpAnyI Inv P l.toArray Q fuel listed a w) Q
def Nw (Inv : World → Prop) (P : Program) (n : Sz) (l : List Oper) (Q : Exit → Act → World → Prop) (fuel : Nat) (listed : Array Bool) (L : Env) (w : World) : Prop := ∀ a, Fr n a L → wpAnyI Inv P l.toArray Q fuel listed a w
section
variable {Inv : World → Prop} {P : Program} {n : Sz} {l : List Oper} {Q : Exit → Act → World → Prop} {L : Env} {w : World} {y : Code} {fuel : Nat} {m : Nat} {done : List Nat}
theorem W_naiveI [Dr] {id : Nat} (Inv : World → World → Prop) (hm : P.follows .mixedOrders = true) (hl : l.length = m) (h : ∀ w', Ext w w' → Nw (Inv w') P n l Q m (lst m []) L w') : W P n (.region id l.toArray true) Q L w := fun a fr => by
  refine wp_region_any hm ?_
  have := wpAnyI_any _ _ _ _ (h _ drawn_world a fr)
  subst hl
  simpa [lst] using this
theorem NI_op {i : Nat} {o : Oper} (ho : nthO l i = some o) (h : S P n l.toArray (nQI Inv P l Q fuel i (lst m (i :: done))) [o] L w) :
    ∀ a, Fr n a L → wpOp P l.toArray Q i (fun a' w' => (lastB l.toArray i = true ∨ Inv w') ∧ wpAnyI Inv P l.toArray Q fuel ((lst m done).setIfInBounds i true) a' w') a w :=
  fun a fr => wpOp_of_S ho (h a fr) (fun e a w hne he => by cases e <;> first | exact absurd rfl hne | exact he)
theorem anyI_all {rs : List Nat} {listed : Array Bool} {a : Act} (hr : Region.ready .any l.toArray listed = rs) (hne : rs ≠ [])
    (h : ∀ i ∈ rs, wpOp P l.toArray Q i (fun a' w' => (lastB l.toArray i = true ∨ Inv w') ∧ wpAnyI Inv P l.toArray Q fuel (listed.setIfInBounds i true) a' w') a w) : wpAnyI Inv P l.toArray Q (fuel + 1) listed a w :=
  ⟨fun e => by rw [hr] at e; exact absurd e hne, fun i hi => h i (by rw [← hr]; exact hi)⟩
theorem NI1 {i : Nat} {o : Oper} (hr : Region.ready .any l.toArray (lst m done) = [i]) (ho : nthO l i = some o) (h : S P n l.toArray (nQI Inv P l Q fuel i (lst m (i :: done))) [o] L w) : Nw Inv P n l Q (fuel + 1) (lst m done) L w :=
  fun a fr => anyI_all hr (by simp) fun k hk => by
    obtain rfl : k = i := by simpa using hk
    exact NI_op ho h a fr
theorem NI2 {i j : Nat} {o p : Oper} (hr : Region.ready .any l.toArray (lst m done) = [i, j]) (ho : nthO l i = some o) (hp : nthO l j = some p) (h : S P n l.toArray (nQI Inv P l Q fuel i (lst m (i :: done))) [o] L w) (h' : S P n l.toArray (nQI Inv P l Q fuel j (lst m (j :: done))) [p] L w) : Nw Inv P n l Q (fuel + 1) (lst m done) L w :=
  fun a fr => anyI_all hr (by simp) fun k hk => by
    have hk' : k = i ∨ k = j := by simpa using hk
    rcases hk' with rfl | rfl
    · exact NI_op ho h a fr
    · exact NI_op hp h' a fr
theorem NI_nil {i : Nat} (hI : Inv w) (h : Nw Inv P n l Q fuel (lst m done) L w) : S P n l.toArray (nQI Inv P l Q fuel i (lst m done)) [] L w := fun a fr => ⟨.inr hI, h a fr⟩
theorem NI_last {i : Nat} (hl : lastB l.toArray i = true) (h : Nw Inv P n l Q fuel (lst m done) L w) : S P n l.toArray (nQI Inv P l Q fuel i (lst m done)) [] L w := fun a fr => ⟨.inl hl, h a fr⟩
theorem NI_end (hr : Region.ready .any l.toArray (lst m done) = []) (h : At n Q .normal L w) : Nw Inv P n l Q 0 (lst m done) L w := fun a fr => ⟨hr, h a fr⟩
variable {d : Nat} {op : Op} {ty : TypeId} {pos : String} {af : Array Edge}
theorem NI_hoist [Dr] (i : Nat) {v : Value} (hq : NoPanic Q) (hI : Inv w) (hc : hoistB l m done i = true) (ho : nthO l i = some ⟨some d, op, ty, pos, af, none⟩) (hr : ∀ w, Inv w → RunsAt P L w op ty v) (hn : Nat.blt d n.n = true)
    (h : Nw Inv P n l Q fuel (lst m (i :: done)) ((d, v) :: L) w) : Nw Inv P n l Q (fuel + 1) (lst m done) L w := fun a fr => by
  simp only [hoistB, Bool.and_eq_true] at hc
  obtain ⟨⟨h1, h2⟩, h3⟩ := hc
  have ho' : l.toArray[i]? = some ⟨some d, op, ty, pos, af, none⟩ := by rw [nthO_eq] at ho; simpa using ho
  exact anyI_first (v := v) ho' (Region.noSelect_spec h1) (fun c a w k => hq c a _ _ w k) _ _ a w (Region.free_spec ho' h2) (by simpa using h3) hI
    (.inl ⟨by simp [Region.wanted], fun w' hw' => hr w' hw' w' (Ext.refl _) _ fr.rho _ _ _ _⟩) (h _ (fr.put hn))
/-- A variable as it lies in the heap. -/
theorem box_at {w : World} {b : Nat} {cs : List Value} {t : TypeId} (h : w.heap[b]? = some (.cells cs.toArray t (0, 0))) : PtrTo (hp w) ⟨b, 0, none⟩ cs :=
  ⟨rfl, fun j u hu => by
    show cellP (hp w) (Addr.add ⟨b, 0, none⟩ j) = some u
    simp only [Addr.add_lit, cellP, hp, h]
    simpa using hu⟩
theorem r_loadHN [Dr] {b : Nat} {cs : List Value} {t t' : TypeId} {x : Operand} {dd : TypeDesc} {zz : Value} {bt : Nat} (hx : ev L x = some (.pointer (some ⟨b, 0, none⟩))) (ht : P.underlying t = some dd) (hd : aggT dd = true) (hz : Zr P t zz cs.length bt) (h : w.heap[b]? = some (.cells cs.toArray t' (0, 0))) : RunsAt P L w (.load t x) ty (.agg cs.toArray) :=
  r_loadN hx ht hd hz (box_at h) (Le.refl _)
end
end Go.E
namespace Go.E
open Go Go.RowKit
section
variable {P : Program} {L : Env} {w w0 : World} {O : List Res} {x y : Operand} {ty t t' e src dst u T : TypeId} {b : Nat} {cs : List Value}
end
/-- What the builder's first field holds. -/
def BAd (b : Nat) (v : Value) : Prop := v = .pointer none ∨ v = .pointer (some ⟨b, 0, none⟩)
theorem BAd.one {b : Nat} {v : Value} (h : BAd b v) : v.oneCell' = true := by rcases h with rfl | rfl <;> rfl
section
variable {P : Program} {n : Sz} {ops : Array Oper} {Q : Exit → Act → World → Prop} {L : Env} {w w0 : World} {O : List Res} {rest : List Oper} {d : Nat} {ty pt it e : TypeId} {pos : String} {af : Array Edge} {x y : Operand} {H : PH}
end
end Go.E
end
section
namespace Go.L
/-- A plain value as a tree: kind, number, bytes, names, parts. -/
inductive Pv where
  | mk (kind number : Int) (bytes : List UInt8) (names : List (List UInt8)) (parts : List Pv)
instance : Inhabited Pv := ⟨.mk 0 0 [] [] []⟩
abbrev PvF : Type := Int × Int × List UInt8 × List (List UInt8) × List Pv
def Pv.f : Pv → PvF
  | .mk k n b ns ps => (k, n, b, ns, ps)
end Go.L
namespace Go.E
open Go Go.L
variable {α β : Type}
/-- A way of lying in cells, turned along a map. -/
def Rp.via (r : Rp β) (f : α → β) : Rp α := ⟨r.sz, fun H x c => r.rel H (f x) c, fun h => r.len h, fun hs h => r.mono hs h, fun h => r.one h⟩
/-- Nothing lies so. -/
def Rp.no (α : Type) (n : Nat) : Rp α := ⟨n, fun _ _ _ => False, fun h => h.elim, fun _ h => h, fun h => h.elim⟩
theorem Vec.of_rel {r s : Rp α} {H : PH} {v : Value} {l : List α} (hz : r.sz = s.sz) (h : Vec r H v l) (hrel : ∀ x ∈ l, ∀ c, r.rel H x c → s.rel H x c) : Vec s H v l := by
  obtain ⟨a, cap, h1, h2, h3, h4, h5⟩ := h.ex
  refine ⟨a, cap, h1, h2, h3, h4, fun A hA hl => ?_⟩
  obtain ⟨h6, h7⟩ := h5 A hA hl
  refine ⟨h6, fun i x hx => ?_⟩
  obtain ⟨c, hc, hcell⟩ := h7 i x hx
  exact ⟨c, hrel x (List.mem_of_getElem? hx) c hc, fun j u hu => by rw [← hz]; exact hcell j u hu⟩
/-- The fields of a value, its parts lying as r says. -/
def Rp.fields (r : Rp Pv) : Rp PvF := .pair (.int .i64) (.pair (.int .i64) (.pair (.vec .byte) (.pair (.vec .st) (.vec r))))
/-- Values of at most that depth. -/
def Rp.treeD : Nat → Rp Pv
  | 0 => .no Pv 5
  | d + 1 => (Rp.fields (Rp.treeD d)).via Pv.f
theorem Rp.treeD_sz : ∀ d, (Rp.treeD d).sz = 5
  | 0 => rfl
  | _ + 1 => rfl
theorem Rp.fields_of {r s : Rp Pv} {H : PH} {x : PvF} {c : List Value} (hz : r.sz = s.sz) (hrel : ∀ y ∈ x.2.2.2.2, ∀ c, r.rel H y c → s.rel H y c) (h : (Rp.fields r).rel H x c) : (Rp.fields s).rel H x c := by
  obtain ⟨c1, c2, e1, h1, c3, c4, e2, h2, c5, c6, e3, h3, c7, c8, e4, h4, v, e5, h5⟩ := h
  exact ⟨c1, c2, e1, h1, c3, c4, e2, h2, c5, c6, e3, h3, c7, c8, e4, h4, v, e5, h5.of_rel hz hrel⟩
theorem Rp.treeD_succ {H : PH} : ∀ (d : Nat) (x : Pv) (c : List Value), (Rp.treeD d).rel H x c → (Rp.treeD (d + 1)).rel H x c
  | 0, _, _, h => h.elim
  | d + 1, x, c, h => Rp.fields_of (r := Rp.treeD d) (s := Rp.treeD (d + 1)) (by rw [Rp.treeD_sz, Rp.treeD_sz]) (fun y _ c h => Rp.treeD_succ d y c h) h
theorem Rp.treeD_le {H : PH} {d e : Nat} (h : d ≤ e) {x : Pv} {c : List Value} (hx : (Rp.treeD d).rel H x c) : (Rp.treeD e).rel H x c := by
  induction h with
  | refl => exact hx
  | step _ ih => exact Rp.treeD_succ _ _ _ ih
/-- A value of any depth. -/
def Rp.tree : Rp Pv := ⟨5, fun H x c => ∃ d, (Rp.treeD d).rel H x c, fun h => by obtain ⟨d, h⟩ := h; rw [(Rp.treeD d).len h, Rp.treeD_sz], fun hs h => by obtain ⟨d, h⟩ := h; exact ⟨d, (Rp.treeD d).mono hs h⟩, fun h => by obtain ⟨d, h⟩ := h; exact (Rp.treeD d).one h⟩
/-- The fields of a value in its cells. -/
theorem Rp.tree_open {H : PH} {x : Pv} {c : List Value} (h : Rp.tree.rel H x c) : (Rp.fields Rp.tree).rel H x.f c := by
  obtain ⟨d, h⟩ := h
  cases d with
  | zero => exact h.elim
  | succ d => exact Rp.fields_of (r := Rp.treeD d) (s := Rp.tree) (Rp.treeD_sz d) (fun y _ c h => ⟨d, h⟩) h
/-- Values in a slice have a common bound of depth. -/
theorem Vec.bound {H : PH} {v : Value} {l : List Pv} (h : Vec Rp.tree H v l) : ∃ d, Vec (Rp.treeD d) H v l := by
  obtain ⟨a, cap, h1, h2, h3, h4, h5⟩ := h.ex
  cases a with
  | none => exact ⟨0, none, cap, h1, h2, h3, h4, fun A hA => by cases hA⟩
  | some A =>
    have key : ∀ n, ∃ d, ∀ i x, i < n → l ≠ [] → l[i]? = some x → ∃ c, (Rp.treeD d).rel H x c ∧ ∀ j u, c[j]? = some u → cellP H (A.add (i * 5 + j)) = some u := by
      intro n
      induction n with
      | zero => exact ⟨0, fun i x hi => absurd hi (Nat.not_lt_zero i)⟩
      | succ n ih =>
        obtain ⟨d, hd⟩ := ih
        by_cases hl : l = []
        · exact ⟨0, fun i x _ hn => absurd hl hn⟩
        cases hx : l[n]? with
        | none =>
          refine ⟨d, fun i x hi hn he => ?_⟩
          rcases Nat.lt_succ_iff_lt_or_eq.1 hi with hi | rfl
          · exact hd i x hi hn he
          · rw [hx] at he
            cases he
        | some y =>
          obtain ⟨c, ⟨e, hc⟩, hcell⟩ := (h5 A rfl hl).2 n y hx
          refine ⟨max d e, fun i x hi hn he => ?_⟩
          rcases Nat.lt_succ_iff_lt_or_eq.1 hi with hi | rfl
          · obtain ⟨c', k1, k2⟩ := hd i x hi hn he
            exact ⟨c', Rp.treeD_le (Nat.le_max_left ..) k1, k2⟩
          · rw [hx] at he
            cases he
            exact ⟨c, Rp.treeD_le (Nat.le_max_right ..) hc, hcell⟩
    obtain ⟨d, hd⟩ := key l.length
    refine ⟨d, some A, cap, h1, h2, h3, h4, fun B hB hl => ?_⟩
    cases hB
    refine ⟨(h5 A rfl hl).1, fun i x hx => ?_⟩
    rw [Rp.treeD_sz]
    exact hd i x (List.getElem?_eq_some_iff.1 hx).1 hl hx
/-- Cells with the fields of a value hold the value. -/
theorem Rp.tree_close {H : PH} {x : Pv} {c : List Value} (h : (Rp.fields Rp.tree).rel H x.f c) : Rp.tree.rel H x c := by
  obtain ⟨c1, c2, e1, h1, c3, c4, e2, h2, c5, c6, e3, h3, c7, c8, e4, h4, v, e5, h5⟩ := h
  obtain ⟨d, hd⟩ := h5.bound
  exact ⟨d + 1, c1, c2, e1, h1, c3, c4, e2, h2, c5, c6, e3, h3, c7, c8, e4, h4, v, e5, hd⟩
end Go.E
namespace Go.E
open Go Go.RowKit
def encLf (h : List UInt8 × Int × Int × List UInt8) : Value := .agg #[.string ⟨h.1.toArray⟩, .int .i64 h.2.1, .int .i64 h.2.2.1, .string ⟨h.2.2.2.toArray⟩]
theorem keyOk_lf {P : Program} {kt : TypeId} {fs : Array Field} (hd : P.underlying kt = some (.struct fs)) (hc : ∀ (b : Bool) (s m : List UInt8) (x y : Int) w, (Instr.checkKey b 10000 kt (.agg #[.string ⟨s.toArray⟩, .int .i64 x, .int .i64 y, .string ⟨m.toArray⟩])).run P w = .ok () w)
    (he : ∀ (s s' m m' : List UInt8) (x x' y y' : Int) w, (Op.equalIn 10000 kt (.agg #[.string ⟨s.toArray⟩, .int .i64 x, .int .i64 y, .string ⟨m.toArray⟩]) (.agg #[.string ⟨s'.toArray⟩, .int .i64 x', .int .i64 y', .string ⟨m'.toArray⟩])).run P w = .ok (decide (s = s' ∧ x = x' ∧ y = y' ∧ m = m')) w) : KeyOk P kt encLf :=
  ⟨fun b k w => hc b k.1 k.2.2.2 k.2.1 k.2.2.1 w,
    fun k => by
      obtain ⟨d, he⟩ : ∃ d, 10000 = d + 1 := ⟨9999, rfl⟩
      rw [he]
      cases d <;> simp [Instr.sameBits, encLf, ba_eq],
    ⟨_, hd, .inr ⟨fun a b => rfl, fun a b w => by
      obtain ⟨a1, a2, a3, a4⟩ := a
      obtain ⟨b1, b2, b3, b4⟩ := b
      have := he a1 b1 a4 b4 a2 b2 a3 b3 w
      unfold Op.equal
      rw [show Op.maxDepth = 10000 from rfl]
      simp only [encLf]
      rw [this]
      congr 1
      rw [Bool.eq_iff_iff]
      simp⟩⟩⟩
section
variable {P : Program} {L : Env} {w : World} {t t' ty : TypeId} {x y : Operand}
theorem r_shlVu [Dr] {a c : Int} {k' : IntKind} (hx : ev L x = some (.int .u64 a)) (hy : ev L y = some (.int k' c)) (hc : 0 ≤ c ∧ c ≤ 63) : RunsAt P L w (.binOp .shl t x y t') ty (.int .u64 (IntKind.u64.wrap (a * 2 ^ c.toNat))) := by
  obtain ⟨m, rfl⟩ := Int.eq_ofNat_of_zero_le hc.1
  rw [Int.toNat_natCast]
  exact r_shl hx hy rfl (by simp [IntKind.bits]; omega) rfl
theorem wrapU64 {v : Nat} (h : v < 2 ^ 64) : IntKind.u64.wrap (v : Int) = (v : Int) := by
  simp only [IntKind.wrap]
  simp [IntKind.bits, IntKind.signed] <;> omega
theorem r_bitU [Dr] {op : BinOp} {c : Nat} {p q : Int} (hx : ev L x = some (.int .u64 p)) (hy : ev L y = some (.int .u64 q)) (ho : bitN op p.toNat q.toNat = some c) (h : (0 ≤ p ∧ p < 2 ^ 64) ∧ (0 ≤ q ∧ q < 2 ^ 64)) : RunsAt P L w (.binOp op t x y t') ty (.int .u64 (c : Int)) := by
  intro w' _ ρ hρ dst pos af g
  obtain ⟨a, rfl⟩ := Int.eq_ofNat_of_zero_le h.1.1
  obtain ⟨b, rfl⟩ := Int.eq_ofNat_of_zero_le h.2.1
  rw [Int.toNat_natCast, Int.toNat_natCast] at ho
  have ha : a < 2 ^ 64 := by omega
  have hb : b < 2 ^ 64 := by omega
  have ea : (BitVec.ofInt 64 (a : Int)).toNat = a := by simp; omega
  have eb : (BitVec.ofInt 64 (b : Int)).toNat = b := by simp; omega
  cases op <;> simp only [bitN, Option.some.injEq, reduceCtorEq] at ho <;> subst ho
  · have e : (Op.intBits .and .u64 (a : Int) (b : Int)).run P w' = .ok (.int .u64 ((a &&& b : Nat) : Int)) w' := by
      show Result.ok (Value.int .u64 (IntKind.u64.wrap ((BitVec.ofInt 64 (a : Int) &&& BitVec.ofInt 64 (b : Int)).toNat : Int))) w' = _
      rw [BitVec.toNat_and, ea, eb, wrapU64 (Nat.and_lt_two_pow _ hb)]
    simp only [execOp, hρ x _ hx, hρ y _ hy, eqGuard, binOp, Sem.run_bind, ne_eq, not_true_eq_false, if_false, Bool.not_false, if_true, Sem.run_pure, Result.andThen_ok, e]
  · have e : (Op.intBits .or .u64 (a : Int) (b : Int)).run P w' = .ok (.int .u64 ((a ||| b : Nat) : Int)) w' := by
      show Result.ok (Value.int .u64 (IntKind.u64.wrap ((BitVec.ofInt 64 (a : Int) ||| BitVec.ofInt 64 (b : Int)).toNat : Int))) w' = _
      rw [BitVec.toNat_or, ea, eb, wrapU64 (Nat.or_lt_two_pow ha hb)]
    simp only [execOp, hρ x _ hx, hρ y _ hy, eqGuard, binOp, Sem.run_bind, ne_eq, not_true_eq_false, if_false, Bool.not_false, if_true, Sem.run_pure, Result.andThen_ok, e]
  · have e : (Op.intBits .xor .u64 (a : Int) (b : Int)).run P w' = .ok (.int .u64 ((a ^^^ b : Nat) : Int)) w' := by
      show Result.ok (Value.int .u64 (IntKind.u64.wrap ((BitVec.ofInt 64 (a : Int) ^^^ BitVec.ofInt 64 (b : Int)).toNat : Int))) w' = _
      rw [BitVec.toNat_xor, ea, eb, wrapU64 (Nat.xor_lt_two_pow ha hb)]
    simp only [execOp, hρ x _ hx, hρ y _ hy, eqGuard, binOp, Sem.run_bind, ne_eq, not_true_eq_false, if_false, Bool.not_false, if_true, Sem.run_pure, Result.andThen_ok, e]
end
end Go.E
end
section
namespace Go.E
open Go Go.RowKit
section
variable {P : Program} {L : Env} {w : World} {t ty : TypeId} {x a b : Operand} {l : List UInt8} {k k' : IntKind} {i j : Int}
theorem ba_extract (l : List UInt8) (a b : Nat) : (⟨l.toArray⟩ : ByteArray).extract a b = ⟨((l.drop a).take (b - a)).toArray⟩ := by
  apply ByteArray.ext
  rw [ByteArray.data_extract]
  simp [List.extract_eq_take_drop]
theorem r_ssl [Dr] {lo hi : Option Operand} (hx : ev L x = some (.string ⟨l.toArray⟩)) (ht : P.underlying t = some .string) (a b : Nat) (ha : loB L lo a) (hb : hiB L hi b l.length) (h1 : a ≤ b) (h2 : b ≤ l.length) :
    RunsAt P L w (.slice t x lo hi none) ty (.string ⟨((l.drop a).take (b - a)).toArray⟩) := by
  intro w' _ ρ hρ dst pos af g
  have hs : (ByteArray.mk l.toArray).size = l.length := by simp [ByteArray.size]
  have e3 : (a : Int) ≤ (b : Int) := by omega
  have e4 : (b : Int) ≤ (l.length : Int) := by omega
  have e5 : (a : Int) ≤ (l.length : Int) := by omega
  cases lo with
  | none =>
    simp only [loB] at ha
    subst ha
    cases hi with
    | none =>
      simp only [hiB] at hb
      subst hb
      simp [execOp, hρ x _ hx, Instr.sliceAt, run_underlying ht, Instr.slice, Instr.sliceBounds, hs, ba_extract]
    | some o2 =>
      obtain ⟨k2, hb⟩ := hb
      simp [execOp, hρ x _ hx, hρ o2 _ hb, Instr.sliceAt, run_underlying ht, Instr.slice, Instr.sliceBounds, Instr.sliceBound, asIntOf, hs, h2, ba_extract]
  | some o1 =>
    obtain ⟨k1, ha⟩ := ha
    cases hi with
    | none =>
      simp only [hiB] at hb
      subst hb
      simp [execOp, hρ x _ hx, hρ o1 _ ha, Instr.sliceAt, run_underlying ht, Instr.slice, Instr.sliceBounds, Instr.sliceBound, asIntOf, hs, h1, ba_extract]
    | some o2 =>
      obtain ⟨k2, hb⟩ := hb
      simp [execOp, hρ x _ hx, hρ o1 _ ha, hρ o2 _ hb, Instr.sliceAt, run_underlying ht, Instr.slice, Instr.sliceBounds, Instr.sliceBound, asIntOf, hs, h1, h2, ba_extract]
theorem r_sslB [Dr] (hx : ev L x = some (.string ⟨l.toArray⟩)) (ha : ev L a = some (.int k i)) (hb : ev L b = some (.int k' j)) (ht : P.underlying t = some .string) (hc : 0 ≤ i ∧ i ≤ j ∧ j ≤ (l.length : Int)) :
    RunsAt P L w (.slice t x (some a) (some b) none) ty (.string ⟨((l.drop i.toNat).take (j.toNat - i.toNat)).toArray⟩) :=
  r_ssl hx ht i.toNat j.toNat ⟨k, by rw [Int.toNat_of_nonneg (by omega)]; exact ha⟩ ⟨k', by rw [Int.toNat_of_nonneg (by omega)]; exact hb⟩ (by omega) (by omega)
theorem r_sslL [Dr] (hx : ev L x = some (.string ⟨l.toArray⟩)) (ha : ev L a = some (.int k i)) (ht : P.underlying t = some .string) (hc : 0 ≤ i ∧ i ≤ (l.length : Int)) :
    RunsAt P L w (.slice t x (some a) none none) ty (.string ⟨(l.drop i.toNat).toArray⟩) := by
  have := r_ssl (P := P) (w := w) (ty := ty) hx ht i.toNat l.length (lo := some a) (hi := none) ⟨k, by rw [Int.toNat_of_nonneg (by omega)]; exact ha⟩ rfl (by omega) (by omega)
  rwa [List.take_of_length_le (by simp)] at this
end
section
variable {P : Program} {n : Sz} {Q : Exit → Act → World → Prop} {L : Env} {w w0 : World} {O : List Res} {lop : List Oper} {ix : Nat} {tr : Tr}
  {d : Nat} {ty : TypeId} {pos : String} {af : Array Edge} {α : Type} {r : Rp α} {x a b : Operand} {v : Value} {t t' e : TypeId} {H : PH} {l : List α} {k k' : IntKind} {i j : Int} {zz : Value} {bt : Nat} {jg sg : Nat} {want bb : Bool} {oj : Oper}
theorem D_sliceg [Dr] {lo hi : Option Operand} (ho : nthO lop ix = some ⟨some d, .slice t x lo hi none, ty, pos, af, some (jg, want)⟩) (hj : nthO lop jg = some oj) (hd : oj.dst = some sg) (hg : gt L sg = some (.bool bb)) (hw : bb = want) (hx : ev L x = some v) (ht : P.underlying t = some (.slice e)) (he : Zr P e zz r.sz bt) (hv : Vec r H v l) (a b : Nat)
    (ha : loB L lo a) (hb : hiB L hi b l.length) (hab : a ≤ b ∧ b ≤ l.length) (hn : Nat.blt d n.n = true)
    (h : ∀ v', Vec r H v' ((l.drop a).take (b - a)) → D P n lop Q tr ((d, v') :: L) w) : D P n lop Q (.q ix tr) L w := by
  obtain ⟨v', h1, h2⟩ := r_slice (P := P) (ty := ty) hx ht he hv a b ha hb hab.1 hab.2
  exact D_vg (h2 w) ho hj hd hg hw hn (h v' h1)
theorem D_sliceLg [Dr] (ho : nthO lop ix = some ⟨some d, .slice t x (some a) none none, ty, pos, af, some (jg, want)⟩) (hj : nthO lop jg = some oj) (hd : oj.dst = some sg) (hg : gt L sg = some (.bool bb)) (hw : bb = want) (hx : ev L x = some v) (ha : ev L a = some (.int k i)) (ht : P.underlying t = some (.slice e)) (he : Zr P e zz r.sz bt) (hv : Vec r H v l) (hc : 0 ≤ i ∧ i ≤ (l.length : Int)) (hn : Nat.blt d n.n = true)
    (h : ∀ v', Vec r H v' (l.drop i.toNat) → D P n lop Q tr ((d, v') :: L) w) : D P n lop Q (.q ix tr) L w :=
  D_sliceg ho hj hd hg hw hx ht he hv i.toNat l.length ⟨k, by rw [Int.toNat_of_nonneg (by omega)]; exact ha⟩ rfl (by omega) hn fun v' h' => h v' (by rwa [List.take_of_length_le (by simp)] at h')
/-- A string becomes bytes, in its place. -/
theorem D_s2b [Dr] {l : List UInt8} {u : TypeDesc} (ho : nthO lop ix = some ⟨some d, .convert t' t x, ty, pos, af, none⟩) (hx : ev L x = some (.string ⟨l.toArray⟩)) (ht : P.underlying t' = some u) (ht' : P.underlying t = some (.slice e)) (he : P.underlying e = some (.int .u8)) (hn : Nat.blt d n.n = true) (hL : Lcl w0 O w) (hl : l.length ≤ 9223372036854775807)
    (h : ∀ v w', Ext w w' → Lcl w0 O w' → Le (fz w O) (fz w' O) → Vec .byte (gz H w0 w' O) v l → D P n lop Q tr ((d, v) :: L) w') : D P n lop Q (.h ix tr) L w := by
  have hs : (ByteArray.mk l.toArray).size = l.length := by simp [ByteArray.size]
  refine D_hop (R := fun w1 u w' => u = .slice (some ⟨w1.heap.size, 0, none⟩) l.length (grownCap w1 l.length 0 e) ∧ w' = Lib.bytesWorld w1 e ⟨l.toArray⟩) ho hn (fun w1 hx1 ρ hρ => ?_) (fun w1 u w' hx1 hx2 hR => ?_)
  · have := Lib.run_convert_string_bytes (P := P) w1 t' t e ⟨l.toArray⟩ ht ht' he
    rw [hs] at this
    exact ⟨_, _, by simp [execOp, hρ x _ hx, this], (bytes_vec w1 e hl).1, rfl, rfl⟩
  · obtain ⟨rfl, rfl⟩ := hR
    obtain ⟨h1, h2⟩ := bytes_vec w1 e hl
    have hL1 := hL.call hx1
    exact h _ _ (hx1.trans h1) (hL1.call h1) ((fz_ext hL hx1).trans (fz_ext hL1 h1)) (h2.mono (gz_new hL1))
end
section
variable {P : Program} {n : Sz} {ops : Array Oper} {Q : Exit → Act → World → Prop} {L : Env} {w w0 : World} {O : List Res} {l : List Oper} {i : Nat} {t : Tr} {rest : List Oper}
  {d : Nat} {ty : TypeId} {pos : String} {af : Array Edge} {f : FuncId} {args : List Operand} {vs : List Value} {at_ : Array TypeId} {fo : Operand}
theorem S_callwL [Dr] {R : Value → World → Prop} (hf : ev L fo = some (.func (.func f) #[] #[])) (ha : evl L args = some vs) (hn : Nat.blt d n.n = true) (hL : Lcl w0 O w) (hok : Ok P f vs w (fun v w' => Ext w w' ∧ R v w'))
    (h : ∀ v w', R v w' → Ext w w' → Lcl w0 O w' → Le (fz w O) (fz w' O) → S P n ops Q rest ((d, v) :: L) w') : S P n ops Q (⟨some d, .call ⟨.value fo, args.toArray, at_⟩, ty, pos, af, none⟩ :: rest) L w :=
  S_callv (cap := []) (R := fun v w' => Ext w w' ∧ R v w') hf ha hn (by rw [List.append_nil]; exact hok) fun v w' hh => h v w' hh.2 hh.1 (hL.call hh.1) (fz_ext hL hh.1)
end
end Go.E
namespace Go.E
open Go
/-- What is laid into a new slice, by its cells alone. -/
theorem fill_congr (place : Nat → Option (Nat × Nat)) : ∀ (l m : List (Nat × Value)) (cells : Array Value), l.map (fun p => (p.1, p.2.cells)) = m.map (fun p => (p.1, p.2.cells)) → Instr.fill place cells l = Instr.fill place cells m
  | [], [], _, _ => rfl
  | [], _ :: _, _, h => by cases h
  | _ :: _, [], _, h => by cases h
  | (i, v) :: l, (j, u) :: m, cells, h => by
    simp only [List.map_cons, List.cons.injEq, Prod.mk.injEq] at h
    obtain ⟨⟨rfl, h1⟩, h2⟩ := h
    unfold Instr.fill
    rw [h1]
    split
    · rfl
    · split
      · rfl
      · exact fill_congr place l m _ h2
theorem bs_congr {P : Program} {t : TypeId} {n : Nat} {ps qs : Array (Nat × Value)} {w : World} (h : ps.toList.map (fun p => (p.1, p.2.cells)) = qs.toList.map (fun p => (p.1, p.2.cells))) : (Instr.buildSlice t n ps).run P w = (Instr.buildSlice t n qs).run P w := by
  unfold Instr.buildSlice
  simp only [fill_congr _ _ _ _ h]
theorem one_cells {v : Value} (h : v.oneCell' = true) : v.cells = (Value.agg #[v]).cells := by
  cases v <;> first | rfl | cases h
end Go.E
namespace Go.E
open Go
/-- Four fields: a string, two ints, a string. -/
theorem eq_lf {P : Program} {t : TypeId} {f0 f1 f2 f3 : Field} {k1 k2 : IntKind} (ht : P.underlying t = some (.struct (P.fieldsOf t))) (hp : P.stoodInHeld t = false) (hf : (P.fieldsOf t).toList = [f0, f1, f2, f3]) (h0 : f0.name ≠ "_" ∧ f0.offset = 0) (h1 : f1.name ≠ "_" ∧ f1.offset = 1) (h2 : f2.name ≠ "_" ∧ f2.offset = 2) (h3 : f3.name ≠ "_" ∧ f3.offset = 3)
    (u0 : P.underlying f0.type = some .string) (u1 : P.underlying f1.type = some (.int k1)) (u2 : P.underlying f2.type = some (.int k2)) (u3 : P.underlying f3.type = some .string) (s m : List UInt8) (a b : Int) (s2 m2 : List UInt8) (c e : Int) (w : World) :
    (Op.equalIn 10000 t (.agg #[.string ⟨s.toArray⟩, .int k1 a, .int k2 b, .string ⟨m.toArray⟩]) (.agg #[.string ⟨s2.toArray⟩, .int k1 c, .int k2 e, .string ⟨m2.toArray⟩])).run P w = .ok (decide (s = s2 ∧ a = c ∧ b = e ∧ m = m2)) w := by
  rw [run_equalIn_struct w 9999 t _ _ ht hp, hf]
  have hs : ∀ (dd : Nat) (s m : List UInt8), (Op.equalIn (dd + 1) f0.type (.string ⟨s.toArray⟩) (.string ⟨m.toArray⟩)).run P w = .ok (decide (s = m)) w := fun dd s m => by
    simp [Op.equalIn, run_underlying u0, ba_eq]
  have hs3 : ∀ (dd : Nat) (s m : List UInt8), (Op.equalIn (dd + 1) f3.type (.string ⟨s.toArray⟩) (.string ⟨m.toArray⟩)).run P w = .ok (decide (s = m)) w := fun dd s m => by
    simp [Op.equalIn, run_underlying u3, ba_eq]
  have key : ∀ dd : Nat, (Op.eqFields (dd + 1) #[.string ⟨s.toArray⟩, .int k1 a, .int k2 b, .string ⟨m.toArray⟩] #[.string ⟨s2.toArray⟩, .int k1 c, .int k2 e, .string ⟨m2.toArray⟩] [f0, f1, f2, f3]).run P w = .ok (decide (s = s2 ∧ a = c ∧ b = e ∧ m = m2)) w := by
    intro dd
    by_cases e0 : s = s2 <;> by_cases e1 : a = c <;> by_cases e2 : b = e <;> by_cases e3 : m = m2 <;>
      simp [Op.eqFields, h0.1, h1.1, h2.1, h3.1, h0.2, h1.2, h2.2, h3.2, part, isAgg, run_underlying u0, run_underlying u1, run_underlying u2, run_underlying u3, hs, hs3, run_equalIn_int w dd _ _ _ _ _ u1, run_equalIn_int w dd _ _ _ _ _ u2, e0, e1, e2, e3]
  exact key 9998
end Go.E
namespace Go.E
open Go Go.RowKit
section
variable {P : Program} {n : Sz} {ops : Array Oper} {Q : Exit → Act → World → Prop} {L : Env} {w w0 : World} {O : List Res} {rest : List Oper}
  {ty : TypeId} {pos : String} {af : Array Edge} {α : Type} {r : Rp α} {x y : Operand} {u v : Value} {t e : TypeId} {H : PH}
end
end Go.E
end
section
namespace Go.L
/-- A rune as a string. -/
def runeS (r : Int) : List UInt8 := (Go.Utf8.encode r).data.toList
/-- The rune at a position, and its width. -/
def rdec (l : List UInt8) (p : Nat) : Nat × Nat := Go.Utf8.decode ⟨l.toArray⟩ p
/-- An entry for a key is there. -/
def mtouch {κ α : Type} [DecidableEq κ] (k : κ) (l : List (κ × List α)) : List (κ × List α) := mput k (mget [] k l) l
end Go.L
namespace Go.E
open Go Go.RowKit
section
variable {P : Program} {n : Sz} {ops : Array Oper} {Q : Exit → Act → World → Prop} {L : Env} {w w0 : World} {O : List Res} {rest : List Oper} {d : Nat} {ty t t' : TypeId} {pos : String} {af : Array Edge} {x y x' : Operand} {l : List UInt8}
theorem r_i2s [Dr] {a : Int} (hx : ev L x = some (.int .i32 a)) (ht : P.underlying t = some (.int .i32)) (ht' : P.underlying t' = some .string) : RunsAt P L w (.convert t t' x) ty (.string ⟨(Go.L.runeS a).toArray⟩) := by
  intro w' _ ρ hρ dst pos af g
  have e : (⟨(Go.L.runeS a).toArray⟩ : ByteArray) = Utf8.encode a := by unfold Go.L.runeS; rw [Array.toArray_toList]
  rw [e]
  simp [execOp, hρ x _ hx, convert, run_underlying ht, run_underlying ht', Conv.intToString]
/-- 'range' over a string. -/
theorem S_rangeS [Dr] (hx : ev L x = some (.string ⟨l.toArray⟩)) (ht : P.underlying t = some .string) (hn : Nat.blt d n.n = true) (hL : Lcl w0 O w)
    (h : ∀ w' b, Lcl w0 (.obj b (.stringIter ⟨l.toArray⟩ 0) :: O) w' → Le (fz w O) (fz w' (.obj b (.stringIter ⟨l.toArray⟩ 0) :: O)) → S P n ops Q rest ((d, .pointer (some ⟨b, 0, none⟩)) :: L) w') : S P n ops Q (⟨some d, .range t x, ty, pos, af, none⟩ :: rest) L w := by
  have hb : ∀ b, (Res.obj w.heap.size (.stringIter ⟨l.toArray⟩ 0)).block = some b → w.heap.size ≤ b := fun b e => by cases e; exact Nat.le_refl _
  refine S_value (v := .pointer (some ⟨w.heap.size, 0, none⟩)) (w' := w.alloc (.stringIter ⟨l.toArray⟩ 0)) rfl rfl hn (fun ρ hρ => ?_) (h _ _ (hL.new (ext_alloc w _) (World.alloc_heap_new w _) hb) (fz_new hL (ext_alloc w _) hb))
  simp [execOp, Instr.range, run_underlying ht, hρ x _ hx, newObj, Sem.run]
/-- The next rune, or the end. -/
theorem S_nextS [Dr] (i : Nat) {b p : Nat} (hx : ev L x = some (.pointer (some ⟨b, 0, none⟩))) (hn : Nat.blt d n.n = true) (hL : Lcl w0 O w) (hi : nthR O i = some (.obj b (.stringIter ⟨l.toArray⟩ p)))
    (h1 : p < l.length → ∀ w', Lcl w0 (setR O i (.obj b (.stringIter ⟨l.toArray⟩ (p + (Go.L.rdec l p).2)))) w' → Le (fz w O) (fz w' (setR O i (.obj b (.stringIter ⟨l.toArray⟩ (p + (Go.L.rdec l p).2))))) → S P n ops Q rest ((d, .tuple #[.bool true, .int .i64 (p : Int), .int .i32 ((Go.L.rdec l p).1 : Int)]) :: L) w')
    (h2 : ¬ p < l.length → S P n ops Q rest ((d, .tuple #[.bool false]) :: L) w) : S P n ops Q (⟨some d, .next x true, ty, pos, af, none⟩ :: rest) L w := by
  have hb : w.heap[b]? = some (.stringIter ⟨l.toArray⟩ p) := hL.at hi
  have hs : (ByteArray.mk l.toArray).size = l.length := by simp [ByteArray.size]
  by_cases hp : p < l.length
  · have hr := Lib.run_next_any_at (P := P) w b ⟨l.toArray⟩ p ty hb (by rw [hs]; exact hp)
    have hput := hL.putAt (.stringIter ⟨l.toArray⟩ (p + (Go.L.rdec l p).2)) hi
    refine S_value (v := .tuple #[.bool true, .int .i64 (p : Int), .int .i32 ((Go.L.rdec l p).1 : Int)]) (w' := _) rfl rfl hn (fun ρ hρ => ?_) (h1 hp _ hput.1 hput.2)
    have e : w.iterAt b ⟨l.toArray⟩ (p + (Utf8.decode ⟨l.toArray⟩ p).2) = w.putObj b (.stringIter ⟨l.toArray⟩ (p + (Go.L.rdec l p).2)) := rfl
    rw [e] at hr
    simp [execOp, hρ x _ hx, hr, Go.L.rdec]
  · have hr := Lib.run_next_end_at (P := P) w b ⟨l.toArray⟩ p ty hb (by rw [hs]; exact hp)
    refine S_value (v := .tuple #[.bool false]) (w' := w) rfl rfl hn (fun ρ hρ => ?_) (h2 hp)
    simp [execOp, hρ x _ hx, hr]
end
/-! ### Entries of maps -/
section
variable {κ : Type} {enc : κ → Value} {k : κ}
theorem mE_mkey : ∀ (l : List κ) (vs : List Value) (i m : Nat), l.length = vs.length → l[m]? = some k → (mE enc i l vs).modify m (fun e => { e with key := enc k }) = mE enc i l vs
  | b :: l, u :: vs, i, 0, _, h => by simp at h; subst h; simp [mE]
  | b :: l, u :: vs, i, m + 1, hl, h => by
    have := mE_mkey l vs (i + 1) m (by simpa using hl) (by simpa using h)
    simp only [mE, List.modify_succ_cons, this]
theorem mE_mval {v : Value} : ∀ (l : List κ) (vs : List Value) (i m : Nat), l.length = vs.length → (mE enc i l vs).modify m (fun e => { e with val := v }) = mE enc i l (vs.set m v)
  | [], [], _, _, _ => by simp [mE]
  | b :: l, u :: vs, i, 0, _ => by simp [mE]
  | b :: l, u :: vs, i, m + 1, hl => by
    have := mE_mval (v := v) l vs (i + 1) m (by simpa using hl)
    simp only [mE, List.modify_succ_cons, List.set_cons_succ, this]
theorem mE_born : ∀ (l : List κ) (vs : List Value) (i m : Nat), l.length = vs.length → m < l.length → (mE enc i l vs).findIdx? (fun e => (e.born : Int) == ((i + m : Nat) : Int)) = some m
  | b :: l, u :: vs, i, 0, _, _ => by simp [mE, List.findIdx?_cons]
  | b :: l, u :: vs, i, m + 1, hl, h => by
    have := mE_born l vs (i + 1) m (by simpa using hl) (by simpa using h)
    rw [show i + (m + 1) = i + 1 + m by omega]
    have hne : ((i : Int) == ((i + 1 + m : Nat) : Int)) = false := by simp; omega
    simp only [mE, List.findIdx?_cons, hne, Bool.false_eq_true, if_false, this, Option.map_some]
end
section
variable {κ α : Type} [DecidableEq κ] {k : κ} {l : List (κ × List α)}
theorem touch_some {m : Nat} (h : mI k (l.map Prod.fst) = some m) : Go.L.mtouch k l = l := by
  unfold Go.L.mtouch
  rw [mput_some h]
  have := mI_some ([] : List α) h
  obtain ⟨h1, h2⟩ := List.getElem?_eq_some_iff.1 this
  conv => lhs; rw [← h2]
  exact List.set_getElem_self h1
theorem touch_none (h : mI k (l.map Prod.fst) = none) : Go.L.mtouch k l = l ++ [(k, [])] := by
  unfold Go.L.mtouch
  rw [mput_none h, mI_none [] h]
theorem mget_touch : Go.L.mget [] k (Go.L.mtouch k l) = Go.L.mget [] k l := by
  cases h : mI k (l.map Prod.fst) with
  | some m => rw [touch_some h]
  | none =>
    rw [touch_none h]
    clear h
    induction l with
    | nil => simp [Go.L.mget]
    | cons a l ih =>
      obtain ⟨a, y⟩ := a
      simp only [List.cons_append, Go.L.mget]
      split
      · rfl
      · exact ih
theorem mI_touch : ∃ m, mI k ((Go.L.mtouch k l).map Prod.fst) = some m := by
  cases h : mI k (l.map Prod.fst) with
  | some m => rw [touch_some h]; exact ⟨m, h⟩
  | none =>
    rw [touch_none h]
    clear h
    induction l with
    | nil => exact ⟨0, by simp [mI]⟩
    | cons a l ih =>
      obtain ⟨a, y⟩ := a
      obtain ⟨m, hm⟩ := ih
      simp only [List.cons_append, List.map_cons, mI]
      split
      · exact ⟨_, rfl⟩
      · rw [hm]; exact ⟨_, rfl⟩
theorem mput_app {y z : List α} : ∀ {l : List (κ × List α)}, mI k (l.map Prod.fst) = none → Go.L.mput k y (l ++ [(k, z)]) = Go.L.mput k y l
  | [], _ => by simp [Go.L.mput]
  | (a, x) :: l, h => by
    simp only [List.map_cons, mI] at h
    split at h
    · cases h
    · rename_i e
      simp only [List.cons_append, Go.L.mput, if_neg e]
      rw [mput_app (by cases h1 : mI k (l.map Prod.fst) <;> simp_all)]
theorem mput_touch {y : List α} : Go.L.mput k y (Go.L.mtouch k l) = Go.L.mput k y l := by
  cases h : mI k (l.map Prod.fst) with
  | some m => rw [touch_some h]
  | none => rw [touch_none h, mput_app h]
def mstamp (k : κ) (l : List κ) : Int := match mI k l with | some m => (m : Int) | none => 0
end
section
variable {P : Program} {n : Sz} {ops : Array Oper} {Q : Exit → Act → World → Prop} {L : Env} {w w0 : World} {O : List Res} {rest : List Oper} {d : Nat} {ty ty' t mt kt et e : TypeId} {pos pos' : String} {af af' : Array Edge} {x y x' m' : Operand}
  {κ α : Type} [DecidableEq κ] {enc : κ → Value} {cw : α → List Value} {sz : Nat} {l : List (κ × List α)} {vs : List Value} {k : κ} {H : PH} {A : List Res}
/-- 'm[k] op= ..': the entry is looked for, or made. -/
theorem S_mapEntry [Dr] (ib : Nat) {b : Nat} (hx : ev L x = some (.map (some b))) (hy : ev L y = some (enc k)) (ht : P.underlying t = some (.map kt et)) (hk : KeyOk P kt enc) (hz : Mz P et (.slice none 0 0)) (hn : Nat.blt d n.n = true) (hL : Lcl w0 (A ++ mT cw e sz l vs) w)
    (hib : nthR A ib = some (mpR enc b l vs)) (hl : l.length = vs.length)
    (h : ∀ vs' w', (Go.L.mtouch k l).length = vs'.length → Lcl w0 (setR A ib (mpR enc b (Go.L.mtouch k l) vs') ++ mT cw e sz (Go.L.mtouch k l) vs') w' →
      Le (fz w (A ++ mT cw e sz l vs)) (fz w' (setR A ib (mpR enc b (Go.L.mtouch k l) vs') ++ mT cw e sz (Go.L.mtouch k l) vs')) →
      S P n ops Q rest ((d, .tuple #[lkV (.slice none 0 0) k ((Go.L.mtouch k l).map Prod.fst) vs', .int .i64 (mstamp k ((Go.L.mtouch k l).map Prod.fst))]) :: L) w') :
    S P n ops Q (⟨some d, .mapEntry t x y, ty, pos, af, none⟩ :: rest) L w := by
  have hb : w.heap[b]? = some (.map (mE enc 0 (l.map Prod.fst) vs).toArray l.length) := hL.at (nthR_left _ hib)
  have hg : (getObj b).run P w = .ok (.map (mE enc 0 (l.map Prod.fst) vs).toArray l.length) w := by simp [getObj, Sem.run, hb]
  have hs : ∀ o, (setObj b o).run P w = .ok () (w.putObj b o) := fun o => by simp [setObj, Sem.run, hb, World.putObj]
  have hll : (l.map Prod.fst).length = vs.length := by rw [List.length_map]; exact hl
  cases hm : mI k (l.map Prod.fst) with
  | some m =>
    obtain ⟨h1, h2⟩ := mI_lt hm
    have he := mE_get (enc := enc) (l.map Prod.fst) vs 0 m k hll h2
    have hp := hL.putAt (.map (mE enc 0 (l.map Prod.fst) vs).toArray l.length) (nthR_left _ hib)
    rw [setR_left _ _ hib] at hp
    have h' := h vs (w.putObj b (.map (mE enc 0 (l.map Prod.fst) vs).toArray l.length))
    rw [touch_some hm] at h'
    have e1 : (mE enc 0 (l.map Prod.fst) vs).toArray.modify m (fun e => { e with key := enc k }) = (mE enc 0 (l.map Prod.fst) vs).toArray := by rw [List.modify_toArray, mE_mkey _ vs 0 m hll h2]
    refine S_value (v := _) (w' := _) rfl rfl hn (fun ρ hρ => ?_) (h' hl hp.1 hp.2)
    have hr : (Instr.mapEntry t (.map (some b)) (enc k)).run P w = .ok (.tuple #[lkV (.slice none 0 0) k (l.map Prod.fst) vs, .int .i64 (mstamp k (l.map Prod.fst))]) (w.putObj b (.map (mE enc 0 (l.map Prod.fst) vs).toArray l.length)) := by
      simp only [Instr.mapEntry, Sem.run_bind, run_underlying ht, Result.andThen, hg, hk.check]
      rw [find_mE hk hll, hm]
      simp only [Option.map_some, Sem.run_bind, Result.andThen, List.getElem?_toArray, he, Option.getD_some, Instr.keyThatStays, hk.bits, if_true]
      simp only [Sem.run_pure, Nat.zero_add]
      rw [e1, hs]
      simp [lkV, mstamp, hm, goInt]
    simp [execOp, hρ x _ hx, hρ y _ hy, hr]
  | none =>
    have hp := hL.putAt (.map (mE enc 0 (l.map Prod.fst ++ [k]) (vs ++ [.slice none 0 0])).toArray (l.length + 1)) (nthR_left _ hib)
    rw [setR_left _ _ hib] at hp
    have hnil := row_nil hp.1 e sz
    have h' := h (vs ++ [.slice none 0 0]) (w.putObj b (.map (mE enc 0 (l.map Prod.fst ++ [k]) (vs ++ [.slice none 0 0])).toArray (l.length + 1)))
    rw [touch_none hm] at h'
    have hpush := mE_push (enc := enc) (k := k) (v := .slice none 0 0) (l.map Prod.fst) vs 0 hll
    rw [Nat.zero_add] at hpush
    have e2 : (l ++ [(k, ([] : List α))]).map Prod.fst = l.map Prod.fst ++ [k] := by simp
    have e3 : (l ++ [(k, ([] : List α))]).length = l.length + 1 := by simp
    have hB : (.obj b (.map (mE enc 0 (l.map Prod.fst ++ [k]) (vs ++ [.slice none 0 0])).toArray (l.length + 1)) : Res) = mpR enc b (l ++ [(k, ([] : List α))]) (vs ++ [.slice none 0 0]) := by unfold mpR; rw [e2, e3]
    rw [hB] at hp hnil
    have hperm : (setR A ib (mpR enc b (l ++ [(k, ([] : List α))]) (vs ++ [.slice none 0 0])) ++ mT cw e sz (l ++ [(k, ([] : List α))]) (vs ++ [.slice none 0 0])).Perm (.row (.slice none 0 0) e sz 0 [] :: (setR A ib (mpR enc b (l ++ [(k, ([] : List α))]) (vs ++ [.slice none 0 0])) ++ mT cw e sz l vs)) := by
      rw [mT_push k [] (.slice none 0 0) hl, ← List.append_assoc]
      exact List.perm_append_singleton _ _
    have hmm : mI k (l.map Prod.fst ++ [k]) = some l.length := by
      have hmk : ∀ (ks : List κ), mI k ks = none → mI k (ks ++ [k]) = some ks.length := by
        intro ks
        induction ks with
        | nil => intro _; simp [mI]
        | cons a ks ih =>
          intro hh
          simp only [mI] at hh
          split at hh
          · cases hh
          · rename_i ee
            simp only [List.cons_append, mI, if_neg ee]
            rw [ih (by cases h1 : mI k ks <;> simp_all)]
            simp
      have := hmk _ hm
      rwa [List.length_map] at this
    refine S_value (v := _) (w' := _) rfl rfl hn (fun ρ hρ => ?_) (h' (by simp [hl]) (hnil.1.perm hperm) (by rw [fz_perm hperm]; exact hp.2.trans hnil.2))
    have hr : (Instr.mapEntry t (.map (some b)) (enc k)).run P w = .ok (.tuple #[lkV (.slice none 0 0) k ((l ++ [(k, ([] : List α))]).map Prod.fst) (vs ++ [.slice none 0 0]), .int .i64 (mstamp k ((l ++ [(k, ([] : List α))]).map Prod.fst))]) (w.putObj b (.map (mE enc 0 (l.map Prod.fst ++ [k]) (vs ++ [.slice none 0 0])).toArray (l.length + 1))) := by
      rw [e2]
      simp only [Instr.mapEntry, Sem.run_bind, run_underlying ht, Result.andThen, hg, hk.check]
      rw [find_mE hk hll, hm]
      have hz' : (zeroValue et).run P w = .ok (.slice none 0 0) w := hz w
      simp only [Option.map_none, Sem.run_bind, Result.andThen, hz', List.push_toArray]
      rw [List.length_map] at hpush
      rw [hpush, hs]
      simp [lkV, mstamp, hmm, goInt, hl]
    simp [execOp, hρ x _ hx, hρ y _ hy, hr]
/-- .. and what was made of it is put there. -/
theorem S_estM [Dr] (ib : Nat) {b : Nat} {v : Value} {yl : List α} {T : List Res} (hpd : Pend cw e sz (Go.L.mtouch k l) vs k yl v T) (hm : ev L m' = some (.map (some b))) (hkx : ev L x' = some (.int .i64 (mstamp k ((Go.L.mtouch k l).map Prod.fst)))) (hv : ev L x = some v)
    (hL : Lcl w0 (A ++ T) w) (hib : nthR A ib = some (mpR enc b (Go.L.mtouch k l) vs))
    (h : ∀ vs' w', (Go.L.mput k yl l).length = vs'.length → Lcl w0 (setR A ib (mpR enc b (Go.L.mput k yl l) vs') ++ mT cw e sz (Go.L.mput k yl l) vs') w' →
      Le (fz w (A ++ T)) (fz w' (setR A ib (mpR enc b (Go.L.mput k yl l) vs') ++ mT cw e sz (Go.L.mput k yl l) vs')) → S P n ops Q rest L w') :
    S P n ops Q (⟨none, .entryStore mt m' x' x, ty, pos, af, none⟩ :: rest) L w := by
  obtain ⟨_, hl, hpm⟩ := hpd
  obtain ⟨m, hmi⟩ := mI_touch (k := k) (l := l)
  rw [mput_touch] at hpm
  have hll : ((Go.L.mtouch k l).map Prod.fst).length = vs.length := by rw [List.length_map]; exact hl
  obtain ⟨h1, h2⟩ := mI_lt hmi
  have hb : w.heap[b]? = some (.map (mE enc 0 ((Go.L.mtouch k l).map Prod.fst) vs).toArray (Go.L.mtouch k l).length) := hL.at (nthR_left T hib)
  have hg : (getObj b).run P w = .ok (.map (mE enc 0 ((Go.L.mtouch k l).map Prod.fst) vs).toArray (Go.L.mtouch k l).length) w := by simp [getObj, Sem.run, hb]
  have hs : ∀ o, (setObj b o).run P w = .ok () (w.putObj b o) := fun o => by simp [setObj, Sem.run, hb, World.putObj]
  have hU : upV k v ((Go.L.mtouch k l).map Prod.fst) vs = vs.set m v := by unfold upV; rw [hmi]
  have hK : (Go.L.mput k yl l).map Prod.fst = (Go.L.mtouch k l).map Prod.fst := by
    have := upK_mput (k := k) (y := yl) (l := Go.L.mtouch k l)
    rw [mput_touch] at this
    rw [← this]
    unfold upK
    rw [hmi]
  have hlen : (Go.L.mput k yl l).length = (Go.L.mtouch k l).length := by have := congrArg List.length hK; simpa using this
  have hf := mE_born (enc := enc) _ vs 0 m hll h1
  rw [Nat.zero_add] at hf
  have hp := hL.putAt (.map (mE enc 0 ((Go.L.mput k yl l).map Prod.fst) (vs.set m v)).toArray (Go.L.mput k yl l).length) (nthR_left T hib)
  rw [setR_left _ _ hib] at hp
  have hpm2 := List.Perm.append_left (setR A ib (mpR enc b (Go.L.mput k yl l) (upV k v ((Go.L.mtouch k l).map Prod.fst) vs))) hpm.symm
  rw [hU] at hpm2
  have hr : (Instr.entryStore mt (.map (some b)) (.int .i64 (mstamp k ((Go.L.mtouch k l).map Prod.fst))) v).run P w = .ok () (w.putObj b (.map (mE enc 0 ((Go.L.mput k yl l).map Prod.fst) (vs.set m v)).toArray (Go.L.mput k yl l).length)) := by
    simp only [Instr.entryStore, Sem.run_bind, Result.andThen, hg, mstamp, hmi, asInt, asIntOf]
    simp only [Sem.run_bind, Sem.run_pure, Result.andThen, List.findIdx?_toArray, hf, List.modify_toArray]
    rw [mE_mval _ vs 0 m hll, hs, hK, hlen]
  refine S_effect (w' := _) rfl rfl (fun ρ hρ => ?_) (h (vs.set m v) _ (by rw [hlen, List.length_set]; exact hl) (hp.1.perm hpm2) ?_)
  · simp [execOp, hρ m' _ hm, hρ x' _ hkx, hρ x _ hv, hr]
  · rw [fz_perm hpm2]; exact hp.2
end
end Go.E
end
section
namespace Go.E
open Go Go.RowKit
/-- v' looks into v from lo on. -/
def RSub (v v' : Value) (lo : Nat) : Prop := ∃ a m cap, v = .slice a m cap ∧ lo ≤ m ∧ m ≤ cap ∧ v' = .slice (if cap = lo then a else a.map (·.add lo)) (m - lo) (cap - lo)
theorem RSub.vec {α : Type} {r : Rp α} {H : PH} {v v' : Value} {lo : Nat} {l : List α} (h : RSub v v' lo) (hv : Vec r H v l) (hr : r.sz = 1) : Vec r H v' (l.drop lo) := by
  obtain ⟨a, m, cap, rfl, h1, h2, rfl⟩ := h
  obtain ⟨a', cap', he⟩ := hv.header
  have hm : m = l.length := by cases he; rfl
  subst hm
  obtain ⟨a2, cap2, e2, hs⟩ := hv.sub lo l.length h1 (Nat.le_refl _)
  cases e2
  rw [hr, Nat.mul_one, List.take_of_length_le (by simp)] at hs
  exact hs
section
variable {P : Program} {n : Sz} {ops : Array Oper} {Q : Exit → Act → World → Prop} {L : Env} {w w0 : World} {O : List Res} {rest : List Oper} {d : Nat}
  {ty : TypeId} {pos : String} {af : Array Edge} {α : Type} {r : Rp α} {x a b : Operand} {v : Value} {t e : TypeId} {H : PH} {k : IntKind} {lo : Int} {m : Nat} {zz : Value} {bt : Nat} {xs : List Value}
theorem S_rsub [Dr] (i : Nat) (hx : ev L x = some v) (ha : ev L a = some (.int k lo)) (ht : P.underlying t = some (.slice e)) (hz : Zr P e zz 1 bt) (hL : Lcl w0 O w) (hi : nthR O i = some (.row v e 1 m xs)) (hc : 0 ≤ lo ∧ lo ≤ (m : Int)) (hn : Nat.blt d n.n = true)
    (h : ∀ v', RSub v v' lo.toNat → S P n ops Q rest ((d, v') :: L) w) : S P n ops Q (⟨some d, .slice t x (some a) none none, ty, pos, af, none⟩ :: rest) L w := by
  have hown : w.ownsRow 0 e 1 v m xs := hL.at hi
  obtain ⟨inf, i1, i2, i3, i4⟩ := hz.parts
  obtain ⟨q, rfl⟩ := Int.eq_ofNat_of_zero_le hc.1
  have hq : q ≤ m := by omega
  have hqi : (q : Int) ≤ (m : Int) := hc.2
  have key : ∃ A cap, v = .slice A m cap ∧ m ≤ cap := by
    rcases hown.2 with ⟨rfl, rfl⟩ | ⟨g, cp, cur, rfl, hbg, hg, hnc, hcm, hcs, htake⟩
    · exact ⟨none, 0, rfl, Nat.le_refl _⟩
    · exact ⟨_, cp, rfl, hnc⟩
  obtain ⟨A, cap, rfl, hmc⟩ := key
  refine S_v (fun w' _ ρ hρ dst pos af g => ?_) hn (h _ ⟨A, m, cap, rfl, hq, hmc, rfl⟩)
  simp [execOp, hρ x _ hx, hρ a _ ha, Instr.sliceAt, run_underlying ht, Instr.slice, Instr.sliceBounds, Instr.sliceBound, asIntOf, sizeOf, typeInfo, i1, i3, hqi, hq]
/-- A row is cut off behind its first elements. -/
theorem S_cutR [Dr] (i : Nat) {j : Int} {l : List α} (hx : ev L x = some v) (hb : ev L b = some (.int k j)) (ht : P.underlying t = some (.slice e)) (hz : Zr P e zz 1 bt) (hr : r.sz = 1) (hH : Le H (hp w0)) (hL : Lcl w0 O w) (hi : nthR O i = some (.row v e 1 l.length xs)) (he : Elems r (gz H w0 w O) l xs) (hc : 0 ≤ j ∧ j ≤ (l.length : Int)) (hn : Nat.blt d n.n = true)
    (h : ∀ v' xs', Lcl w0 (setR O i (.row v' e 1 (l.take j.toNat).length xs')) w → Le (fz w O) (fz w (setR O i (.row v' e 1 (l.take j.toNat).length xs'))) → Elems r (gz H w0 w (setR O i (.row v' e 1 (l.take j.toNat).length xs'))) (l.take j.toNat) xs' → S P n ops Q rest ((d, v') :: L) w) : S P n ops Q (⟨some d, .slice t x none (some b) none, ty, pos, af, none⟩ :: rest) L w := by
  have hown : w.ownsRow 0 e 1 v l.length xs := hL.at hi
  obtain ⟨inf, i1, i2, i3, i4⟩ := hz.parts
  obtain ⟨q, rfl⟩ := Int.eq_ofNat_of_zero_le hc.1
  have hq : q ≤ l.length := by omega
  rw [Int.toNat_natCast] at h
  have hlt : (l.take q).length = q := by rw [List.length_take]; omega
  have hel : ∀ (l : List α) (xs : List Value) (G : PH), Elems r G l xs → Elems r G (l.take q) (xs.take q) := by
    intro l xs G he
    have hgen : ∀ (q : Nat), Elems r G (l.take q) (xs.take q) := by
      induction he with
      | nil => intro q; simp; exact .nil
      | @cons y l c cs hy hl ih =>
        intro q
        have hc1 : c.length = 1 := by rw [r.len hy, hr]
        obtain ⟨u, rfl⟩ := List.length_eq_one_iff.1 hc1
        cases q with
        | zero => simp; exact .nil
        | succ q => exact .cons hy (ih q)
    exact hgen q
  have key : ∃ A cap, v = .slice A l.length cap ∧ l.length ≤ cap ∧ (∀ b, (Res.row (.slice A q cap) e 1 q (xs.take q)).block = some b → (Res.row v e 1 l.length xs).block = some b) ∧ (Res.row (.slice A q cap) e 1 q (xs.take q)).ok w ∧ (A.map (·.add 0) = A) := by
    rcases hown.2 with ⟨rfl, h0⟩ | ⟨g, cp, cur, rfl, hbg, hg, hnc, hcm, hcs, htake⟩
    · have hq0 : q = 0 := by omega
      subst hq0
      refine ⟨none, 0, by rw [h0], by omega, fun b h => h, ⟨by simp, .inl ⟨rfl, rfl⟩⟩, rfl⟩
    · refine ⟨_, cp, rfl, hnc, fun b h => h, ⟨?_, .inr ⟨g, cp, cur, rfl, hbg, hg, by omega, hcm, hcs, ?_⟩⟩, rfl⟩
      · rw [List.length_take, hown.1]; omega
      · rw [← htake, List.take_take, Nat.mul_one, Nat.mul_one, Nat.min_eq_left hq]
  obtain ⟨A, cap, rfl, hmc, hbl, hok, hA⟩ := key
  have hqc : (q : Int) ≤ (cap : Int) := by omega
  have hqc' : q ≤ cap := by omega
  have h1 := hL.turnAt hi (Nat.le_refl _) (World.grownBy.refl _ _) hok (fun b e => .inl (hbl b e))
  have h2 := fz_turnAt (r' := .row (.slice A q cap) e 1 q (xs.take q)) hL hi (World.grownBy.refl _ _) (fun b e => .inl (hbl b e))
  have h' := h (.slice A q cap) (xs.take q)
  rw [hlt] at h'
  refine S_v (fun w' _ ρ hρ dst pos af g => ?_) hn (h' h1 h2 ((hel l xs _ he).mono (gz_mono hH h2)))
  simp [execOp, hρ x _ hx, hρ b _ hb, Instr.sliceAt, run_underlying ht, Instr.slice, Instr.sliceBounds, Instr.sliceBound, asIntOf, sizeOf, typeInfo, i1, i3, hqc, hqc', hA]
/-- 'clear(x)', x a look into a row. -/
theorem S_clearR [Dr] (i : Nat) {v' : Value} {q : Nat} {l : List α} {z : α} (hx : ev L x = some v') (hs : RSub v v' q) (ht : P.underlying t = some (.slice e)) (hz : Zr P e zz 1 bt) (hr : r.sz = 1) (hzc : zz.cells = #[zz]) (h1 : zz.oneCell' = true) (hH : Le H (hp w0)) (hL : Lcl w0 O w) (hi : nthR O i = some (.row v e 1 l.length xs)) (he : Elems r (gz H w0 w O) l xs) (hrz : ∀ G, r.rel G z [zz])
    (h : ∀ w' xs', Lcl w0 (setR O i (.row v e 1 (l.take q ++ List.replicate (l.length - q) z).length xs')) w' → Le (fz w O) (fz w' (setR O i (.row v e 1 (l.take q ++ List.replicate (l.length - q) z).length xs'))) → Elems r (gz H w0 w' (setR O i (.row v e 1 (l.take q ++ List.replicate (l.length - q) z).length xs'))) (l.take q ++ List.replicate (l.length - q) z) xs' → S P n ops Q rest L w') :
    S P n ops Q (⟨none, .call ⟨.builtin .clear, #[x], #[t]⟩, ty, pos, af, none⟩ :: rest) L w := by
  have hown : w.ownsRow 0 e 1 v l.length xs := hL.at hi
  obtain ⟨inf, i1, i2, i3, i4⟩ := hz.parts
  have hxl : xs.length = l.length := by rw [hown.1, Nat.mul_one]
  have hel0 : ∀ (G : PH) (l : List α) (xs : List Value), Elems r G l xs → ∀ q, Elems r G (l.take q ++ List.replicate (l.length - q) z) (xs.take q ++ List.replicate (l.length - q) zz) := by
    intro G l xs he
    have hrep : ∀ k, Elems r G (List.replicate k z) (List.replicate k zz) := by
      intro k
      induction k with
      | zero => exact .nil
      | succ k ih => exact .cons (hrz G) ih
    induction he with
    | nil => intro q; simp; exact .nil
    | @cons y l c cs hy hl ih =>
      intro q
      have hc1 : c.length = 1 := by rw [r.len hy, hr]
      obtain ⟨u, rfl⟩ := List.length_eq_one_iff.1 hc1
      cases q with
      | zero => simpa using hrep (l.length + 1)
      | succ q =>
        have := ih q
        simp only [List.take_succ_cons, List.cons_append, List.length_cons, Nat.add_sub_add_right]
        exact .cons hy this
  have hel : ∀ G, Elems r G l xs → Elems r G (l.take q ++ List.replicate (l.length - q) z) (xs.take q ++ List.replicate (l.length - q) zz) := fun G he => hel0 G l xs he q
  have hle : (l.take q ++ List.replicate (l.length - q) z).length = l.length := by simp; omega
  rw [hle] at h
  obtain ⟨a, m, cap, hv, hq, hmc, rfl⟩ := hs
  by_cases hz0 : l.length - q = 0
  · have hm : m = l.length := by
      rcases hown.2 with ⟨hv0, h0⟩ | ⟨g, cp, cur, hv1, _⟩
      · rw [hv0] at hv; cases hv; exact h0.symm
      · rw [hv1] at hv; cases hv; rfl
    subst hm
    have e0 : l.take q ++ List.replicate (l.length - q) z = l := by rw [hz0, List.replicate_zero, List.append_nil, List.take_of_length_le (by omega)]
    rw [e0] at h
    have hrun : (Builtin.clear_ #[t] ty #[.slice (if cap = q then a else a.map (·.add q)) (l.length - q) (cap - q)]).run P w = .ok (.tuple #[]) w := by
      rw [hz0]
      generalize (if cap = q then a else a.map (·.add q)) = A'
      cases A' <;> simp [Builtin.clear_, run_underlying ht]
    refine S_value0 (v := .tuple #[]) (w' := w) rfl rfl (fun ρ hρ => by simp [execOp, resolve, invoke, builtin, hρ x _ hx, hrun]) ?_
    have t1 := hL.turnAt hi (Nat.le_refl _) (World.grownBy.refl _ _) (hL.at hi) (fun b e => .inl e)
    have t2 := fz_turnAt (r' := .row v e 1 l.length xs) hL hi (World.grownBy.refl _ _) (fun b e => .inl e)
    exact h w xs t1 t2 (he.mono (gz_mono hH t2))
  · rcases hown.2 with ⟨hv0, h0⟩ | ⟨g, cp, cur, hv1, hbg, hg, hnc, hcm, hcs, htake⟩
    · omega
    · rw [hv1] at hv
      cases hv
      have hcur : cur.size = cap := by rw [hcs, Nat.mul_one]
      have hqc : ¬ cap = q := by omega
      rw [if_neg hqc] at hx
      have hcell : ∀ j, j < l.length - q → (w.cell? ⟨g, q + j, none⟩).isSome = true := fun j hj => by
        have : q + j < cur.size := by omega
        simp [World.cell?, hg, this]
      have hfr : ∀ j, j < l.length - q → w.frozen? ⟨g, q + j, none⟩ = false := fun j hj => by simp [World.frozen?, hg]
      have hzero : ∀ w, (zeroValue e).run P w = .ok zz w := fun w => by simp [zeroValue, typeInfo, i1, i2]
      have hst := run_storeCells_at P g q e (List.replicate (l.length - q) zz) 0 cur w hg (by simp; omega) (by intro u hu; rw [List.eq_of_mem_replicate hu]; exact h1)
      simp only [Nat.add_zero, List.length_replicate] at hst
      obtain ⟨C, hC⟩ : ∃ C, C = (cur.toList.take q ++ List.replicate (l.length - q) zz ++ cur.toList.drop (q + (l.length - q))).toArray := ⟨_, rfl⟩
      rw [← hC] at hst
      have hrun : (Builtin.clear_ #[t] ty #[.slice (some ⟨g, q, none⟩) (l.length - q) (cap - q)]).run P w = .ok (.tuple #[]) (w.setRow g C) := by
        have h2 := Lib.run_clear_slice (P := P) w t e ty zz ht hzero hzc h1 g q (l.length - q) (cap - q) (by omega) hcell hfr
        have h3 := run_storeCells_cells (P := P) g q (List.replicate (l.length - q) zz) 0 w (by simpa using hcell) (by simpa using hfr) (by intro u hu; rw [List.eq_of_mem_replicate hu]; exact h1)
        simp only [Nat.add_zero] at h3
        rw [hst] at h3
        rw [h2]
        injection h3 with _ h4
        rw [h4]
      have hgr := grownBy_setRow w g C
      have hh := setRow_heap_same w g cur C e hg
      have hok : Res.ok (w.setRow g C) (.row v e 1 l.length (xs.take q ++ List.replicate (l.length - q) zz)) := by
        subst hv1
        refine ⟨by simp; omega, .inr ⟨g, cap, C, rfl, hbg, hh, hnc, hcm, by rw [hC]; simp; omega, ?_⟩⟩
        rw [hC, List.toList_toArray, ← htake, Nat.mul_one, List.take_take, Nat.min_eq_left hq, List.take_append]
        have hl1 : (cur.toList.take q ++ List.replicate (l.length - q) zz).length = l.length := by simp; omega
        rw [List.take_of_length_le (by omega), hl1, Nat.sub_self, List.take_zero, List.append_nil]
      have hgr' : w.grownBy (w.setRow g C) (Res.row v e 1 l.length xs).block := by subst hv1; exact hgr
      have hdr : w.drawn ≤ (w.setRow g C).drawn := Nat.le_refl _
      have t1 := hL.turnAt hi hdr hgr' hok (fun b e => .inl e)
      have t2 := fz_turnAt (r' := .row v e 1 l.length (xs.take q ++ List.replicate (l.length - q) zz)) hL hi hgr' (fun b e => .inl e)
      have hx' : ev L x = some (.slice (some ⟨g, q, none⟩) (l.length - q) (cap - q)) := by rw [hx]; simp [Addr.add]; exact fun e => e.symm
      refine S_value0 (v := .tuple #[]) (w' := w.setRow g C) rfl rfl (fun ρ hρ => by simp [execOp, resolve, invoke, builtin, hρ x _ hx', hrun]) ?_
      exact h _ _ t1 t2 ((hel _ he).mono (gz_mono hH t2))
end
end Go.E
end
section
namespace Go.E
open Go Go.RowKit
instance drOff : Dr := ⟨false⟩
theorem Ext.off {w w' : World} (h : Below w.heap.size w w') : Ext w w' := ⟨h, fun o => absurd o (by decide)⟩
end Go.E
end
section
namespace Go.Proofs.YtmfiaecglndldaaGreatDoor
open Go Go.E Go.RowKit
theorem mixed : Tryz.prog.follows .mixedOrders = true := by kernel_rfl
theorem zr3 : Zr Tryz.prog 3 (.int .i64 0) 1 8 := by unfold Zr; kernel_rfl
theorem zr5 : Zr Tryz.prog 5 (.int .u8 0) 1 1 := by unfold Zr; kernel_rfl
theorem zr9 : Zr Tryz.prog 9 (.string .empty) 1 16 := by unfold Zr; kernel_rfl
theorem zr23 : Zr Tryz.prog 23 (.agg #[.int .i64 0, .int .i64 0]) 2 16 := by unfold Zr; kernel_rfl
theorem zr30 : Zr Tryz.prog 30 (.slice none 0 0) 1 24 := by unfold Zr; kernel_rfl
theorem zr35 : Zr Tryz.prog 35 (.slice none 0 0) 1 24 := by unfold Zr; kernel_rfl
theorem zr36 : Zr Tryz.prog 36 (.slice none 0 0) 1 24 := by unfold Zr; kernel_rfl
theorem zr38 : Zr Tryz.prog 38 (.agg #[.int .i64 0, .int .i64 0, .slice none 0 0, .slice none 0 0, .slice none 0 0]) 5 88 := by unfold Zr; kernel_rfl
theorem zr45 : Zr Tryz.prog 45 (.slice none 0 0) 1 24 := by unfold Zr; kernel_rfl
theorem zr47 : Zr Tryz.prog 47 (.agg #[.int .i64 0, .slice none 0 0]) 2 32 := by unfold Zr; kernel_rfl
theorem zr52 : Zr Tryz.prog 52 (.slice none 0 0) 1 24 := by unfold Zr; kernel_rfl
theorem zr84 : Zr Tryz.prog 84 (.agg #[.string .empty, .int .i64 0, .int .i64 0, .string .empty]) 4 48 := by unfold Zr; kernel_rfl
theorem zr92 : Zr Tryz.prog 92 (.map none) 1 8 := by unfold Zr; kernel_rfl
theorem zr96 : Zr Tryz.prog 96 (.agg #[.string .empty, .int .i64 0, .int .i64 0, .string .empty, .slice none 0 0]) 5 72 := by unfold Zr; kernel_rfl
theorem bld23_z (w : World) : (Instr.build 23 #[]).run Tryz.prog w = .ok (.agg #[.int .i64 0, .int .i64 0]) w := by kernel_rfl
theorem bld23_0_1 (x0 : Int) (x1 : Int) (w : World) : (Instr.build 23 #[(0, .int .i64 x0), (1, .int .i64 x1)]).run Tryz.prog w = .ok (.agg #[.int .i64 x0, .int .i64 x1]) w := by kernel_rfl
theorem bld38_0_1 (x0 : Int) (x1 : Int) (w : World) : (Instr.build 38 #[(0, .int .i64 x0), (1, .int .i64 x1)]).run Tryz.prog w = .ok (.agg #[.int .i64 x0, .int .i64 x1, .slice none 0 0, .slice none 0 0, .slice none 0 0]) w := by kernel_rfl
theorem bld38_0_3_4 (x0 : Int) (x3 : Value) (h3 : x3.oneCell' = true) (x4 : Value) (h4 : x4.oneCell' = true) (w : World) : (Instr.build 38 #[(0, .int .i64 x0), (3, x3), (4, x4)]).run Tryz.prog w = .ok (.agg #[.int .i64 x0, .int .i64 0, .slice none 0 0, x3, x4]) w := by cases x3 <;> first | (simp [Value.oneCell'] at h3; done) | cases x4 <;> first | (simp [Value.oneCell'] at h4; done) | kernel_rfl
theorem bld47_z (w : World) : (Instr.build 47 #[]).run Tryz.prog w = .ok (.agg #[.int .i64 0, .slice none 0 0]) w := by kernel_rfl
theorem bld47_0 (x0 : Int) (w : World) : (Instr.build 47 #[(0, .int .i64 x0)]).run Tryz.prog w = .ok (.agg #[.int .i64 x0, .slice none 0 0]) w := by kernel_rfl
theorem bld47_0_1 (x0 : Int) (x1 : Value) (h1 : x1.oneCell' = true) (w : World) : (Instr.build 47 #[(0, .int .i64 x0), (1, x1)]).run Tryz.prog w = .ok (.agg #[.int .i64 x0, x1]) w := by cases x1 <;> first | (simp [Value.oneCell'] at h1; done) | kernel_rfl
theorem bld84_0_1_2_3 (x0 : Value) (h0 : x0.oneCell' = true) (x1 : Int) (x2 : Int) (x3 : Value) (h3 : x3.oneCell' = true) (w : World) : (Instr.build 84 #[(0, x0), (1, .int .i64 x1), (2, .int .i64 x2), (3, x3)]).run Tryz.prog w = .ok (.agg #[x0, .int .i64 x1, .int .i64 x2, x3]) w := by cases x0 <;> first | (simp [Value.oneCell'] at h0; done) | cases x3 <;> first | (simp [Value.oneCell'] at h3; done) | kernel_rfl
theorem bld96_z (w : World) : (Instr.build 96 #[]).run Tryz.prog w = .ok (.agg #[.string .empty, .int .i64 0, .int .i64 0, .string .empty, .slice none 0 0]) w := by kernel_rfl
theorem bld96_0_1 (x0_0 x0_1 x0_2 x0_3 : Value) (x1 : Value) (h1 : x1.oneCell' = true) (w : World) : (Instr.build 96 #[(0, .agg #[x0_0, x0_1, x0_2, x0_3]), (1, x1)]).run Tryz.prog w = .ok (.agg #[x0_0, x0_1, x0_2, x0_3, x1]) w := by cases x1 <;> first | (simp [Value.oneCell'] at h1; done) | kernel_rfl
theorem bsl30_0 (w : World) : (Instr.buildSlice 30 0 #[]).run Tryz.prog w = .ok (.slice (some ⟨w.heap.size, 0, none⟩) 0 0) (w.alloc (.cells #[] 9)) := by kernel_rfl
theorem bsl30_1 (x0 : Value) (h0 : x0.oneCell' = true) (w : World) : (Instr.buildSlice 30 1 #[(0, x0)]).run Tryz.prog w = .ok (.slice (some ⟨w.heap.size, 0, none⟩) 1 1) (w.alloc (.cells #[x0] 9)) := by cases x0 <;> first | (simp [Value.oneCell'] at h0; done) | kernel_rfl
theorem bsl30_2 (x0 : Value) (h0 : x0.oneCell' = true) (x1 : Value) (h1 : x1.oneCell' = true) (w : World) : (Instr.buildSlice 30 2 #[(0, x0), (1, x1)]).run Tryz.prog w = .ok (.slice (some ⟨w.heap.size, 0, none⟩) 2 2) (w.alloc (.cells #[x0, x1] 9)) :=
  (bs_congr (qs := #[(0, .agg #[x0]), (1, .agg #[x1])]) (by show ([(0, x0.cells), (1, x1.cells)] : List (Nat × Array Value)) = [(0, (Value.agg #[x0]).cells), (1, (Value.agg #[x1]).cells)]; rw [one_cells h0, one_cells h1])).trans (by kernel_rfl)
theorem bsl35_1 (x0 : Int) (w : World) : (Instr.buildSlice 35 1 #[(0, .int .u8 x0)]).run Tryz.prog w = .ok (.slice (some ⟨w.heap.size, 0, none⟩) 1 1) (w.alloc (.cells #[.int .u8 x0] 5)) := by kernel_rfl
theorem bsl35_2 (x0 : Int) (x1 : Int) (w : World) : (Instr.buildSlice 35 2 #[(0, .int .u8 x0), (1, .int .u8 x1)]).run Tryz.prog w = .ok (.slice (some ⟨w.heap.size, 0, none⟩) 2 2) (w.alloc (.cells #[.int .u8 x0, .int .u8 x1] 5)) := by kernel_rfl
theorem bsl36_1 (x0_0 x0_1 x0_2 x0_3 x0_4 : Value) (w : World) : (Instr.buildSlice 36 1 #[(0, .agg #[x0_0, x0_1, x0_2, x0_3, x0_4])]).run Tryz.prog w = .ok (.slice (some ⟨w.heap.size, 0, none⟩) 1 1) (w.alloc (.cells #[x0_0, x0_1, x0_2, x0_3, x0_4] 38)) := by kernel_rfl
theorem bsl36_2 (x0_0 x0_1 x0_2 x0_3 x0_4 : Value) (x1_0 x1_1 x1_2 x1_3 x1_4 : Value) (w : World) : (Instr.buildSlice 36 2 #[(0, .agg #[x0_0, x0_1, x0_2, x0_3, x0_4]), (1, .agg #[x1_0, x1_1, x1_2, x1_3, x1_4])]).run Tryz.prog w = .ok (.slice (some ⟨w.heap.size, 0, none⟩) 2 2) (w.alloc (.cells #[x0_0, x0_1, x0_2, x0_3, x0_4, x1_0, x1_1, x1_2, x1_3, x1_4] 38)) := by kernel_rfl
theorem bsl45_1 (x0_0 x0_1 x0_2 x0_3 x0_4 : Value) (w : World) : (Instr.buildSlice 45 1 #[(0, .agg #[x0_0, x0_1, x0_2, x0_3, x0_4])]).run Tryz.prog w = .ok (.slice (some ⟨w.heap.size, 0, none⟩) 1 1) (w.alloc (.cells #[x0_0, x0_1, x0_2, x0_3, x0_4] 96)) := by kernel_rfl
theorem bsl52_0 (w : World) : (Instr.buildSlice 52 0 #[]).run Tryz.prog w = .ok (.slice (some ⟨w.heap.size, 0, none⟩) 0 0) (w.alloc (.cells #[] 3)) := by kernel_rfl
theorem bsl52_1 (x0 : Int) (w : World) : (Instr.buildSlice 52 1 #[(0, .int .i64 x0)]).run Tryz.prog w = .ok (.slice (some ⟨w.heap.size, 0, none⟩) 1 1) (w.alloc (.cells #[.int .i64 x0] 3)) := by kernel_rfl
theorem bsl52_2 (x0 : Int) (x1 : Int) (w : World) : (Instr.buildSlice 52 2 #[(0, .int .i64 x0), (1, .int .i64 x1)]).run Tryz.prog w = .ok (.slice (some ⟨w.heap.size, 0, none⟩) 2 2) (w.alloc (.cells #[.int .i64 x0, .int .i64 x1] 3)) := by kernel_rfl
theorem bsl52_4 (x0 : Int) (x1 : Int) (x2 : Int) (x3 : Int) (w : World) : (Instr.buildSlice 52 4 #[(0, .int .i64 x0), (1, .int .i64 x1), (2, .int .i64 x2), (3, .int .i64 x3)]).run Tryz.prog w = .ok (.slice (some ⟨w.heap.size, 0, none⟩) 4 4) (w.alloc (.cells #[.int .i64 x0, .int .i64 x1, .int .i64 x2, .int .i64 x3] 3)) := by kernel_rfl
theorem bsl131_1 (x0_0 x0_1 x0_2 x0_3 : Value) (w : World) : (Instr.buildSlice 131 1 #[(0, .agg #[x0_0, x0_1, x0_2, x0_3])]).run Tryz.prog w = .ok (.slice (some ⟨w.heap.size, 0, none⟩) 1 1) (w.alloc (.cells #[x0_0, x0_1, x0_2, x0_3] 84)) := by kernel_rfl
theorem bsl178_5 (x0 : Value) (h0 : x0.oneCell' = true) (x1 : Value) (h1 : x1.oneCell' = true) (x2 : Value) (h2 : x2.oneCell' = true) (x3 : Value) (h3 : x3.oneCell' = true) (x4 : Value) (h4 : x4.oneCell' = true) (w : World) : (Instr.buildSlice 178 5 #[(0, x0), (1, x1), (2, x2), (3, x3), (4, x4)]).run Tryz.prog w = .ok (.slice (some ⟨w.heap.size, 0, none⟩) 5 5) (w.alloc (.cells #[x0, x1, x2, x3, x4] 35)) :=
  (bs_congr (qs := #[(0, .agg #[x0]), (1, .agg #[x1]), (2, .agg #[x2]), (3, .agg #[x3]), (4, .agg #[x4])]) (by show ([(0, x0.cells), (1, x1.cells), (2, x2.cells), (3, x3.cells), (4, x4.cells)] : List (Nat × Array Value)) = [(0, (Value.agg #[x0]).cells), (1, (Value.agg #[x1]).cells), (2, (Value.agg #[x2]).cells), (3, (Value.agg #[x3]).cells), (4, (Value.agg #[x4]).cells)]; rw [one_cells h0, one_cells h1, one_cells h2, one_cells h3, one_cells h4])).trans (by kernel_rfl)
theorem eqg23 : Tryz.prog.eqGuardType Tryz.prog.depth 23 = false := by kernel_rfl
theorem eq23 (a b c e : Int) (w : World) : (Op.equalIn 10000 23 (.agg #[.int .i64 a, .int .i64 b]) (.agg #[.int .i64 c, .int .i64 e])).run Tryz.prog w = .ok (decide (a = c ∧ b = e)) w :=
  eq_two (by kernel_rfl) (by kernel_rfl) (by kernel_rfl : (Tryz.prog.fieldsOf 23).toList = [{ name := "Code", type := 3, offset := 0, embedded := false, tag := "", pkgPath := "", byteOffset := 0 }, { name := "Index", type := 3, offset := 1, embedded := false, tag := "", pkgPath := "", byteOffset := 8 }]) ⟨by decide, rfl⟩ ⟨by decide, rfl⟩ Tryz.underlying3 Tryz.underlying3 a b c e w
theorem eq84 (s m : List UInt8) (x y : Int) (s2 m2 : List UInt8) (x2 y2 : Int) (w : World) : (Op.equalIn 10000 84 (.agg #[.string ⟨s.toArray⟩, .int .i64 x, .int .i64 y, .string ⟨m.toArray⟩]) (.agg #[.string ⟨s2.toArray⟩, .int .i64 x2, .int .i64 y2, .string ⟨m2.toArray⟩])).run Tryz.prog w = .ok (decide (s = s2 ∧ x = x2 ∧ y = y2 ∧ m = m2)) w :=
  eq_lf (by kernel_rfl) (by kernel_rfl) (by kernel_rfl : (Tryz.prog.fieldsOf 84).toList = [{ name := "path", type := 9, offset := 0, embedded := false, tag := "", pkgPath := "scriptorium/shapes", byteOffset := 0 }, { name := "kind", type := 3, offset := 1, embedded := false, tag := "", pkgPath := "scriptorium/shapes", byteOffset := 16 }, { name := "number", type := 3, offset := 2, embedded := false, tag := "", pkgPath := "scriptorium/shapes", byteOffset := 24 }, { name := "text", type := 9, offset := 3, embedded := false, tag := "", pkgPath := "scriptorium/shapes", byteOffset := 32 }]) ⟨by decide, rfl⟩ ⟨by decide, rfl⟩ ⟨by decide, rfl⟩ ⟨by decide, rfl⟩ Tryz.underlying9 Tryz.underlying3 Tryz.underlying3 Tryz.underlying9 s m x y s2 m2 x2 y2 w
theorem key84 : KeyOk Tryz.prog 84 encLf := keyOk_lf Tryz.underlying84 (fun _ _ _ _ _ _ => by kernel_rfl) (fun s s2 m m2 x x2 y y2 w => eq84 s m x y s2 m2 x2 y2 w)
end Go.Proofs.YtmfiaecglndldaaGreatDoor
end
section
namespace Go.Proofs.YtmfiaecglndldaaGreatDoor
open Go Go.E Go.RowKit Go.Shelf
/-- The parts of a string between slashes. -/
def pieces (s : List UInt8) : List (List UInt8) := Lib.split s [47]
noncomputable def genSplitL (s sep : List UInt8) (sv n : Int) : Option (List (List UInt8)) := Go.L.chk (s.length < 4294967281 ∧ sep = [47] ∧ sv = 0 ∧ n = -1) (some (pieces s))
theorem elems_st (G : PH) : ∀ l : List (List UInt8), Elems Rp.st G l (l.map Go.Proofs.encStr)
  | [] => .nil
  | _ :: l => .cons (c := [_]) rfl (elems_st G l)
theorem genSplit_ok (w : World) (H : PH) (_hH : Le H (hp w)) {a0 a1 : List UInt8} {a2 a3 : Int} {r : List (List UInt8)} (h : genSplitL a0 a1 a2 a3 = some r) :
    Ok Tryz.prog 113 [.string ⟨a0.toArray⟩, .string ⟨a1.toArray⟩, .int .i64 a2, .int .i64 a3] w (fun v w' => Ext w w' ∧ ∃ u0, v = u0 ∧ OwnH 9 .st H w w' u0 r) := by
  obtain ⟨hk, h⟩ := Go.L.chk_some h
  obtain rfl := Option.some.inj h
  obtain ⟨h1, rfl, rfl, rfl⟩ := hk
  have hsz : (ByteArray.mk a0.toArray).size = a0.length := by simp [ByteArray.size]
  obtain ⟨N, hN⟩ : ∃ N, N = Lib.countB ⟨a0.toArray⟩ ⟨#[47]⟩ + 1 := ⟨_, rfl⟩
  have hle : Lib.countB ⟨a0.toArray⟩ ⟨#[47]⟩ ≤ (ByteArray.mk a0.toArray).size := Lib.countB_le ⟨#[47]⟩ (Nat.le_refl 1) _ _ (Nat.le_refl _)
  have c := Any.strings_genSplit_core (P := Tryz.prog) (ρ := Tryz.laySplit_ren) { Tryz.laySplit with } (by kernel_rfl) ⟨a0.toArray⟩ ⟨#[47]⟩ 0 (-1) N w (by rw [hsz]; exact h1) (Nat.le_refl 1) (Nat.zero_le _)
    (fun x cc hx => (Any.strings_Index_one (P := Tryz.prog) (ρ := Tryz.laySplit_ren) { Tryz.laySplit with } x 47 _).mono fun e w' ⟨he, hw⟩ => ⟨by rw [he]; exact congrArg (fun z => Ending.returned (Value.int .i64 z)) (Lib.index_one x.data.toList 47).symm, hw⟩)
    ((Any.strings_Count_one (P := Tryz.prog) (ρ := Tryz.laySplit_ren) { Tryz.laySplit with } ⟨a0.toArray⟩ 47 w).mono fun e w' ⟨he, hw⟩ => ⟨by rw [he]; exact congrArg (fun z : Nat => Ending.returned (Value.int .i64 (z : Int))) (Lib.count_one 47 _).symm, hw⟩)
    (by decide) (by decide) (by rw [if_pos (by decide), hN]; omega)
  refine ⟨⟨Tryz.f113, _, Tryz.func113, rfl, rfl⟩, c.mono fun e w' he => ?_⟩
  obtain ⟨rfl, rfl⟩ := he
  have hl : (Lib.splitB ⟨#[47]⟩ 0 (N - 1) ⟨a0.toArray⟩).length = N := by
    have := Lib.splitB_all ⟨#[47]⟩ (Nat.le_refl 1) 0 (N - 1) ⟨a0.toArray⟩ (by omega)
    omega
  have hd := Lib.splitB_data ⟨#[47]⟩ 0 (N - 1) ⟨a0.toArray⟩
  have hpc : (Lib.splitB ⟨#[47]⟩ 0 (N - 1) ⟨a0.toArray⟩).map (fun b => b.data.toList) = pieces a0 := by
    rw [hd]
    unfold pieces Lib.split
    rw [hN]
    rfl
  have hpl : (pieces a0).length = N := by rw [← hpc, List.length_map, hl]
  have hmp : (Lib.splitB ⟨#[47]⟩ 0 (N - 1) ⟨a0.toArray⟩).map Value.string = (pieces a0).map Go.Proofs.encStr := by
    rw [← hpc, List.map_map]
    apply List.map_congr_left
    intro b _
    show Value.string b = Value.string ⟨b.data.toList.toArray⟩
    rw [Array.toArray_toList]
  refine ⟨_, rfl, ext_alloc w _, _, rfl, (pieces a0).map Go.Proofs.encStr, ?_, elems_st _ _⟩
  refine ⟨by rw [List.length_map]; exact (Nat.mul_one _).symm, .inr ⟨w.heap.size, N, _, ?_, Nat.le_refl _, World.alloc_heap_new w _, ?_, ?_, ?_, ?_⟩⟩
  · rw [hl, hpl]
  · omega
  · unfold maxLen; omega
  · rw [Lib.cellsOf_size (by omega)]; exact (Nat.mul_one _).symm
  · have e1 : Lib.cellsOf (Lib.splitB ⟨#[47]⟩ 0 (N - 1) ⟨a0.toArray⟩) N = ((Lib.splitB ⟨#[47]⟩ 0 (N - 1) ⟨a0.toArray⟩).map Value.string).toArray := by
      have := Lib.cellsOf_full (Lib.splitB ⟨#[47]⟩ 0 (N - 1) ⟨a0.toArray⟩)
      rwa [hl] at this
    rw [e1, hmp]
    exact List.take_of_length_le (by rw [List.length_map]; exact Nat.le_of_eq (Nat.mul_one _).symm)
noncomputable def idxbL (a : List UInt8) (c : UInt8) : Option Int := some (Lib.indexByte a c)
theorem idxb_ok (w : World) (H : PH) (_hH : Le H (hp w)) {a0 : List UInt8} {a1 : UInt8} {r : Int} (h : idxbL a0 a1 = some r) :
    Ok Tryz.prog 140 [.string ⟨a0.toArray⟩, .int .u8 (a1.toNat : Int)] w (fun v w' => Ext w w' ∧ v = .int .i64 r) := by
  obtain rfl := Option.some.inj h
  refine ⟨⟨Tryz.f140, _, Tryz.func140, rfl, rfl⟩, (Any.strings_IndexByte Tryz.layIB ⟨a0.toArray⟩ (a1.toNat : Int) w).mono fun e w' he => ?_⟩
  obtain ⟨rfl, rfl⟩ := he
  refine ⟨_, rfl, Ext.refl _, ?_⟩
  have e : ((a1.toNat : Int).toNat).toUInt8 = a1 := by simp
  rw [e]
/-- Strings joined by a byte. -/
noncomputable def joinL (a : List (List UInt8)) (sep : List UInt8) : Option (List UInt8) := Go.L.chk (a.length ≤ 140737488355328 ∧ (Lib.join a sep).length ≤ 140737488355328) (some (Lib.join a sep))
theorem join_ok (w : World) (H : PH) (hH : Le H (hp w)) {a0 : List (List UInt8)} {a1 : List UInt8} {v : Value} (hv : Vec .st H v a0) {r : List UInt8} (h : joinL a0 a1 = some r) :
    Ok Tryz.prog 89 [v, .string ⟨a1.toArray⟩] w (fun v w' => Ext w w' ∧ v = .string ⟨r.toArray⟩) := by
  obtain ⟨⟨h1, h2⟩, h⟩ := Go.L.chk_some h
  obtain rfl := Option.some.inj h
  have X : Builder.Extra Tryz.prog Tryz.layJoin_ren := {
    liesBuilder := by kernel_rfl
    sizeBuilder := by kernel_rfl
    t5 := by kernel_rfl
    a5 := fun w => by kernel_rfl
    z5 := fun w => by kernel_rfl
    v5 := fun w => by kernel_rfl
    infoByte := by kernel_rfl
    cellsByte := by kernel_rfl
    sizeByte := by kernel_rfl
    neB5 := by decide }
  obtain ⟨a, cap, rfl, k2, k3, k4, k5⟩ := hv.ex
  have key : ∀ (P : Prop), ((a0 = [] → P) ∧ (∀ A, a = some A → a0 ≠ [] → P)) → P := fun P hP => by
    by_cases ha : a0 = []
    · exact hP.1 ha
    · cases a with
      | none => exact absurd (List.eq_nil_of_length_eq_zero (by have := k4 rfl; omega)) ha
      | some A => exact hP.2 A rfl ha
  refine key _ ⟨fun he => ?_, fun A hA hne => ?_⟩
  · subst he
    refine ⟨⟨Tryz.f89, _, Tryz.func89, rfl, rfl⟩, (Any.strings_Join_none Tryz.layJoin X a cap ⟨a1.toArray⟩ w).mono fun e w' hh => ?_⟩
    obtain ⟨rfl, rfl⟩ := hh
    exact ⟨_, rfl, Ext.refl _, rfl⟩
  · subst hA
    obtain ⟨k6, k7⟩ := k5 A rfl hne
    obtain ⟨b, o, sp⟩ := A
    simp only at k6
    subst k6
    have hcell : ∀ (j : Nat) x, (a0.map fun l => (⟨l.toArray⟩ : ByteArray))[j]? = some x → w.cell? ⟨b, o + j, none⟩ = some (.string x) := fun j x hx => by
      rw [List.getElem?_map] at hx
      cases hj : a0[j]? with
      | none => rw [hj] at hx; cases hx
      | some l =>
        rw [hj] at hx
        obtain rfl := Option.some.inj hx
        obtain ⟨c, hc, hcell⟩ := k7 j l hj
        obtain rfl : c = [.string ⟨l.toArray⟩] := hc
        have := cell_of hH (hcell 0 _ rfl)
        rwa [show (Rp.st).sz = 1 from rfl, Nat.mul_one, Nat.add_zero, Addr.add_lit] at this
    have hpos : 0 < a0.length := List.length_pos_iff.2 hne
    have hb : b < w.heap.size := by
      have h0 := hcell 0 ⟨(a0[0]'hpos).toArray⟩ (by simp [hpos])
      exact World.block_lt_of_cell? _ _ h0
    have e2 : (a0.map fun l => (⟨l.toArray⟩ : ByteArray)).map (·.data.toList) = a0 := by rw [List.map_map]; exact (List.map_congr_left (fun l _ => by simp)).trans (List.map_id _)
    have c := Any.strings_Join Tryz.layJoin X b o cap (a0.map fun l => (⟨l.toArray⟩ : ByteArray)) ⟨a1.toArray⟩ w hcell hb (by rw [List.length_map]; exact h1) (by rw [List.length_map]; omega) (by rw [e2]; simpa using h2)
    rw [e2, List.length_map] at c
    refine ⟨⟨Tryz.f89, _, Tryz.func89, rfl, rfl⟩, c.mono fun e w' hh => ?_⟩
    obtain ⟨rfl, hb'⟩ := hh
    exact ⟨_, rfl, Ext.off hb', by simp⟩
end Go.Proofs.YtmfiaecglndldaaGreatDoor
end
