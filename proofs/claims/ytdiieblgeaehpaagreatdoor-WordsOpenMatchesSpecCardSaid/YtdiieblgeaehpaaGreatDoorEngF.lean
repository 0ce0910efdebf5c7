/- Operations on memory, on live slots; no program in sight. -/
import Derived.Test.YtdiieblgeaehpaaGreatDoorEngD
namespace Go.E
open Go Go.RowKit
def Zr (P : Program) (t : TypeId) (z : Value) (sz bt : Nat) : Prop := (P.info? t).map (fun i => (i.zero, i.size, i.bytes)) = some (some z, sz, bt)
theorem Zr.parts {P : Program} {t : TypeId} {z : Value} {sz bt : Nat} (h : Zr P t z sz bt) : ∃ i, P.info? t = some i ∧ i.zero = some z ∧ i.size = sz ∧ i.bytes = bt := by
  unfold Zr at h
  cases hi : P.info? t with
  | none => rw [hi] at h; cases h
  | some i => rw [hi] at h; simp at h; exact ⟨i, rfl, h.1, h.2.1, h.2.2⟩
def plainT : TypeDesc → Bool
  | .struct _ | .array _ _ => false
  | _ => true
def aggT : TypeDesc → Bool
  | .struct _ | .array _ _ => true
  | _ => false
def nthR : List Res → Nat → Option Res
  | [], _ => none
  | r :: _, 0 => some r
  | _ :: l, i + 1 => nthR l i
def setR : List Res → Nat → Res → List Res
  | [], _, _ => []
  | _ :: l, 0, s => s :: l
  | r :: l, i + 1, s => r :: setR l i s
def delR : List Res → Nat → List Res
  | [], _ => []
  | _ :: l, 0 => l
  | r :: l, i + 1 => r :: delR l i
theorem perm_nth : ∀ {O : List Res} {i : Nat} {r : Res}, nthR O i = some r → O.Perm (r :: delR O i)
  | r :: l, 0, s, h => by simp only [nthR, Option.some.injEq] at h; subst h; exact List.Perm.refl _
  | r :: l, i + 1, s, h => ((perm_nth (O := l) (i := i) h).cons r).trans (List.Perm.swap _ _ _)
theorem perm_set : ∀ {O : List Res} {i : Nat} {r : Res} (s : Res), nthR O i = some r → (setR O i s).Perm (s :: delR O i)
  | _r :: _l, 0, _, _s, _h => List.Perm.refl _
  | r :: l, i + 1, _, s, h => ((perm_set (O := l) (i := i) s h).cons r).trans (List.Perm.swap _ _ _)
section
variable {w0 w w' : World} {O : List Res} {r r' : Res} {i : Nat}
theorem Lcl.at (h : Lcl w0 O w) (hi : nthR O i = some r) : r.ok w := h.res r ((perm_nth hi).mem_iff.2 (.head _))
theorem Lcl.turnAt (h : Lcl w0 O w) (hi : nthR O i = some r) (hdr : w.drawn ≤ w'.drawn) (hg : w.grownBy w' r.block) (hok : r'.ok w') (hb : ∀ b, r'.block = some b → r.block = some b ∨ w.heap.size ≤ b) : Lcl w0 (setR O i r') w' :=
  ((h.perm (perm_nth hi).symm).turn hdr hg hok hb).perm (perm_set r' hi)
theorem fz_turnAt (h : Lcl w0 O w) (hi : nthR O i = some r) (hg : w.grownBy w' r.block) (hb : ∀ b, r'.block = some b → r.block = some b ∨ w.heap.size ≤ b) : Le (fz w O) (fz w' (setR O i r')) := by
  rw [fz_perm (perm_set r' hi), fz_perm (perm_nth hi)]
  exact fz_turn (h.perm (perm_nth hi).symm) hg hb
/-- What is owned is given up: it lies fast from now on. -/
theorem Lcl.dropAt (h : Lcl w0 O w) (hi : nthR O i = some r) : Lcl w0 (delR O i) w := (h.perm (perm_nth hi).symm).drop
theorem fz_dropAt (hi : nthR O i = some r) : Le (fz w O) (fz w (delR O i)) := by
  rw [fz_perm (perm_nth hi)]; exact fz_drop
theorem fz_hp_drop {k : Nat} (hi : nthR O i = some r) (hb : r.block = some k) (hdis : O.Pairwise fun r s => ∀ b, r.block = some b → s.block ≠ some b) : fz w (delR O i) k = w.heap[k]? := by
  unfold fz
  rw [if_neg]
  intro ho
  obtain ⟨s, hs, e⟩ := owned_iff.1 ho
  have := (perm_nth hi).pairwise hdis (fun {x y} hxy b hb hx => hxy b hx hb)
  exact (List.pairwise_cons.1 this).1 s hs k hb e
end
section
variable {P : Program} {n : Sz} {ops : Array Oper} {Q : Exit → Act → World → Prop} {L : Env} {w w0 : World} {O : List Res} {rest : List Oper}
  {d : Nat} {ty : TypeId} {pos : String} {af : Array Edge} {α : Type} {r : Rp α} {H : PH} {x y : Operand} {v : Value} {t e : TypeId}
/-! ### What only looks -/
theorem r_len {l : List α} (hx : ev L x = some v) (ht : P.underlying t = some (.slice e)) (hv : Vec r H v l) : RunsAt P L w (.call ⟨.builtin .len, #[x], #[t]⟩) ty (.int .i64 (l.length : Int)) := by
  obtain ⟨a, cap, rfl⟩ := hv.header
  intro w' _ ρ hρ dst pos af g
  simp [execOp, resolve, hρ x _ hx, invoke, builtin, Builtin.len_, run_underlying ht, goInt]
theorem r_lenH {a : Option Addr} {m cap : Nat} (hx : ev L x = some (.slice a m cap)) (ht : P.underlying t = some (.slice e)) : RunsAt P L w (.call ⟨.builtin .len, #[x], #[t]⟩) ty (.int .i64 (m : Int)) := by
  intro w' _ ρ hρ dst pos af g
  simp [execOp, resolve, hρ x _ hx, invoke, builtin, Builtin.len_, run_underlying ht, goInt]
theorem ownsRow_header {b sz m : Nat} {xs : List Value} (h : w.ownsRow b e sz v m xs) : ∃ a cap, v = .slice a m cap := by
  rcases h.2 with ⟨rfl, hn⟩ | ⟨g, cap, cur, rfl, _⟩
  · exact ⟨none, 0, by rw [hn]⟩
  · exact ⟨_, _, rfl⟩
theorem r_lenR {i sz m : Nat} {xs : List Value} {e' : TypeId} (hx : ev L x = some v) (ht : P.underlying t = some (.slice e)) (hL : Lcl w0 O w) (hi : nthR O i = some (.row v e' sz m xs)) : RunsAt P L w (.call ⟨.builtin .len, #[x], #[t]⟩) ty (.int .i64 (m : Int)) := by
  obtain ⟨a, cap, rfl⟩ := ownsRow_header (hL.at hi)
  exact r_lenH hx ht
theorem addr_add_add {A : Addr} (h : A.spot = none) (i j : Nat) : (A.add i).add j = A.add (i + j) := by
  obtain ⟨b, o, s⟩ := A
  cases h
  simp [Addr.add_lit, Nat.add_assoc]
theorem addr_add_spot {A : Addr} (h : A.spot = none) (i : Nat) : (A.add i).spot = none := by
  obtain ⟨b, o, s⟩ := A
  cases h
  simp [Addr.add_lit]
theorem PtrTo.add {p : Addr} {c : List Value} (h : PtrTo H p c) (k : Nat) : PtrTo H (p.add k) (c.drop k) :=
  ⟨addr_add_spot h.1 k, fun j u hu => by rw [addr_add_add h.1]; exact h.2 (k + j) u (by simpa using hu)⟩
theorem PtrTo.mono {H' : PH} {p : Addr} {c : List Value} (h : PtrTo H p c) (hs : Le H H') : PtrTo H' p c := ⟨h.1, fun j u hu => cellP_mono hs (h.2 j u hu)⟩
/-- The place of an element. -/
theorem Vec.ptr {l : List α} (hv : Vec r H v l) (m : Nat) {z : α} (hl : l[m]? = some z) : ∃ (a : Addr) (cap : Nat) (c : List Value), v = .slice (some a) l.length cap ∧ r.rel H z c ∧ PtrTo H (a.add (m * r.sz)) c := by
  obtain ⟨a, cap, h1, h2, h3, h4, h5⟩ := hv.ex
  have hlt : m < l.length := (List.getElem?_eq_some_iff.1 hl).1
  cases a with
  | none => have := h4 rfl; omega
  | some A =>
    obtain ⟨hs, hh⟩ := h5 A rfl (fun e => by subst e; simp at hlt)
    obtain ⟨c, hc, hcell⟩ := hh m z hl
    exact ⟨A, cap, c, h1, hc, addr_add_spot hs _, fun j u hu => by rw [addr_add_add hs]; exact hcell j u hu⟩
theorem r_index {l : List α} {k : IntKind} {i : Int} {zz : Value} {bt : Nat} (hx : ev L x = some v) (hy : ev L y = some (.int k i)) (ht : P.underlying t = some (.slice e)) (he : Zr P e zz r.sz bt) (hv : Vec r H v l) (m : Nat) (hm : i = (m : Int)) {z : α} (hl : l[m]? = some z) :
    ∃ p c, r.rel H z c ∧ PtrTo H p c ∧ ∀ w, RunsAt P L w (.indexAddr t x y) ty (.pointer (some p)) := by
  obtain ⟨a, cap, c, rfl, hc, hp⟩ := hv.ptr m hl
  refine ⟨_, c, hc, hp, fun w w' _ ρ hρ dst pos af g => ?_⟩
  obtain ⟨inf, h1, h2, h3, h4⟩ := he.parts
  have hlt : m < l.length := (List.getElem?_eq_some_iff.1 hl).1
  subst hm
  have e1 : (0 : Int) ≤ (m : Int) ∧ (m : Int) < (l.length : Int) := by omega
  simp [execOp, hρ x _ hx, hρ y _ hy, Instr.indexAt, asIntOf, run_underlying ht, sizeOf, typeInfo, h1, h3, hlt]
theorem r_load1 {p : Addr} {u : Value} {c : List Value} {dd : TypeDesc} (hx : ev L x = some (.pointer (some p))) (ht : P.underlying t = some dd) (hd : plainT dd = true) (hp' : PtrTo H p (u :: c)) (hs : Le H (hp w)) : RunsAt P L w (.load t x) ty u := by
  intro w' hw ρ hρ dst pos af g
  have hcell : w'.cell? p = some u := by
    have := hp'.2 0 u (by simp)
    rw [Addr.add_zero'] at this
    exact cell_of (hs.ext hw) this
  cases dd <;> simp only [plainT, Bool.false_eq_true] at hd <;>
    simp [execOp, hρ x _ hx, Instr.loadAt, Instr.sureAddr, loadVar, isAgg, run_underlying ht, hcell]
theorem run_loadCellsFrom {p : Addr} (w : World) : ∀ (m i : Nat) (c : List Value) (acc : Array Value), c.length = m → (∀ j u, c[j]? = some u → w.cell? (p.add (i + j)) = some u) →
    (loadCellsFrom p i m acc).run P w = .ok (acc ++ c.toArray) w
  | 0, i, c, acc, hl, _ => by
    have : c = [] := List.eq_nil_of_length_eq_zero hl
    subst this
    simp [loadCellsFrom]
  | m + 1, i, [], acc, hl, _ => by simp at hl
  | m + 1, i, u :: c, acc, hl, h => by
    have h0 : w.cell? (p.add i) = some u := by simpa using h 0 u (by simp)
    have ih := run_loadCellsFrom w m (i + 1) c (acc.push u) (by simpa using hl) (fun j v hv => by have := h (j + 1) v (by simpa using hv); rwa [show i + (j + 1) = i + 1 + j from by omega] at this)
    simp [loadCellsFrom, h0, ih]
theorem r_loadN {p : Addr} {c : List Value} {dd : TypeDesc} {zz : Value} {bt : Nat} (hx : ev L x = some (.pointer (some p))) (ht : P.underlying t = some dd) (hd : aggT dd = true) (hz : Zr P t zz c.length bt) (hp' : PtrTo H p c) (hs : Le H (hp w)) : RunsAt P L w (.load t x) ty (.agg c.toArray) := by
  intro w' hw ρ hρ dst pos af g
  obtain ⟨inf, h1, h2, h3, h4⟩ := hz.parts
  have hload := run_loadCellsFrom (P := P) (p := p) w' c.length 0 c #[] rfl (fun j u hu => by rw [Nat.zero_add]; exact cell_of (hs.ext hw) (hp'.2 j u hu))
  cases dd <;> simp only [aggT, Bool.false_eq_true] at hd <;>
    simp [execOp, hρ x _ hx, Instr.loadAt, Instr.sureAddr, loadVar, isAgg, run_underlying ht, loadCells, sizeOf, typeInfo, h1, h3, hload]
/-- The address of a field. -/
theorem r_field {p : Addr} {fs : Array Field} {f : Nat} {fd : Field} {zz : Value} {sz bt : Nat} (hx : ev L x = some (.pointer (some p))) (ht : P.underlying t = some (.struct fs)) (hf : fs[f]? = some fd) (hz : Zr P fd.type zz sz bt) (hne : sz ≠ 0) :
    RunsAt P L w (.fieldAddr t x f) ty (.pointer (some (p.add fd.offset))) := by
  intro w' hw ρ hρ dst pos af g
  obtain ⟨inf, h1, h2, h3, h4⟩ := hz.parts
  simp [execOp, hρ x _ hx, Instr.fieldAt, run_underlying ht, hf, Instr.sureAddr, fieldPlace, sizeOf, typeInfo, h1, h3, hne]
/-- A field of a struct's value, one cell. -/
theorem r_part {cs : Array Value} {fs : Array Field} {f : Nat} {fd : Field} {dd : TypeDesc} {u : Value} (hx : ev L x = some (.agg cs)) (ht : P.underlying t = some (.struct fs)) (hf : fs[f]? = some fd) (hd : P.underlying fd.type = some dd) (hp : plainT dd = true) (hu : nth cs.toList fd.offset = some u) :
    RunsAt P L w (.field t x f) ty u := by
  intro w' hw ρ hρ dst pos af g
  rw [nth_eq] at hu
  have hu' : cs[fd.offset]? = some u := by simpa using hu
  cases dd <;> simp only [plainT, Bool.false_eq_true] at hp <;>
    simp [execOp, hρ x _ hx, Instr.field, run_underlying ht, hf, asAgg, part, isAgg, run_underlying hd, hu']
/-- 'x[lo:hi]'. -/
theorem Vec.sub {l : List α} (hv : Vec r H v l) (lo hi : Nat) (h1 : lo ≤ hi) (h2 : hi ≤ l.length) : ∃ a cap, v = .slice a l.length cap ∧ Vec r H (.slice (if cap = lo then a else a.map (·.add (lo * r.sz))) (hi - lo) (cap - lo)) ((l.drop lo).take (hi - lo)) := by
  obtain ⟨a, cap, rfl, h2', h3, h4, h5⟩ := hv.ex
  refine ⟨a, cap, rfl, ?_⟩
  have hlen : ((l.drop lo).take (hi - lo)).length = hi - lo := by simp; omega
  refine ⟨_, cap - lo, by rw [hlen], by rw [hlen]; omega, by omega, ?_, ?_⟩
  · intro ha
    split at ha
    · rename_i e; omega
    · cases a with
      | none => have := h4 rfl; omega
      | some A => cases ha
  · intro A hA hne
    have hpos : lo < hi := by
      rcases Nat.lt_or_ge lo hi with h | h
      · exact h
      · exfalso; apply hne; simp; omega
    rw [if_neg (by omega)] at hA
    cases a with
    | none => cases hA
    | some A0 =>
      cases hA
      obtain ⟨hs, hh⟩ := h5 A0 rfl (fun e => by subst e; simp at h2; omega)
      refine ⟨addr_add_spot hs _, fun i z hz => ?_⟩
      rw [List.getElem?_take] at hz
      split at hz
      · rw [List.getElem?_drop] at hz
        obtain ⟨c, hc, hcell⟩ := hh (lo + i) z hz
        refine ⟨c, hc, fun j u hu => ?_⟩
        rw [addr_add_add hs, show lo * r.sz + (i * r.sz + j) = (lo + i) * r.sz + j from by rw [Nat.add_mul]; omega]
        exact hcell j u hu
      · cases hz
def loB (L : Env) (lo : Option Operand) (a : Nat) : Prop := match lo with | some o => ∃ k, ev L o = some (.int k (a : Int)) | none => a = 0
def hiB (L : Env) (hi : Option Operand) (b m : Nat) : Prop := match hi with | some o => ∃ k, ev L o = some (.int k (b : Int)) | none => b = m
theorem r_slice {l : List α} {lo hi : Option Operand} {zz : Value} {bt : Nat} (hx : ev L x = some v) (ht : P.underlying t = some (.slice e)) (he : Zr P e zz r.sz bt) (hv : Vec r H v l) (a b : Nat)
    (ha : loB L lo a) (hb : hiB L hi b l.length) (h1 : a ≤ b) (h2 : b ≤ l.length) :
    ∃ v', Vec r H v' ((l.drop a).take (b - a)) ∧ ∀ w, RunsAt P L w (.slice t x lo hi none) ty v' := by
  obtain ⟨A, cap, hv0, hsub⟩ := hv.sub a b h1 h2
  refine ⟨_, hsub, fun w w' _ ρ hρ dst pos af g => ?_⟩
  obtain ⟨inf, i1, i2, i3, i4⟩ := he.parts
  obtain ⟨A', cap', h0, hc1, hc2, hc3, hc4⟩ := hv.ex
  have hcc : cap = cap' := by rw [hv0] at h0; cases h0; rfl
  have hbc : b ≤ cap := by omega
  subst hv0
  have e2 : (b : Int) ≤ (cap : Int) := by omega
  have e3 : (a : Int) ≤ (b : Int) := by omega
  cases lo with
  | none =>
    simp only [loB] at ha
    subst ha
    cases hi with
    | none =>
      simp only [hiB] at hb
      subst hb
      simp [execOp, hρ x _ hx, Instr.sliceAt, run_underlying ht, Instr.slice, Instr.sliceBounds, sizeOf, typeInfo, i1]
    | some o2 =>
      obtain ⟨k2, hb⟩ := hb
      simp [execOp, hρ x _ hx, hρ o2 _ hb, Instr.sliceAt, run_underlying ht, Instr.slice, Instr.sliceBounds, Instr.sliceBound, asIntOf, sizeOf, typeInfo, i1, hbc]
  | some o1 =>
    obtain ⟨k1, ha⟩ := ha
    cases hi with
    | none =>
      simp only [hiB] at hb
      subst hb
      simp [execOp, hρ x _ hx, hρ o1 _ ha, Instr.sliceAt, run_underlying ht, Instr.slice, Instr.sliceBounds, Instr.sliceBound, asIntOf, sizeOf, typeInfo, i1, i3, h1]
    | some o2 =>
      obtain ⟨k2, hb⟩ := hb
      simp [execOp, hρ x _ hx, hρ o1 _ ha, hρ o2 _ hb, Instr.sliceAt, run_underlying ht, Instr.slice, Instr.sliceBounds, Instr.sliceBound, asIntOf, sizeOf, typeInfo, i1, i3, hbc, h1]
/-! ### The same as steps -/
theorem getD_some {β : Type} [Inhabited β] {l : List β} {m : Nat} (h : m < l.length) : l[m]? = some (l.getD m default) := by simp [h]
theorem S_index [Inhabited α] {l : List α} {k : IntKind} {i : Int} {zz : Value} {bt : Nat} (hx : ev L x = some v) (hy : ev L y = some (.int k i)) (ht : P.underlying t = some (.slice e)) (he : Zr P e zz r.sz bt) (hv : Vec r H v l) (m : Nat) (hm : i = (m : Int)) (hlt : m < l.length) (hn : Nat.blt d n.n = true)
    (h : ∀ p c, r.rel H (l.getD m default) c → PtrTo H p c → S P n ops Q rest ((d, .pointer (some p)) :: L) w) : S P n ops Q (⟨some d, .indexAddr t x y, ty, pos, af, none⟩ :: rest) L w := by
  obtain ⟨p, c, h1, h2, h3⟩ := r_index (P := P) (ty := ty) hx hy ht he hv m hm (getD_some hlt)
  exact S_v (h3 w) hn (h p c h1 h2)
theorem D_index [Inhabited α] {lo : List Oper} {ix : Nat} {tr : Tr} {l : List α} {k : IntKind} {i : Int} {zz : Value} {bt : Nat} (ho : nthO lo ix = some ⟨some d, .indexAddr t x y, ty, pos, af, none⟩) (hx : ev L x = some v) (hy : ev L y = some (.int k i)) (ht : P.underlying t = some (.slice e)) (he : Zr P e zz r.sz bt) (hv : Vec r H v l) (m : Nat) (hm : i = (m : Int)) (hlt : m < l.length) (hn : Nat.blt d n.n = true)
    (h : ∀ p c, r.rel H (l.getD m default) c → PtrTo H p c → D P n lo Q tr ((d, .pointer (some p)) :: L) w) : D P n lo Q (.q ix tr) L w := by
  obtain ⟨p, c, h1, h2, h3⟩ := r_index (P := P) (ty := ty) hx hy ht he hv m hm (getD_some hlt)
  exact D_v (h3 w) ho hn (h p c h1 h2)
theorem D_indexg [Inhabited α] {lo : List Oper} {ix : Nat} {tr : Tr} {l : List α} {k : IntKind} {i : Int} {zz : Value} {bt j s : Nat} {want b : Bool} {oj : Oper} (ho : nthO lo ix = some ⟨some d, .indexAddr t x y, ty, pos, af, some (j, want)⟩) (hj : nthO lo j = some oj) (hd : oj.dst = some s) (hb : gt L s = some (.bool b)) (hw : b = want)
    (hx : ev L x = some v) (hy : ev L y = some (.int k i)) (ht : P.underlying t = some (.slice e)) (he : Zr P e zz r.sz bt) (hv : Vec r H v l) (m : Nat) (hm : i = (m : Int)) (hlt : m < l.length) (hn : Nat.blt d n.n = true)
    (h : ∀ p c, r.rel H (l.getD m default) c → PtrTo H p c → D P n lo Q tr ((d, .pointer (some p)) :: L) w) : D P n lo Q (.q ix tr) L w := by
  obtain ⟨p, c, h1, h2, h3⟩ := r_index (P := P) (ty := ty) hx hy ht he hv m hm (getD_some hlt)
  exact D_vg (h3 w) ho hj hd hb hw hn (h p c h1 h2)
theorem S_slice {l : List α} {lo hi : Option Operand} {zz : Value} {bt : Nat} (hx : ev L x = some v) (ht : P.underlying t = some (.slice e)) (he : Zr P e zz r.sz bt) (hv : Vec r H v l) (a b : Nat)
    (ha : loB L lo a) (hb : hiB L hi b l.length) (hab : a ≤ b ∧ b ≤ l.length) (hn : Nat.blt d n.n = true)
    (h : ∀ v', Vec r H v' ((l.drop a).take (b - a)) → S P n ops Q rest ((d, v') :: L) w) : S P n ops Q (⟨some d, .slice t x lo hi none, ty, pos, af, none⟩ :: rest) L w := by
  obtain ⟨v', h1, h2⟩ := r_slice (P := P) (ty := ty) hx ht he hv a b ha hb hab.1 hab.2
  exact S_v (h2 w) hn (h v' h1)
theorem D_slice {lop : List Oper} {ix : Nat} {tr : Tr} {l : List α} {lo hi : Option Operand} {zz : Value} {bt : Nat} (ho : nthO lop ix = some ⟨some d, .slice t x lo hi none, ty, pos, af, none⟩) (hx : ev L x = some v) (ht : P.underlying t = some (.slice e)) (he : Zr P e zz r.sz bt) (hv : Vec r H v l) (a b : Nat)
    (ha : loB L lo a) (hb : hiB L hi b l.length) (hab : a ≤ b ∧ b ≤ l.length) (hn : Nat.blt d n.n = true)
    (h : ∀ v', Vec r H v' ((l.drop a).take (b - a)) → D P n lop Q tr ((d, v') :: L) w) : D P n lop Q (.q ix tr) L w := by
  obtain ⟨v', h1, h2⟩ := r_slice (P := P) (ty := ty) hx ht he hv a b ha hb hab.1 hab.2
  exact D_v (h2 w) ho hn (h v' h1)
theorem Vec.one {l : List α} (h : Vec r H v l) : v.oneCell' = true := by obtain ⟨a, c, rfl⟩ := h.header; rfl
end
end Go.E
namespace Go.E
open Go Go.RowKit
theorem on0 : ∀ u ∈ ([] : List Value), u.oneCell' = true := fun _ h => by cases h
theorem onc {v : Value} {l : List Value} (hv : v.oneCell' = true) (hl : ∀ u ∈ l, u.oneCell' = true) : ∀ u ∈ v :: l, u.oneCell' = true := fun u hu => by
  cases hu with
  | head => exact hv
  | tail _ h => exact hl u h
theorem ext_alloc (w : World) (o : Obj) : Ext w (w.alloc o) := ⟨(Below.refl _ _).alloc (Nat.le_refl _) o⟩
theorem grownBy_ext {w w' : World} (_ : w.drawn ≤ w'.drawn) (h : w.grownBy w' none) : Ext w w' := ⟨⟨h.os, h.tape, h.output, h.size, fun k hk => h.block k hk (by simp)⟩⟩
def setC : List Value → Nat → Value → List Value
  | [], _, _ => []
  | _ :: l, 0, v => v :: l
  | u :: l, i + 1, v => u :: setC l i v
theorem setC_eq : ∀ (l : List Value) (i : Nat) (v : Value), setC l i v = l.set i v
  | [], _, _ => by simp [setC]
  | _ :: _, 0, _ => by simp [setC]
  | _ :: l, i + 1, v => by simp [setC, setC_eq l i v]
section
variable {P : Program} {n : Sz} {ops : Array Oper} {Q : Exit → Act → World → Prop} {L : Env} {w w0 : World} {O : List Res} {rest : List Oper}
  {d : Nat} {ty : TypeId} {pos : String} {af : Array Edge} {α : Type} {r : Rp α} {H : PH} {x y : Operand} {v : Value} {t e : TypeId}
/-! ### Variables -/
theorem run_alloc {z : Value} {sz bt : Nat} (hz : Zr P t z sz bt) (w : World) (ρ : Operand → Value) (o : Oper) (ho : o.op = .alloc t) : (execOp ρ o).run P w = .ok (.value (.pointer (some ⟨w.heap.size, 0, none⟩))) (w.alloc (.cells z.cells t)) := by
  obtain ⟨inf, h1, h2, h3, h4⟩ := hz.parts
  simp [execOp, ho, Instr.alloc, zeroValue, typeInfo, h1, h2, newVar, newRow]
theorem box_new {cs : List Value} (hL : Lcl w0 O w) : Lcl w0 (.box w.heap.size cs t :: O) (w.alloc (.cells cs.toArray t)) :=
  hL.new (ext_alloc _ _) (heap_alloc_new w _) (fun b hb => by cases hb; exact Nat.le_refl _)
theorem box_newLe {cs : List Value} (hL : Lcl w0 O w) : Le (fz w O) (fz (w.alloc (.cells cs.toArray t)) (.box w.heap.size cs t :: O)) :=
  fz_new hL (ext_alloc _ _) (fun b hb => by cases hb; exact Nat.le_refl _)
/-- 'var x T'. -/
theorem S_alloc {z : Value} {sz bt : Nat} {cs : List Value} (hz : Zr P t z sz bt) (hc : z.cells.toList = cs) (hn : Nat.blt d n.n = true) (hL : Lcl w0 O w)
    (h : ∀ w' b, Lcl w0 (.box b cs t :: O) w' → Le (fz w O) (fz w' (.box b cs t :: O)) → Ext w w' → S P n ops Q rest ((d, .pointer (some ⟨b, 0, none⟩)) :: L) w') : S P n ops Q (⟨some d, .alloc t, ty, pos, af, none⟩ :: rest) L w := by
  subst hc
  refine S_value rfl rfl hn (fun ρ _ => run_alloc hz w ρ _ rfl) ?_
  have e : (Obj.cells z.cells t : Obj) = .cells z.cells.toList.toArray t := by simp
  rw [e]
  exact h _ _ (box_new hL) (box_newLe hL) (ext_alloc _ _)
/-- A parameter or a value moves into a variable. -/
theorem S_box {cs : List Value} (hx : ev L x = some v) (hc : v.cells.toList = cs) (hn : Nat.blt d n.n = true) (hL : Lcl w0 O w)
    (h : ∀ w' b, Lcl w0 (.box b cs t :: O) w' → Le (fz w O) (fz w' (.box b cs t :: O)) → Ext w w' → S P n ops Q rest ((d, .pointer (some ⟨b, 0, none⟩)) :: L) w') : S P n ops Q (⟨some d, .box t x, ty, pos, af, none⟩ :: rest) L w := by
  subst hc
  refine S_value (v := .pointer (some ⟨w.heap.size, 0, none⟩)) (w' := w.alloc (.cells v.cells t)) rfl rfl hn (fun ρ hρ => by simp [execOp, hρ x _ hx, Instr.box, newVar, newRow]) ?_
  have e : (Obj.cells v.cells t : Obj) = .cells v.cells.toList.toArray t := by simp
  rw [e]
  exact h _ _ (box_new hL) (box_newLe hL) (ext_alloc _ _)
theorem box_ptr {i b : Nat} {cs : List Value} {t' : TypeId} (hL : Lcl w0 O w) (hi : nthR O i = some (.box b cs t')) : PtrTo (hp w) ⟨b, 0, none⟩ cs :=
  ⟨rfl, fun j u hu => by
    have := hL.at hi
    rw [Addr.add_lit, Nat.zero_add, cellP_hp, cell_of_row w b j _ _ _ this]
    simpa using hu⟩
theorem nth_drop : ∀ (cs : List Value) (o : Nat) (u : Value), nth cs o = some u → ∃ c, cs.drop o = u :: c
  | _ :: cs, 0, u, h => by simp only [nth, Option.some.injEq] at h; subst h; exact ⟨cs, rfl⟩
  | _ :: cs, o + 1, u, h => nth_drop cs o u h
/-- One cell of a variable. -/
theorem r_loadB1 (i : Nat) {b off : Nat} {cs : List Value} {t' : TypeId} {u : Value} {dd : TypeDesc} (hx : ev L x = some (.pointer (some ⟨b, off, none⟩))) (ht : P.underlying t = some dd) (hd : plainT dd = true) (hL : Lcl w0 O w) (hi : nthR O i = some (.box b cs t')) (hu : nth cs off = some u) : RunsAt P L w (.load t x) ty u := by
  obtain ⟨c, hc⟩ := nth_drop cs off u hu
  have h1 := (box_ptr hL hi).add off
  rw [hc, Addr.add_lit, Nat.zero_add] at h1
  exact r_load1 hx ht hd h1 (Le.refl _)
/-- A whole variable. -/
theorem r_loadBN (i : Nat) {b : Nat} {cs : List Value} {t' : TypeId} {dd : TypeDesc} {zz : Value} {bt : Nat} (hx : ev L x = some (.pointer (some ⟨b, 0, none⟩))) (ht : P.underlying t = some dd) (hd : aggT dd = true) (hz : Zr P t zz cs.length bt) (hL : Lcl w0 O w) (hi : nthR O i = some (.box b cs t')) : RunsAt P L w (.load t x) ty (.agg cs.toArray) :=
  r_loadN hx ht hd hz (box_ptr hL hi) (Le.refl _)
theorem setRow_heap_same (w : World) (g : Nat) (cur cs : Array Value) (t : TypeId) (hg : w.heap[g]? = some (.cells cur t (0, 0))) : (w.setRow g cs).heap[g]? = some (.cells cs t (0, 0)) := setRow_heap w g cur cs t (0, 0) hg
theorem grownBy_setRow (w : World) (g : Nat) (cs : Array Value) : w.grownBy (w.setRow g cs) (some g) :=
  ⟨rfl, rfl, rfl, by simp, fun k _ hk => setRow_other w g k _ (fun e => hk (by simp [e]))⟩
/-- A store of a whole variable. -/
theorem S_storeBN (i : Nat) {b : Nat} {cs vs : List Value} {t' : TypeId} {zz : Value} {bt : Nat} (hx : ev L x = some (.pointer (some ⟨b, 0, none⟩))) (hy : ev L y = some v) (hc : v.cells.toList = vs) (hz : Zr P t zz vs.length bt) (hL : Lcl w0 O w) (hi : nthR O i = some (.box b cs t')) (hlen : cs.length = vs.length) (h1 : ∀ u ∈ vs, u.oneCell' = true)
    (h : ∀ w', Lcl w0 (setR O i (.box b vs t')) w' → Le (fz w O) (fz w' (setR O i (.box b vs t'))) → S P n ops Q rest L w') : S P n ops Q (⟨none, .store t x y, ty, pos, af, none⟩ :: rest) L w := by
  subst hc
  obtain ⟨inf, i1, i2, i3, i4⟩ := hz.parts
  have hb : w.heap[b]? = some (.cells cs.toArray t' (0, 0)) := hL.at hi
  have hst := run_storeCells_at P b 0 t' v.cells.toList 0 cs.toArray w hb (by simp at hlen ⊢; omega) h1
  simp only [Nat.zero_add, List.take_zero, List.nil_append] at hst
  have hdrop : cs.drop v.cells.toList.length = [] := by simp at hlen ⊢; omega
  simp only [hdrop, List.append_nil, Array.toArray_toList] at hst
  have hsz : v.cells.size = inf.size := by rw [i3]; simp
  refine S_effect (w' := w.setRow b v.cells) rfl rfl (fun ρ hρ => by
    simp [execOp, hρ x _ hx, hρ y _ hy, Instr.storeAt, Instr.sureAddr, storeVar, sizeOf, typeInfo, i1, hsz, hst]) ?_
  have hg := grownBy_setRow w b v.cells
  have hok : Res.ok (w.setRow b v.cells) (.box b v.cells.toList t') := by
    show (w.setRow b v.cells).heap[b]? = _
    simpa using setRow_heap_same w b cs.toArray v.cells t' hb
  exact h _ (hL.turnAt hi (Nat.le_refl _) hg hok (fun b' e => .inl e)) (fz_turnAt hL hi hg (fun b' e => .inl e))
/-- A store of one cell of a variable. -/
theorem S_storeB1 (i : Nat) {b off : Nat} {cs : List Value} {t' : TypeId} {zz : Value} {bt : Nat} (hx : ev L x = some (.pointer (some ⟨b, off, none⟩))) (hy : ev L y = some v) (hv : v.oneCell' = true) (hz : Zr P t zz 1 bt) (hL : Lcl w0 O w) (hi : nthR O i = some (.box b cs t')) (hlt : Nat.blt off cs.length = true)
    (h : ∀ w', Lcl w0 (setR O i (.box b (setC cs off v) t')) w' → Le (fz w O) (fz w' (setR O i (.box b (setC cs off v) t'))) → S P n ops Q rest L w') : S P n ops Q (⟨none, .store t x y, ty, pos, af, none⟩ :: rest) L w := by
  obtain ⟨inf, i1, i2, i3, i4⟩ := hz.parts
  have hb : w.heap[b]? = some (.cells cs.toArray t' (0, 0)) := hL.at hi
  have hlt' := blt_lt hlt
  have hvc : v.cells = #[v] := by cases v <;> simp_all [Value.cells, Value.oneCell']
  have hst := run_storeCells_at P b off t' [v] 0 cs.toArray w hb (by simp; omega) (by simpa using hv)
  have hcell : w.cell? ⟨b, off, none⟩ = some cs[off] := by rw [cell_of_row w b off _ _ _ hb]; simp [hlt']
  have hfz : w.frozen? ⟨b, off, none⟩ = false := frozen_of_row w b off _ _ hb
  refine S_effect (w' := w.setCell ⟨b, off, none⟩ v) rfl rfl (fun ρ hρ => by
    simp [execOp, hρ x _ hx, hρ y _ hy, Instr.storeAt, Instr.sureAddr, storeVar, sizeOf, typeInfo, i1, i3, hvc, storeCells, run_store, hv, Addr.add_zero', hcell, hfz]) ?_
  have hsame := heap_setCell_same w b off cs.toArray t' v hb
  have hg : w.grownBy (w.setCell ⟨b, off, none⟩ v) (some b) := ⟨rfl, rfl, rfl, by simp, fun k _ hk => heap_setCell_other w ⟨b, off, none⟩ k v (fun e => hk (by simp [e]))⟩
  have hok : Res.ok (w.setCell ⟨b, off, none⟩ v) (.box b (setC cs off v) t') := by
    show (w.setCell ⟨b, off, none⟩ v).heap[b]? = _
    rw [hsame, setC_eq]; simp
  exact h _ (hL.turnAt hi (Nat.le_refl _) hg hok (fun b' e => .inl e)) (fz_turnAt hL hi hg (fun b' e => .inl e))
/-! ### Calls -/
/-- A call that leaves all as it was but for new memory. -/
theorem S_callL {f : FuncId} {args : List Operand} {vs : List Value} {at_ : Array TypeId} {R : Value → World → Prop} (ha : evl L args = some vs) (hn : Nat.blt d n.n = true) (hL : Lcl w0 O w) (hok : Ok P f vs w (fun v w' => Ext w w' ∧ R v w'))
    (h : ∀ v w', R v w' → Ext w w' → Lcl w0 O w' → Le (fz w O) (fz w' O) → S P n ops Q rest ((d, v) :: L) w') : S P n ops Q (⟨some d, .call ⟨.value (.func f), args.toArray, at_⟩, ty, pos, af, none⟩ :: rest) L w :=
  S_call ha hn hok fun v w' ⟨hx, hR⟩ => h v w' hR hx (hL.call hx) (fz_ext hL hx)
/-! ### Struct values -/
def setAll (zs : List Value) : List (Nat × Value) → List Value
  | [] => zs
  | (i, v) :: rest => setAll (setC zs i v) rest
def evp (L : Env) : List (Nat × Operand) → Option (List (Nat × Value))
  | [] => some []
  | (i, x) :: l => match ev L x, evp L l with
    | some v, some vs => some ((i, v) :: vs)
    | _, _ => none
theorem Rho.mapp {ρ : Operand → Value} (h : Rho L ρ) : ∀ (l : List (Nat × Operand)) (vs : List (Nat × Value)), evp L l = some vs → l.map (fun (i, x) => (i, ρ x)) = vs
  | [], vs, e => by simp only [evp, Option.some.injEq] at e; simpa using e
  | (i, x) :: l, vs, e => by
    unfold evp at e
    split at e
    · rename_i v us h1 h2; cases e; simp [h x v h1, Rho.mapp h l us h2]
    · cases e
/-- A struct's value, by its own run. -/
theorem r_build {ps : List (Nat × Operand)} {vs : List (Nat × Value)} {u : Value} (hp : evp L ps = some vs) (hr : ∀ w, (Instr.build t vs.toArray).run P w = .ok u w) : RunsAt P L w (.build t ps.toArray) ty u := by
  intro w' _ ρ hρ dst pos af g
  have e := hρ.mapp _ _ hp
  have e' : (ps.toArray.map fun (i, x) => (i, ρ x)) = vs.toArray := by rw [← e]; simp
  simp [execOp, e', hr w', -List.map_toArray]
/-! ### Rows -/
/-- A slice whose cells are these, somewhere. -/
def Src (H : PH) (sz : Nat) (v : Value) (m : Nat) (news : List Value) : Prop :=
  news.length = m * sz ∧ ∃ a cap, v = .slice a m cap ∧ m ≤ cap ∧ cap ≤ maxLen ∧ (a = none → cap = 0) ∧ ∀ A, a = some A → m ≠ 0 → A.spot = none ∧ ∀ j u, news[j]? = some u → cellP H (A.add j) = some u
theorem Src.mono {H' : PH} {sz m : Nat} {news : List Value} (h : Src H sz v m news) (hs : Le H H') : Src H' sz v m news := by
  obtain ⟨h1, a, cap, h2, h3, h4, h5, h6⟩ := h
  exact ⟨h1, a, cap, h2, h3, h4, h5, fun A hA hm => ⟨(h6 A hA hm).1, fun j u hu => cellP_mono hs ((h6 A hA hm).2 j u hu)⟩⟩
theorem Vec.elems {l : List α} (hv : Vec r H v l) : ∃ news, Elems r H l news ∧ Src H r.sz v l.length news := by
  obtain ⟨a, cap, h1, h2, h3, h4, h5⟩ := hv.ex
  cases a with
  | none =>
    have : l.length = 0 := by have := h4 rfl; omega
    have : l = [] := List.eq_nil_of_length_eq_zero this
    subst this
    exact ⟨[], .nil, by simp, none, cap, h1, h2, h3, h4, fun A hA => by cases hA⟩
  | some A =>
    by_cases hl : l = []
    · subst hl
      exact ⟨[], .nil, by simp, some A, cap, h1, h2, h3, h4, fun _ _ hm => absurd rfl hm⟩
    obtain ⟨hs, hh⟩ := h5 A rfl hl
    have key : ∀ (m : List α) (k : Nat), (∀ i x, m[i]? = some x → ∃ c, r.rel H x c ∧ ∀ j u, c[j]? = some u → cellP H (A.add ((k + i) * r.sz + j)) = some u) →
        ∃ news, Elems r H m news ∧ ∀ j u, news[j]? = some u → cellP H (A.add (k * r.sz + j)) = some u := by
      intro m
      induction m with
      | nil => intro k _; exact ⟨[], .nil, fun j u hu => by cases hu⟩
      | cons x m ih =>
        intro k hm
        obtain ⟨c, hc, hcell⟩ := hm 0 x (by simp)
        obtain ⟨news, hn1, hn2⟩ := ih (k + 1) (fun i y hy => by have := hm (i + 1) y (by simpa using hy); rwa [show k + (i + 1) = k + 1 + i from by omega] at this)
        refine ⟨c ++ news, .cons hc hn1, fun j u hu => ?_⟩
        rcases Nat.lt_or_ge j c.length with hj | hj
        · rw [List.getElem?_append_left hj] at hu
          have := hcell j u hu
          rwa [Nat.add_zero] at this
        · rw [List.getElem?_append_right hj] at hu
          have := hn2 _ u hu
          rw [r.len hc] at this hj
          rw [show k * r.sz + j = (k + 1) * r.sz + (j - r.sz) from by rw [Nat.add_mul]; omega]
          exact this
    obtain ⟨news, hn1, hn2⟩ := key l 0 (fun i x hx => by rw [Nat.zero_add]; exact hh i x hx)
    refine ⟨news, hn1, hn1.len, some A, cap, h1, h2, h3, h4, fun A' hA' _ => ?_⟩
    cases hA'
    exact ⟨hs, fun j u hu => by have := hn2 j u hu; rwa [Nat.zero_mul, Nat.zero_add] at this⟩
theorem vec_of_src {l : List α} {news : List Value} (he : Elems r H l news) (h : Src H r.sz v l.length news) : Vec r H v l := by
  obtain ⟨h1, a, cap, h2, h3, h4, h5, h6⟩ := h
  refine ⟨a, cap, h2, h3, h4, h5, fun A hA hl => ?_⟩
  obtain ⟨hs, hh⟩ := h6 A hA (fun e => hl (List.eq_nil_of_length_eq_zero e))
  refine ⟨hs, fun i x hx => ?_⟩
  obtain ⟨c, hc, hcell⟩ := he.at i x hx
  exact ⟨c, hc, fun j u hu => hh _ u (hcell j u hu)⟩
/-- 'append(x, y...)', x an owned row. -/
theorem run_append {i sz bt m k : Nat} {zz u : Value} {xs news : List Value} (ht : P.underlying t = some (.slice e)) (hz : Zr P e zz sz bt) (hzs : zz.cells.size = sz) (hsz : 0 < sz) (hL : Lcl w0 O w) (hi : nthR O i = some (.row v e sz m xs)) (hs : Src (hp w) sz u k news) (h1 : ∀ c ∈ news, c.oneCell' = true)
    (hby : (m + k) * bt ≤ 140737488355328) (hm : m + k ≤ 9223372036854775807) :
    ∃ v' w', (Builtin.append_ #[t, t] ty #[v, u]).run P w = .ok v' w' ∧ Lcl w0 (setR O i (.row v' e sz (m + k) (xs ++ news))) w' ∧ Le (fz w O) (fz w' (setR O i (.row v' e sz (m + k) (xs ++ news)))) := by
  obtain ⟨inf, i1, i2, i3, i4⟩ := hz.parts
  have hown : w.ownsRow 0 e sz v m xs := hL.at hi
  obtain ⟨hl, a, cap, hu, hk1, hk2, hk3, hk4⟩ := hs
  have h63 : m + k ≤ maxLen := by unfold maxLen; omega
  have fin : ∀ v' w', w.drawn ≤ w'.drawn → w'.ownsRow 0 e sz v' (m + k) (xs ++ news) → w.grownBy w' v.ownBlock → (∀ b, v'.ownBlock = some b → v.ownBlock = some b ∨ w.heap.size ≤ b) →
      Lcl w0 (setR O i (.row v' e sz (m + k) (xs ++ news))) w' ∧ Le (fz w O) (fz w' (setR O i (.row v' e sz (m + k) (xs ++ news)))) := fun v' w' hdr h2 h3 hb =>
    ⟨hL.turnAt hi hdr h3 h2 hb, fz_turnAt (r' := .row v' e sz (m + k) (xs ++ news)) hL hi h3 hb⟩
  by_cases hk0 : k = 0
  · subst hk0
    have hn : news = [] := List.eq_nil_of_length_eq_zero (by simpa using hl)
    subst hn
    refine ⟨v, w, ?_, ?_⟩
    · obtain ⟨va, vc, rfl⟩ := ownsRow_header hown
      have hle : m ≤ vc := by
        rcases hown.2 with ⟨he, hn⟩ | ⟨g, cap, cur, he, _, _, hnc, _⟩
        · cases he; omega
        · cases he; exact hnc
      subst hu
      cases a with
      | none => cases va <;> simp [Builtin.append_, run_underlying ht, sizeOf, typeInfo, i1, Builtin.lenOf, Builtin.firstCells, hle, storeCells]
      | some A => cases va <;> simp [Builtin.append_, run_underlying ht, sizeOf, typeInfo, i1, Builtin.lenOf, Builtin.firstCells, hle, storeCells, loadCells, loadCellsFrom]
    · have := fin v w (Nat.le_refl _) (by simpa using hown) (World.grownBy.refl w _) (fun b hb => .inl hb)
      exact this
  · cases a with
    | none => have := hk3 rfl; omega
    | some A =>
      subst hu
      obtain ⟨hspot, hcell⟩ := hk4 A rfl hk0
      obtain ⟨v', w', hr, h2, h3, h4⟩ := run_append_own (P := P) w 0 t ty e inf zz sz bt ht i1 i2 i3 i4 hzs hsz v m xs hown A k cap news hl (fun j c hc => hcell j c hc) h1 h63 hby (Nat.zero_le _)
      refine ⟨v', w', hr, fin v' w' (run_drawn _ _ _ _ hr) h2 h3 fun b hb => ?_⟩
      subst i3
      subst i4
      rcases hown.2 with ⟨rfl, rfl⟩ | ⟨g, cp, cur, rfl, hbg, hg, hnc, hcm, hcs, htake⟩
      · have hr2 := run_append_nil (P := P) w t ty e inf zz ht i1 i2 A k cap news hl (fun j c hc => hcell j c hc) (by omega) (by omega) (by simp only [Nat.zero_add] at hby; omega)
        rw [hr] at hr2
        simp only [Result.ok.injEq] at hr2
        rw [hr2.1] at hb
        right; cases hb; exact Nat.le_refl _
      · by_cases hroom : m + k ≤ cp
        · have hfit : m * inf.size + news.length ≤ cur.size := by rw [hl, hcs, ← Nat.add_mul]; exact Nat.mul_le_mul_right _ hroom
          have hr2 := run_append_room (P := P) w t ty e inf ht i1 g m cp cur hg A k cap news hl (fun j c hc => hcell j c hc) h1 hroom hfit
          rw [hr] at hr2
          simp only [Result.ok.injEq] at hr2
          rw [hr2.1] at hb
          left; exact hb
        · have holds : ∀ j u, xs[j]? = some u → w.cell? ((⟨g, 0, none⟩ : Addr).add j) = some u := hown.cells (g := g) rfl
          have hr2 := run_append_grow (P := P) w t ty e inf zz ht i1 i2 ⟨g, 0, none⟩ m cp xs hown.1 holds A k cap news hl (fun j c hc => hcell j c hc) (by omega) (by omega) (growslice_fits (by omega) hby)
          rw [hr] at hr2
          simp only [Result.ok.injEq] at hr2
          rw [hr2.1] at hb
          right; cases hb; exact Nat.le_refl _
theorem S_append (i : Nat) {sz bt m k : Nat} {zz u : Value} {xs news : List Value} (hx : ev L x = some v) (hy : ev L y = some u) (ht : P.underlying t = some (.slice e)) (hz : Zr P e zz sz bt) (hzs : zz.cells.size = sz) (hsz : 0 < sz) (hn : Nat.blt d n.n = true) (hL : Lcl w0 O w) (hi : nthR O i = some (.row v e sz m xs)) (hs : Src (hp w) sz u k news) (h1 : ∀ c ∈ news, c.oneCell' = true)
    (hby : (m + k) * bt ≤ 140737488355328 ∧ m + k ≤ 9223372036854775807)
    (h : ∀ v' w', Lcl w0 (setR O i (.row v' e sz (m + k) (xs ++ news))) w' → Le (fz w O) (fz w' (setR O i (.row v' e sz (m + k) (xs ++ news)))) → S P n ops Q rest ((d, v') :: L) w') :
    S P n ops Q (⟨some d, .call ⟨.builtin .append, #[x, y], #[t, t]⟩, ty, pos, af, none⟩ :: rest) L w := by
  obtain ⟨v', w', hr, hL', hle⟩ := run_append (ty := ty) ht hz hzs hsz hL hi hs h1 hby.1 hby.2
  refine S_value (v := v') (w' := w') rfl rfl hn (fun ρ hρ => ?_) (h v' w' hL' hle)
  simp [execOp, resolve, invoke, builtin, hρ x _ hx, hρ y _ hy, hr]
/-- A new owned row. -/
theorem row_new {w' : World} {sz m : Nat} {xs : List Value} (hL : Lcl w0 O w) (hx : Ext w w') (ho : w'.ownsRow w.heap.size e sz v m xs) : Lcl w0 (.row v e sz m xs :: O) w' ∧ Le (fz w O) (fz w' (.row v e sz m xs :: O)) := by
  have hb : ∀ b, Res.block (.row v e sz m xs) = some b → w.heap.size ≤ b := fun b hb => (ho.lt b hb).1
  exact ⟨hL.new hx (ownsRow_base ho (fun _ _ => Nat.zero_le _)) hb, fz_new hL hx hb⟩
/-- A nil slice is a row. -/
theorem row_nil (hL : Lcl w0 O w) (e : TypeId) (sz : Nat) : Lcl w0 (.row (.slice none 0 0) e sz 0 [] :: O) w ∧ Le (fz w O) (fz w (.row (.slice none 0 0) e sz 0 [] :: O)) :=
  row_new hL (Ext.refl w) (World.ownsRow_nil w _ e sz)
/-- 'make([]T, n)'. -/
theorem S_make {bt m : Nat} {k k' : IntKind} {zz : Value} {c c' : Int} (hx : ev L x = some (.int k c)) (hy : ev L y = some (.int k' c')) (hcc : c = m ∧ c' = m) (ht : P.underlying t = some (.slice e)) (hz : Zr P e zz 1 bt) (hzc : zz.cells = #[zz]) (hn : Nat.blt d n.n = true) (hL : Lcl w0 O w) (hm : bt * m ≤ 281474976710656 ∧ m ≤ 9223372036854775807)
    (h : ∀ v' w', Ext w w' → Lcl w0 (.row v' e 1 m (List.replicate m zz) :: O) w' → Le (fz w O) (fz w' (.row v' e 1 m (List.replicate m zz) :: O)) → S P n ops Q rest ((d, v') :: L) w') :
    S P n ops Q (⟨some d, .makeSlice t x y, ty, pos, af, none⟩ :: rest) L w := by
  obtain ⟨inf, i1, i2, i3, i4⟩ := hz.parts
  obtain ⟨rfl, rfl⟩ := hcc
  obtain ⟨w', hr, ho, hg⟩ := run_make_full (P := P) w w.heap.size t e inf zz 1 ht i1 i2 i3 k k' m (by rw [i4]; exact hm.1) (by unfold maxLen; omega) (Nat.le_refl _)
  rw [hzc, Nat.mul_one, toList_madeCells_one] at ho
  have hx' := grownBy_ext (run_drawn _ _ _ _ hr) hg
  obtain ⟨h1, h2⟩ := row_new hL hx' ho
  exact S_value rfl rfl hn (fun ρ hρ => by simp [execOp, hρ x _ hx, hρ y _ hy, hr]) (h _ _ hx' h1 h2)
/-- A composite slice literal: a new block, lying fast. -/
theorem S_lit {ps : List (Nat × Operand)} {vs : List (Nat × Value)} {len sz : Nat} {cs : List Value} (hp' : evp L ps = some vs) (hr : ∀ w, (Instr.buildSlice t len vs.toArray).run P w = .ok (.slice (some ⟨w.heap.size, 0, none⟩) len len) (w.alloc (.cells cs.toArray e))) (hc : cs.length = len * sz) (hlen : len ≤ 9223372036854775807) (hn : Nat.blt d n.n = true) (hL : Lcl w0 O w)
    (h : ∀ u w', Ext w w' → Lcl w0 O w' → Le (fz w O) (fz w' O) → Src (nw w w') sz u len cs → w'.ownsRow w.heap.size e sz u len cs → S P n ops Q rest ((d, u) :: L) w') :
    S P n ops Q (⟨some d, .buildSlice t len ps.toArray, ty, pos, af, none⟩ :: rest) L w := by
  have hx := ext_alloc w (.cells cs.toArray e)
  refine S_value rfl rfl hn (fun ρ hρ => ?_) (h _ _ hx (hL.call hx) (fz_ext hL hx) ⟨hc, some ⟨w.heap.size, 0, none⟩, len, rfl, Nat.le_refl _, by unfold maxLen; omega, (fun e => by cases e), fun A hA _ => ?_⟩ ?_)
  · have e1 := hρ.mapp _ _ hp'
    have e' : (ps.toArray.map fun (i, x) => (i, ρ x)) = vs.toArray := by rw [← e1]; simp
    simp [execOp, e', hr w, -List.map_toArray]
  · cases hA
    refine ⟨rfl, fun j u hu => ?_⟩
    simp only [Addr.add_lit, Nat.zero_add, cellP, nw, Nat.le_refl, if_true, heap_alloc_new]
    simpa using hu
  · have := World.ownsRow_lit (base := w.heap.size) (e := e) (size := sz) w cs.toArray len (Nat.le_refl _) (by unfold maxLen; omega) (by simpa using hc)
    simpa using this
/-- A place in an owned row. -/
def RowPtr (v : Value) (k : Nat) (p : Addr) : Prop := v.ownBlock = some p.block ∧ p.off = k ∧ p.spot = none
theorem r_indexR (i : Nat) {sz bt m : Nat} {zz : Value} {xs : List Value} {k : IntKind} {c : Int} (hx : ev L x = some v) (hy : ev L y = some (.int k c)) (ht : P.underlying t = some (.slice e)) (hz : Zr P e zz sz bt) (hL : Lcl w0 O w) (hi : nthR O i = some (.row v e sz m xs)) (j : Nat) (hj : c = (j : Int)) (hlt : j < m) :
    ∃ p, RowPtr v (j * sz) p ∧ ∀ w, RunsAt P L w (.indexAddr t x y) ty (.pointer (some p)) := by
  obtain ⟨inf, i1, i2, i3, i4⟩ := hz.parts
  have hown : w.ownsRow 0 e sz v m xs := hL.at hi
  rcases hown.2 with ⟨rfl, rfl⟩ | ⟨g, cp, cur, rfl, hbg, hg, hnc, hcm, hcs, htake⟩
  · omega
  · subst hj
    refine ⟨⟨g, j * sz, none⟩, ⟨rfl, rfl, rfl⟩, fun w w' _ ρ hρ dst pos af gd => ?_⟩
    have e1 : (0 : Int) ≤ (j : Int) ∧ (j : Int) < (m : Int) := by omega
    simp [execOp, hρ x _ hx, hρ y _ hy, Instr.indexAt, asIntOf, run_underlying ht, sizeOf, typeInfo, i1, i3, hlt, Addr.add_lit]
theorem S_indexR (i : Nat) {sz bt m : Nat} {zz : Value} {xs : List Value} {k : IntKind} {c : Int} (hx : ev L x = some v) (hy : ev L y = some (.int k c)) (ht : P.underlying t = some (.slice e)) (hz : Zr P e zz sz bt) (hL : Lcl w0 O w) (hi : nthR O i = some (.row v e sz m xs)) (j : Nat) (hj : c = (j : Int)) (hlt : j < m) (hn : Nat.blt d n.n = true)
    (h : ∀ p, RowPtr v (j * sz) p → S P n ops Q rest ((d, .pointer (some p)) :: L) w) : S P n ops Q (⟨some d, .indexAddr t x y, ty, pos, af, none⟩ :: rest) L w := by
  obtain ⟨p, h1, h2⟩ := r_indexR (P := P) (ty := ty) i hx hy ht hz hL hi j hj hlt
  exact S_v (h2 w) hn (h p h1)
theorem D_indexR {lo : List Oper} {ix : Nat} {tr : Tr} (i : Nat) {sz bt m : Nat} {zz : Value} {xs : List Value} {k : IntKind} {c : Int} (ho : nthO lo ix = some ⟨some d, .indexAddr t x y, ty, pos, af, none⟩) (hx : ev L x = some v) (hy : ev L y = some (.int k c)) (ht : P.underlying t = some (.slice e)) (hz : Zr P e zz sz bt) (hL : Lcl w0 O w) (hi : nthR O i = some (.row v e sz m xs)) (j : Nat) (hj : c = (j : Int)) (hlt : j < m) (hn : Nat.blt d n.n = true)
    (h : ∀ p, RowPtr v (j * sz) p → D P n lo Q tr ((d, .pointer (some p)) :: L) w) : D P n lo Q (.q ix tr) L w := by
  obtain ⟨p, h1, h2⟩ := r_indexR (P := P) (ty := ty) i hx hy ht hz hL hi j hj hlt
  exact D_v (h2 w) ho hn (h p h1)
theorem row_cell {i sz m k : Nat} {xs : List Value} {p : Addr} {u : Value} {e' : TypeId} (hL : Lcl w0 O w) (hi : nthR O i = some (.row v e' sz m xs)) (hp' : RowPtr v k p) (hu : xs[k]? = some u) : w.cell? p = some u := by
  have hown : w.ownsRow 0 e' sz v m xs := hL.at hi
  obtain ⟨h1, h2, h3⟩ := hp'
  obtain ⟨b, o, s⟩ := p
  simp only at h1 h2 h3
  subst h2; subst h3
  have hc := hown.cells h1 o u hu
  rwa [Addr.add_lit, Nat.zero_add] at hc
/-- 'out[k] = u', one cell. -/
theorem S_storeR (i : Nat) {sz bt m k : Nat} {zz u : Value} {xs : List Value} {p : Addr} {e' : TypeId} (hx : ev L x = some (.pointer (some p))) (hy : ev L y = some u) (hv : u.oneCell' = true) (hz : Zr P t zz 1 bt) (hL : Lcl w0 O w) (hi : nthR O i = some (.row v e' sz m xs)) (hp' : RowPtr v k p) (hlt : k < xs.length)
    (h : ∀ w', Lcl w0 (setR O i (.row v e' sz m (xs.set k u))) w' → Le (fz w O) (fz w' (setR O i (.row v e' sz m (xs.set k u)))) → S P n ops Q rest L w') : S P n ops Q (⟨none, .store t x y, ty, pos, af, none⟩ :: rest) L w := by
  obtain ⟨inf, i1, i2, i3, i4⟩ := hz.parts
  have hown : w.ownsRow 0 e' sz v m xs := hL.at hi
  have hcell := row_cell hL hi hp' (List.getElem?_eq_getElem hlt)
  obtain ⟨h1, h2, h3⟩ := hp'
  obtain ⟨b, o, s⟩ := p
  simp only at h1 h2 h3
  subst h2; subst h3
  rcases hown.2 with ⟨rfl, rfl⟩ | ⟨g, cp, cur, rfl, hbg, hg, hnc, hcm, hcs, htake⟩
  · simp [Value.ownBlock] at h1
  · simp only [Value.ownBlock, Option.some.injEq] at h1
    subst h1
    have hst := hown.stored o u
    have hfz : w.frozen? ⟨g, o, none⟩ = false := hown.frozenAt o
    have hvc : u.cells = #[u] := by cases u <;> simp_all [Value.cells, Value.oneCell']
    refine S_effect (w' := w.setCell ⟨g, o, none⟩ u) rfl rfl (fun ρ hρ => by
      simp [execOp, hρ x _ hx, hρ y _ hy, Instr.storeAt, Instr.sureAddr, storeVar, sizeOf, typeInfo, i1, i3, hvc, storeCells, run_store, hv, Addr.add_zero', hcell, hfz]) ?_
    exact h _ (hL.turnAt hi (by rw [drawn_setCell]; exact Nat.le_refl _) hst.2 hst.1 (fun b e => .inl e)) (fz_turnAt (r' := .row (.slice (some ⟨g, 0, none⟩) m cp) e' sz m (xs.set o u)) hL hi hst.2 (fun b e => .inl e))
/-- An owned row that is handed to a function that only reads. -/
theorem Lcl.vecR {i : Nat} {l : List α} {xs : List Value} {e' : TypeId} (hL : Lcl w0 O w) (hi : nthR O i = some (.row v e' r.sz l.length xs)) (he : Elems r (fz w O) l xs) : Vec r (hp w) v l :=
  vec_of_row (hL.at hi) he (fz_le w O) (fun _k _ _o ho => ho)
/-- The caller takes it. -/
theorem Own.take {w' : World} {l : List α} (hL : Lcl w0 O w) (hx : Ext w w') (h : Own e r w w' v l) : ∃ xs, Lcl w0 (.row v e r.sz l.length xs :: O) w' ∧ Le (fz w O) (fz w' (.row v e r.sz l.length xs :: O)) ∧ Elems r (fz w' (.row v e r.sz l.length xs :: O)) l xs := by
  obtain ⟨xs, h1, h2⟩ := h
  obtain ⟨h3, h4⟩ := row_new hL hx h1
  exact ⟨xs, h3, h4, h2.mono (nwBut_fz hL)⟩
end
theorem row_one {w : World} {v : Value} {e : TypeId} {sz n : Nat} {xs : List Value} (h : Res.ok w (.row v e sz n xs)) : v.oneCell' = true := by
  obtain ⟨a, c, rfl⟩ := ownsRow_header (b := 0) h; rfl
theorem elems_eq {α : Type} {r : Rp α} {f : α → Value} (hf : ∀ H x c, r.rel H x c → c = [f x]) {H : PH} {l : List α} {xs : List Value} (h : Elems r H l xs) : xs = l.map f := by
  induction h with
  | nil => rfl
  | cons h _ ih => rw [hf _ _ _ h, ih]; rfl
def bv (b : UInt8) : Value := .int .u8 (b.toNat : Int)
def iv (i : Int) : Value := .int .i64 i
theorem bytes_elems {H : PH} {l : List UInt8} {xs : List Value} (h : Elems Rp.byte H l xs) : xs = l.map bv := elems_eq (fun _ _ _ h => h) h
/-- What the call has made and does not own. -/
def nf (w0 w : World) (O : List Res) : PH := fun b => if w0.heap.size ≤ b then fz w O b else none
theorem nf_mono {w0 w w' : World} {O O' : List Res} (h : Le (fz w O) (fz w' O')) : Le (nf w0 w O) (nf w0 w' O') := fun b o e => by
  unfold nf at e ⊢
  split at e
  · rename_i hb; rw [if_pos hb]; exact h b o e
  · cases e
theorem nf_fz {w0 w : World} {O : List Res} : Le (nf w0 w O) (fz w O) := fun b o e => by
  unfold nf at e
  split at e
  · exact e
  · cases e
theorem nf_nw {w0 w : World} {O : List Res} : Le (nf w0 w O) (nw w0 w) := fun b o e => by
  unfold nf at e
  split at e
  · rename_i hb; unfold nw; rw [if_pos hb]; exact fz_le w O b o e
  · cases e
theorem nw_nf {w0 w w' : World} {O : List Res} (h : Lcl w0 O w) : Le (nw w w') (nf w0 w' O) := fun b o e => by
  have h1 := nw_fz (w' := w') h b o e
  unfold nw at e
  split at e
  · rename_i hb; unfold nf; rw [if_pos (Nat.le_trans h.ext.size hb)]; exact h1
  · cases e
theorem nf_but {w0 w : World} {O : List Res} {i : Nat} {v : Value} {e : TypeId} {sz n : Nat} {xs : List Value} (hi : nthR O i = some (.row v e sz n xs)) : Le (nf w0 w O) (nwBut w0 w v) := fun b o h => by
  have h1 := nf_nw b o h
  have h2 := nf_fz b o h
  unfold nwBut
  rw [if_neg]
  · exact h1
  · intro hb
    unfold fz at h2
    rw [if_pos (owned_iff.2 ⟨_, (perm_nth hi).mem_iff.2 (.head _), hb⟩)] at h2
    cases h2
end Go.E
