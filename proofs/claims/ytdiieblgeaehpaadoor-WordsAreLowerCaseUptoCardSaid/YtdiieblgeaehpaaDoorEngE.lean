/- Operations on memory, on live slots; no program in sight. -/
import Derived.Test.YtdiieblgeaehpaaDoorEngD
namespace Go.E
open Go Go.RowKit

def Zr (P : Program) (t : TypeId) (z : Value) (sz bt : Nat) : Prop := (P.info? t).map (fun i => (i.zero, i.size, i.bytes)) = some (some z, sz, bt)
theorem Zr.parts {P : Program} {t : TypeId} {z : Value} {sz bt : Nat} (h : Zr P t z sz bt) : ∃ i, P.info? t = some i ∧ i.zero = some z ∧ i.size = sz ∧ i.bytes = bt := by
  unfold Zr at h
  cases hi : P.info? t with
  | none => rw [hi] at h; cases h
  | some i => rw [hi] at h; simp at h; exact ⟨i, rfl, h.1, h.2.1, h.2.2⟩
def plainT : TypeDesc → Bool
  | .struct _ | .array _ _ => false
  | _ => true
def aggT : TypeDesc → Bool
  | .struct _ | .array _ _ => true
  | _ => false

def nthR : List Res → Nat → Option Res
  | [], _ => none
  | r :: _, 0 => some r
  | _ :: l, i + 1 => nthR l i
def setR : List Res → Nat → Res → List Res
  | [], _, _ => []
  | _ :: l, 0, s => s :: l
  | r :: l, i + 1, s => r :: setR l i s
def delR : List Res → Nat → List Res
  | [], _ => []
  | _ :: l, 0 => l
  | r :: l, i + 1 => r :: delR l i
theorem perm_nth : ∀ {O : List Res} {i : Nat} {r : Res}, nthR O i = some r → O.Perm (r :: delR O i)
  | r :: l, 0, s, h => by simp only [nthR, Option.some.injEq] at h; subst h; exact List.Perm.refl _
  | r :: l, i + 1, s, h => ((perm_nth (O := l) (i := i) h).cons r).trans (List.Perm.swap _ _ _)
theorem perm_set : ∀ {O : List Res} {i : Nat} {r : Res} (s : Res), nthR O i = some r → (setR O i s).Perm (s :: delR O i)
  | _r :: _l, 0, _, _s, _h => List.Perm.refl _
  | r :: l, i + 1, _, s, h => ((perm_set (O := l) (i := i) s h).cons r).trans (List.Perm.swap _ _ _)

section
variable {w0 w w' : World} {O : List Res} {r r' : Res} {i : Nat}
theorem Lcl.at (h : Lcl w0 O w) (hi : nthR O i = some r) : r.ok w := h.res r ((perm_nth hi).mem_iff.2 (.head _))
theorem Lcl.turnAt (h : Lcl w0 O w) (hi : nthR O i = some r) (hdr : w.drawn ≤ w'.drawn) (hg : w.grownBy w' r.block) (hok : r'.ok w') (hb : ∀ b, r'.block = some b → r.block = some b ∨ w.heap.size ≤ b) : Lcl w0 (setR O i r') w' :=
  ((h.perm (perm_nth hi).symm).turn hdr hg hok hb).perm (perm_set r' hi)
theorem fz_turnAt (h : Lcl w0 O w) (hi : nthR O i = some r) (hg : w.grownBy w' r.block) (hb : ∀ b, r'.block = some b → r.block = some b ∨ w.heap.size ≤ b) : Le (fz w O) (fz w' (setR O i r')) := by
  rw [fz_perm (perm_set r' hi), fz_perm (perm_nth hi)]
  exact fz_turn (h.perm (perm_nth hi).symm) hg hb
/-- What is owned is given up: it lies fast from now on. -/
theorem Lcl.dropAt (h : Lcl w0 O w) (hi : nthR O i = some r) : Lcl w0 (delR O i) w := (h.perm (perm_nth hi).symm).drop
theorem fz_dropAt (hi : nthR O i = some r) : Le (fz w O) (fz w (delR O i)) := by
  rw [fz_perm (perm_nth hi)]; exact fz_drop
theorem fz_hp_drop {k : Nat} (hi : nthR O i = some r) (hb : r.block = some k) (hdis : O.Pairwise fun r s => ∀ b, r.block = some b → s.block ≠ some b) : fz w (delR O i) k = w.heap[k]? := by
  unfold fz
  rw [if_neg]
  intro ho
  obtain ⟨s, hs, e⟩ := owned_iff.1 ho
  have := (perm_nth hi).pairwise hdis (fun {x y} hxy b hb hx => hxy b hx hb)
  exact (List.pairwise_cons.1 this).1 s hs k hb e
end

section
variable {P : Program} {n : Sz} {ops : Array Oper} {Q : Exit → Act → World → Prop} {L : Env} {w w0 : World} {O : List Res} {rest : List Oper}
  {d : Nat} {ty : TypeId} {pos : String} {af : Array Edge} {α : Type} {r : Rp α} {H : PH} {x y : Operand} {v : Value} {t e : TypeId}

/-! ### What only looks -/
theorem r_len {l : List α} (hx : ev L x = some v) (ht : P.underlying t = some (.slice e)) (hv : Vec r H v l) : RunsAt P L w (.call ⟨.builtin .len, #[x], #[t]⟩) ty (.int .i64 (l.length : Int)) := by
  obtain ⟨a, cap, rfl⟩ := hv.header
  intro w' _ ρ hρ dst pos af g
  simp [execOp, resolve, hρ x _ hx, invoke, builtin, Builtin.len_, run_underlying ht, goInt]
theorem r_lenH {a : Option Addr} {m cap : Nat} (hx : ev L x = some (.slice a m cap)) (ht : P.underlying t = some (.slice e)) : RunsAt P L w (.call ⟨.builtin .len, #[x], #[t]⟩) ty (.int .i64 (m : Int)) := by
  intro w' _ ρ hρ dst pos af g
  simp [execOp, resolve, hρ x _ hx, invoke, builtin, Builtin.len_, run_underlying ht, goInt]
theorem ownsRow_header {b sz m : Nat} {xs : List Value} (h : w.ownsRow b e sz v m xs) : ∃ a cap, v = .slice a m cap := by
  rcases h.2 with ⟨rfl, hn⟩ | ⟨g, cap, cur, rfl, _⟩
  · exact ⟨none, 0, by rw [hn]⟩
  · exact ⟨_, _, rfl⟩
theorem r_lenR {i sz m : Nat} {xs : List Value} {e' : TypeId} (hx : ev L x = some v) (ht : P.underlying t = some (.slice e)) (hL : Lcl w0 O w) (hi : nthR O i = some (.row v e' sz m xs)) : RunsAt P L w (.call ⟨.builtin .len, #[x], #[t]⟩) ty (.int .i64 (m : Int)) := by
  obtain ⟨a, cap, rfl⟩ := ownsRow_header (hL.at hi)
  exact r_lenH hx ht

theorem addr_add_add {A : Addr} (h : A.spot = none) (i j : Nat) : (A.add i).add j = A.add (i + j) := by
  obtain ⟨b, o, s⟩ := A
  cases h
  simp [Addr.add_lit, Nat.add_assoc]
theorem addr_add_spot {A : Addr} (h : A.spot = none) (i : Nat) : (A.add i).spot = none := by
  obtain ⟨b, o, s⟩ := A
  cases h
  simp [Addr.add_lit]
theorem PtrTo.add {p : Addr} {c : List Value} (h : PtrTo H p c) (k : Nat) : PtrTo H (p.add k) (c.drop k) :=
  ⟨addr_add_spot h.1 k, fun j u hu => by rw [addr_add_add h.1]; exact h.2 (k + j) u (by simpa using hu)⟩
theorem PtrTo.mono {H' : PH} {p : Addr} {c : List Value} (h : PtrTo H p c) (hs : Le H H') : PtrTo H' p c := ⟨h.1, fun j u hu => cellP_mono hs (h.2 j u hu)⟩

/-- The place of an element. -/
theorem Vec.ptr {l : List α} (hv : Vec r H v l) (m : Nat) {z : α} (hl : l[m]? = some z) : ∃ (a : Addr) (cap : Nat) (c : List Value), v = .slice (some a) l.length cap ∧ r.rel H z c ∧ PtrTo H (a.add (m * r.sz)) c := by
  obtain ⟨a, cap, h1, h2, h3, h4, h5⟩ := hv.ex
  have hlt : m < l.length := (List.getElem?_eq_some_iff.1 hl).1
  cases a with
  | none => have := h4 rfl; omega
  | some A =>
    obtain ⟨hs, hh⟩ := h5 A rfl (fun e => by subst e; simp at hlt)
    obtain ⟨c, hc, hcell⟩ := hh m z hl
    exact ⟨A, cap, c, h1, hc, addr_add_spot hs _, fun j u hu => by rw [addr_add_add hs]; exact hcell j u hu⟩

theorem r_index {l : List α} {k : IntKind} {i : Int} {zz : Value} {bt : Nat} (hx : ev L x = some v) (hy : ev L y = some (.int k i)) (ht : P.underlying t = some (.slice e)) (he : Zr P e zz r.sz bt) (hv : Vec r H v l) (m : Nat) (hm : i = (m : Int)) {z : α} (hl : l[m]? = some z) :
    ∃ p c, r.rel H z c ∧ PtrTo H p c ∧ ∀ w, RunsAt P L w (.indexAddr t x y) ty (.pointer (some p)) := by
  obtain ⟨a, cap, c, rfl, hc, hp⟩ := hv.ptr m hl
  refine ⟨_, c, hc, hp, fun w w' _ ρ hρ dst pos af g => ?_⟩
  obtain ⟨inf, h1, h2, h3, h4⟩ := he.parts
  have hlt : m < l.length := (List.getElem?_eq_some_iff.1 hl).1
  subst hm
  have e1 : (0 : Int) ≤ (m : Int) ∧ (m : Int) < (l.length : Int) := by omega
  simp [execOp, hρ x _ hx, hρ y _ hy, Instr.indexAt, asIntOf, run_underlying ht, sizeOf, typeInfo, h1, h3, hlt]

theorem r_load1 {p : Addr} {u : Value} {c : List Value} {dd : TypeDesc} (hx : ev L x = some (.pointer (some p))) (ht : P.underlying t = some dd) (hd : plainT dd = true) (hp' : PtrTo H p (u :: c)) (hs : Le H (hp w)) : RunsAt P L w (.load t x) ty u := by
  intro w' hw ρ hρ dst pos af g
  have hcell : w'.cell? p = some u := by
    have := hp'.2 0 u (by simp)
    rw [Addr.add_zero'] at this
    exact cell_of (hs.ext hw) this
  cases dd <;> simp only [plainT, Bool.false_eq_true] at hd <;>
    simp [execOp, hρ x _ hx, Instr.loadAt, Instr.sureAddr, loadVar, isAgg, run_underlying ht, hcell]

theorem run_loadCellsFrom {p : Addr} (w : World) : ∀ (m i : Nat) (c : List Value) (acc : Array Value), c.length = m → (∀ j u, c[j]? = some u → w.cell? (p.add (i + j)) = some u) →
    (loadCellsFrom p i m acc).run P w = .ok (acc ++ c.toArray) w
  | 0, i, c, acc, hl, _ => by
    have : c = [] := List.eq_nil_of_length_eq_zero hl
    subst this
    simp [loadCellsFrom]
  | m + 1, i, [], acc, hl, _ => by simp at hl
  | m + 1, i, u :: c, acc, hl, h => by
    have h0 : w.cell? (p.add i) = some u := by simpa using h 0 u (by simp)
    have ih := run_loadCellsFrom w m (i + 1) c (acc.push u) (by simpa using hl) (fun j v hv => by have := h (j + 1) v (by simpa using hv); rwa [show i + (j + 1) = i + 1 + j from by omega] at this)
    simp [loadCellsFrom, h0, ih]

theorem r_loadN {p : Addr} {c : List Value} {dd : TypeDesc} {zz : Value} {bt : Nat} (hx : ev L x = some (.pointer (some p))) (ht : P.underlying t = some dd) (hd : aggT dd = true) (hz : Zr P t zz c.length bt) (hp' : PtrTo H p c) (hs : Le H (hp w)) : RunsAt P L w (.load t x) ty (.agg c.toArray) := by
  intro w' hw ρ hρ dst pos af g
  obtain ⟨inf, h1, h2, h3, h4⟩ := hz.parts
  have hload := run_loadCellsFrom (P := P) (p := p) w' c.length 0 c #[] rfl (fun j u hu => by rw [Nat.zero_add]; exact cell_of (hs.ext hw) (hp'.2 j u hu))
  cases dd <;> simp only [aggT, Bool.false_eq_true] at hd <;>
    simp [execOp, hρ x _ hx, Instr.loadAt, Instr.sureAddr, loadVar, isAgg, run_underlying ht, loadCells, sizeOf, typeInfo, h1, h3, hload]

/-- The address of a field. -/
theorem r_field {p : Addr} {fs : Array Field} {f : Nat} {fd : Field} {zz : Value} {sz bt : Nat} (hx : ev L x = some (.pointer (some p))) (ht : P.underlying t = some (.struct fs)) (hf : fs[f]? = some fd) (hz : Zr P fd.type zz sz bt) (hne : sz ≠ 0) :
    RunsAt P L w (.fieldAddr t x f) ty (.pointer (some (p.add fd.offset))) := by
  intro w' hw ρ hρ dst pos af g
  obtain ⟨inf, h1, h2, h3, h4⟩ := hz.parts
  simp [execOp, hρ x _ hx, Instr.fieldAt, run_underlying ht, hf, Instr.sureAddr, fieldPlace, sizeOf, typeInfo, h1, h3, hne]

/-- A field of a struct's value, one cell. -/
theorem r_part {cs : Array Value} {fs : Array Field} {f : Nat} {fd : Field} {dd : TypeDesc} {u : Value} (hx : ev L x = some (.agg cs)) (ht : P.underlying t = some (.struct fs)) (hf : fs[f]? = some fd) (hd : P.underlying fd.type = some dd) (hp : plainT dd = true) (hu : nth cs.toList fd.offset = some u) :
    RunsAt P L w (.field t x f) ty u := by
  intro w' hw ρ hρ dst pos af g
  rw [nth_eq] at hu
  have hu' : cs[fd.offset]? = some u := by simpa using hu
  cases dd <;> simp only [plainT, Bool.false_eq_true] at hp <;>
    simp [execOp, hρ x _ hx, Instr.field, run_underlying ht, hf, asAgg, part, isAgg, run_underlying hd, hu']

/-- 'x[lo:hi]'. -/
theorem Vec.sub {l : List α} (hv : Vec r H v l) (lo hi : Nat) (h1 : lo ≤ hi) (h2 : hi ≤ l.length) : ∃ a cap, v = .slice a l.length cap ∧ Vec r H (.slice (if cap = lo then a else a.map (·.add (lo * r.sz))) (hi - lo) (cap - lo)) ((l.drop lo).take (hi - lo)) := by
  obtain ⟨a, cap, rfl, h2', h3, h4, h5⟩ := hv.ex
  refine ⟨a, cap, rfl, ?_⟩
  have hlen : ((l.drop lo).take (hi - lo)).length = hi - lo := by simp; omega
  refine ⟨_, cap - lo, by rw [hlen], by rw [hlen]; omega, by omega, ?_, ?_⟩
  · intro ha
    split at ha
    · rename_i e; omega
    · cases a with
      | none => have := h4 rfl; omega
      | some A => cases ha
  · intro A hA hne
    have hpos : lo < hi := by
      rcases Nat.lt_or_ge lo hi with h | h
      · exact h
      · exfalso; apply hne; simp; omega
    rw [if_neg (by omega)] at hA
    cases a with
    | none => cases hA
    | some A0 =>
      cases hA
      obtain ⟨hs, hh⟩ := h5 A0 rfl (fun e => by subst e; simp at h2; omega)
      refine ⟨addr_add_spot hs _, fun i z hz => ?_⟩
      rw [List.getElem?_take] at hz
      split at hz
      · rw [List.getElem?_drop] at hz
        obtain ⟨c, hc, hcell⟩ := hh (lo + i) z hz
        refine ⟨c, hc, fun j u hu => ?_⟩
        rw [addr_add_add hs, show lo * r.sz + (i * r.sz + j) = (lo + i) * r.sz + j from by rw [Nat.add_mul]; omega]
        exact hcell j u hu
      · cases hz

def loB (L : Env) (lo : Option Operand) (a : Nat) : Prop := match lo with | some o => ∃ k, ev L o = some (.int k (a : Int)) | none => a = 0
def hiB (L : Env) (hi : Option Operand) (b m : Nat) : Prop := match hi with | some o => ∃ k, ev L o = some (.int k (b : Int)) | none => b = m

theorem r_slice {l : List α} {lo hi : Option Operand} {zz : Value} {bt : Nat} (hx : ev L x = some v) (ht : P.underlying t = some (.slice e)) (he : Zr P e zz r.sz bt) (hv : Vec r H v l) (a b : Nat)
    (ha : loB L lo a) (hb : hiB L hi b l.length) (h1 : a ≤ b) (h2 : b ≤ l.length) :
    ∃ v', Vec r H v' ((l.drop a).take (b - a)) ∧ ∀ w, RunsAt P L w (.slice t x lo hi none) ty v' := by
  obtain ⟨A, cap, hv0, hsub⟩ := hv.sub a b h1 h2
  refine ⟨_, hsub, fun w w' _ ρ hρ dst pos af g => ?_⟩
  obtain ⟨inf, i1, i2, i3, i4⟩ := he.parts
  obtain ⟨A', cap', h0, hc1, hc2, hc3, hc4⟩ := hv.ex
  have hcc : cap = cap' := by rw [hv0] at h0; cases h0; rfl
  have hbc : b ≤ cap := by omega
  subst hv0
  have e2 : (b : Int) ≤ (cap : Int) := by omega
  have e3 : (a : Int) ≤ (b : Int) := by omega
  cases lo with
  | none =>
    simp only [loB] at ha
    subst ha
    cases hi with
    | none =>
      simp only [hiB] at hb
      subst hb
      simp [execOp, hρ x _ hx, Instr.sliceAt, run_underlying ht, Instr.slice, Instr.sliceBounds, sizeOf, typeInfo, i1]
    | some o2 =>
      obtain ⟨k2, hb⟩ := hb
      simp [execOp, hρ x _ hx, hρ o2 _ hb, Instr.sliceAt, run_underlying ht, Instr.slice, Instr.sliceBounds, Instr.sliceBound, asIntOf, sizeOf, typeInfo, i1, hbc]
  | some o1 =>
    obtain ⟨k1, ha⟩ := ha
    cases hi with
    | none =>
      simp only [hiB] at hb
      subst hb
      simp [execOp, hρ x _ hx, hρ o1 _ ha, Instr.sliceAt, run_underlying ht, Instr.slice, Instr.sliceBounds, Instr.sliceBound, asIntOf, sizeOf, typeInfo, i1, i3, h1]
    | some o2 =>
      obtain ⟨k2, hb⟩ := hb
      simp [execOp, hρ x _ hx, hρ o1 _ ha, hρ o2 _ hb, Instr.sliceAt, run_underlying ht, Instr.slice, Instr.sliceBounds, Instr.sliceBound, asIntOf, sizeOf, typeInfo, i1, i3, hbc, h1]

/-! ### The same as steps -/
theorem getD_some {β : Type} [Inhabited β] {l : List β} {m : Nat} (h : m < l.length) : l[m]? = some (l.getD m default) := by simp [h]

theorem S_index [Inhabited α] {l : List α} {k : IntKind} {i : Int} {zz : Value} {bt : Nat} (hx : ev L x = some v) (hy : ev L y = some (.int k i)) (ht : P.underlying t = some (.slice e)) (he : Zr P e zz r.sz bt) (hv : Vec r H v l) (m : Nat) (hm : i = (m : Int)) (hlt : m < l.length) (hn : Nat.blt d n.n = true)
    (h : ∀ p c, r.rel H (l.getD m default) c → PtrTo H p c → S P n ops Q rest ((d, .pointer (some p)) :: L) w) : S P n ops Q (⟨some d, .indexAddr t x y, ty, pos, af, none⟩ :: rest) L w := by
  obtain ⟨p, c, h1, h2, h3⟩ := r_index (P := P) (ty := ty) hx hy ht he hv m hm (getD_some hlt)
  exact S_v (h3 w) hn (h p c h1 h2)
theorem D_index [Inhabited α] {lo : List Oper} {ix : Nat} {tr : Tr} {l : List α} {k : IntKind} {i : Int} {zz : Value} {bt : Nat} (ho : nthO lo ix = some ⟨some d, .indexAddr t x y, ty, pos, af, none⟩) (hx : ev L x = some v) (hy : ev L y = some (.int k i)) (ht : P.underlying t = some (.slice e)) (he : Zr P e zz r.sz bt) (hv : Vec r H v l) (m : Nat) (hm : i = (m : Int)) (hlt : m < l.length) (hn : Nat.blt d n.n = true)
    (h : ∀ p c, r.rel H (l.getD m default) c → PtrTo H p c → D P n lo Q tr ((d, .pointer (some p)) :: L) w) : D P n lo Q (.q ix tr) L w := by
  obtain ⟨p, c, h1, h2, h3⟩ := r_index (P := P) (ty := ty) hx hy ht he hv m hm (getD_some hlt)
  exact D_v (h3 w) ho hn (h p c h1 h2)
theorem D_indexg [Inhabited α] {lo : List Oper} {ix : Nat} {tr : Tr} {l : List α} {k : IntKind} {i : Int} {zz : Value} {bt j s : Nat} {want b : Bool} {oj : Oper} (ho : nthO lo ix = some ⟨some d, .indexAddr t x y, ty, pos, af, some (j, want)⟩) (hj : nthO lo j = some oj) (hd : oj.dst = some s) (hb : gt L s = some (.bool b)) (hw : b = want)
    (hx : ev L x = some v) (hy : ev L y = some (.int k i)) (ht : P.underlying t = some (.slice e)) (he : Zr P e zz r.sz bt) (hv : Vec r H v l) (m : Nat) (hm : i = (m : Int)) (hlt : m < l.length) (hn : Nat.blt d n.n = true)
    (h : ∀ p c, r.rel H (l.getD m default) c → PtrTo H p c → D P n lo Q tr ((d, .pointer (some p)) :: L) w) : D P n lo Q (.q ix tr) L w := by
  obtain ⟨p, c, h1, h2, h3⟩ := r_index (P := P) (ty := ty) hx hy ht he hv m hm (getD_some hlt)
  exact D_vg (h3 w) ho hj hd hb hw hn (h p c h1 h2)

theorem S_slice {l : List α} {lo hi : Option Operand} {zz : Value} {bt : Nat} (hx : ev L x = some v) (ht : P.underlying t = some (.slice e)) (he : Zr P e zz r.sz bt) (hv : Vec r H v l) (a b : Nat)
    (ha : loB L lo a) (hb : hiB L hi b l.length) (hab : a ≤ b ∧ b ≤ l.length) (hn : Nat.blt d n.n = true)
    (h : ∀ v', Vec r H v' ((l.drop a).take (b - a)) → S P n ops Q rest ((d, v') :: L) w) : S P n ops Q (⟨some d, .slice t x lo hi none, ty, pos, af, none⟩ :: rest) L w := by
  obtain ⟨v', h1, h2⟩ := r_slice (P := P) (ty := ty) hx ht he hv a b ha hb hab.1 hab.2
  exact S_v (h2 w) hn (h v' h1)
theorem D_slice {lop : List Oper} {ix : Nat} {tr : Tr} {l : List α} {lo hi : Option Operand} {zz : Value} {bt : Nat} (ho : nthO lop ix = some ⟨some d, .slice t x lo hi none, ty, pos, af, none⟩) (hx : ev L x = some v) (ht : P.underlying t = some (.slice e)) (he : Zr P e zz r.sz bt) (hv : Vec r H v l) (a b : Nat)
    (ha : loB L lo a) (hb : hiB L hi b l.length) (hab : a ≤ b ∧ b ≤ l.length) (hn : Nat.blt d n.n = true)
    (h : ∀ v', Vec r H v' ((l.drop a).take (b - a)) → D P n lop Q tr ((d, v') :: L) w) : D P n lop Q (.q ix tr) L w := by
  obtain ⟨v', h1, h2⟩ := r_slice (P := P) (ty := ty) hx ht he hv a b ha hb hab.1 hab.2
  exact D_v (h2 w) ho hn (h v' h1)
theorem Vec.one {l : List α} (h : Vec r H v l) : v.oneCell' = true := by obtain ⟨a, c, rfl⟩ := h.header; rfl
end
end Go.E
