/- Rules for generated walks: a row of the call's own whose elements hold rows of bytes of the call's own. No program in sight. -/
import Derived.Test.YtdiieblgeaehpaaDoorEngM
namespace Go.E
open Go Go.RowKit

/-- Bytes in cells. -/
def bc (l : List UInt8) : List Value := l.map fun b => .int .u8 (b.toNat : Int)
theorem bc_elems (G : PH) : ∀ l, Elems Rp.byte G l (bc l)
  | [] => .nil
  | _ :: l => .cons (c := [_]) rfl (bc_elems G l)
theorem bc_of {G : PH} {l : List UInt8} {xs : List Value} (h : Elems Rp.byte G l xs) : xs = bc l := by
  induction h with
  | nil => rfl
  | cons h _ ih => rw [ih, show _ = _ from h]; rfl
theorem bc_get {l : List UInt8} {k : Nat} (h : k < l.length) : (bc l)[k]? = some (.int .u8 ((l.getD k default).toNat : Int)) := by
  unfold bc; rw [List.getElem?_map, List.getD_eq_getElem?_getD, List.getElem?_eq_getElem h]; rfl
theorem bc_set (l : List UInt8) (k : Nat) (z : UInt8) : (bc l).set k (.int .u8 (z.toNat : Int)) = bc (l.set k z) := by
  unfold bc; rw [List.map_set]
theorem bc_length (l : List UInt8) : (bc l).length = l.length := by simp [bc]

/-- An element: plain cells, then one row of bytes. -/
structure Nb (α : Type) where
  pre : α → List Value
  dat : α → List UInt8
  upd : α → List UInt8 → α
  sz : Nat
  len : ∀ x, (pre x).length + 1 = sz
  one : ∀ x, ∀ u ∈ pre x, u.oneCell' = true
  preU : ∀ x d, pre (upd x d) = pre x
  datU : ∀ x d, dat (upd x d) = d
def Nb.b : Nb (List UInt8) := ⟨fun _ => [], fun x => x, fun _ d => d, 1, fun _ => rfl, (fun _ _ h => by cases h), fun _ _ => rfl, fun _ _ => rfl⟩
def Nb.s : Nb (Int × List UInt8) := ⟨fun x => [.int .i64 x.1], fun x => x.2, fun x d => (x.1, d), 2, fun _ => rfl, (fun _ u h => by simp at h; subst h; rfl), fun _ _ => rfl, fun _ _ => rfl⟩

section
variable {α : Type} (N : Nb α) (e : TypeId)
/-- The row of an element. -/
def nR (x : α) (v : Value) : Res := .row v e 1 (N.dat x).length (bc (N.dat x))
/-- The rows of the elements. -/
def nT : List α → List Value → List Res
  | x :: l, v :: vs => nR N e x v :: nT l vs
  | _, _ => []
/-- The cells of the outer row. -/
def nC : List α → List Value → List Value
  | x :: l, v :: vs => N.pre x ++ v :: nC l vs
  | _, _ => []
end

section
variable {α : Type} {N : Nb α} {e : TypeId}
theorem nC_len : ∀ {l : List α} {vs : List Value}, l.length = vs.length → (nC N l vs).length = l.length * N.sz
  | [], [], _ => by simp [nC]
  | x :: l, v :: vs, h => by
    have := nC_len (l := l) (vs := vs) (by simpa using h)
    have hx := N.len x
    simp only [nC, List.length_append, List.length_cons, this, Nat.add_mul]
    omega
  | [], _ :: _, h => by cases h
  | _ :: _, [], h => by cases h
theorem nT_at [Inhabited α] : ∀ {l : List α} {vs : List Value}, l.length = vs.length → ∀ i, i < l.length → nthR (nT N e l vs) i = some (nR N e (l.getD i default) (vs.getD i default))
  | x :: l, v :: vs, h, 0, _ => rfl
  | x :: l, v :: vs, h, i + 1, hi => nT_at (l := l) (vs := vs) (by simpa using h) i (by simpa using hi)
  | [], _, _, _, hi => by cases hi
  | _ :: _, [], h, _, _ => by cases h
theorem nC_at [Inhabited α] : ∀ {l : List α} {vs : List Value}, l.length = vs.length → ∀ i, i < l.length → ∀ j u, (N.pre (l.getD i default) ++ [vs.getD i default])[j]? = some u → (nC N l vs)[i * N.sz + j]? = some u
  | x :: l, v :: vs, h, 0, _, j, u, hu => by
    have hu : (N.pre x ++ [v])[j]? = some u := hu
    have hj := (List.getElem?_eq_some_iff.1 hu).1
    show (N.pre x ++ v :: nC N l vs)[0 * N.sz + j]? = some u
    rw [Nat.zero_mul, Nat.zero_add, show N.pre x ++ v :: nC N l vs = (N.pre x ++ [v]) ++ nC N l vs by simp, List.getElem?_append_left hj]
    exact hu
  | x :: l, v :: vs, h, i + 1, hi, j, u, hu => by
    have hx := N.len x
    have ih := nC_at (l := l) (vs := vs) (by simpa using h) i (by simpa using hi) j u (by simpa using hu)
    show (N.pre x ++ v :: nC N l vs)[(i + 1) * N.sz + j]? = some u
    rw [List.getElem?_append_right (by rw [Nat.add_mul]; omega), show (i + 1) * N.sz + j - (N.pre x).length = (i * N.sz + j) + 1 by rw [Nat.add_mul]; omega, List.getElem?_cons_succ]
    exact ih
  | [], _, _, _, hi, _, _, _ => by cases hi
  | _ :: _, [], h, _, _, _, _, _ => by cases h
theorem nT_set [Inhabited α] : ∀ {l : List α} {vs : List Value}, l.length = vs.length → ∀ i, i < l.length → ∀ y, setR (nT N e l vs) i (nR N e y (vs.getD i default)) = nT N e (l.set i y) vs
  | x :: l, v :: vs, h, 0, _, y => rfl
  | x :: l, v :: vs, h, i + 1, hi, y => congrArg (nR N e x v :: ·) (nT_set (l := l) (vs := vs) (by simpa using h) i (by simpa using hi) y)
  | [], _, _, _, hi, _ => by cases hi
  | _ :: _, [], h, _, _, _ => by cases h
theorem nC_set [Inhabited α] : ∀ {l : List α} {vs : List Value}, l.length = vs.length → ∀ i, i < l.length → ∀ y, N.pre y = N.pre (l.getD i default) → nC N (l.set i y) vs = nC N l vs
  | x :: l, v :: vs, h, 0, _, y, hy => by
    have hy : N.pre y = N.pre x := hy
    show N.pre y ++ v :: nC N l vs = N.pre x ++ v :: nC N l vs
    rw [hy]
  | x :: l, v :: vs, h, i + 1, hi, y, hy => by
    show N.pre x ++ v :: nC N (l.set i y) vs = N.pre x ++ v :: nC N l vs
    rw [nC_set (l := l) (vs := vs) (by simpa using h) i (by simpa using hi) y (by simpa using hy)]
  | [], _, _, _, hi, _, _ => by cases hi
  | _ :: _, [], h, _, _, _, _ => by cases h
theorem nT_push (x : α) (v : Value) : ∀ {l : List α} {vs : List Value}, l.length = vs.length → nT N e (l ++ [x]) (vs ++ [v]) = nT N e l vs ++ [nR N e x v]
  | [], [], _ => rfl
  | y :: l, u :: vs, h => congrArg (nR N e y u :: ·) (nT_push x v (l := l) (vs := vs) (by simpa using h))
  | [], _ :: _, h => by cases h
  | _ :: _, [], h => by cases h
theorem nC_push (x : α) (v : Value) : ∀ {l : List α} {vs : List Value}, l.length = vs.length → nC N (l ++ [x]) (vs ++ [v]) = nC N l vs ++ (N.pre x ++ [v])
  | [], [], _ => rfl
  | y :: l, u :: vs, h => by
    show N.pre y ++ u :: nC N (l ++ [x]) (vs ++ [v]) = (N.pre y ++ u :: nC N l vs) ++ (N.pre x ++ [v])
    rw [nC_push x v (l := l) (vs := vs) (by simpa using h), List.append_assoc, List.cons_append]
  | [], _ :: _, h => by cases h
  | _ :: _, [], h => by cases h
theorem nT_zip : ∀ (l : List α) (vs : List Value), nT N e l vs = (l.zip vs).map fun p => nR N e p.1 p.2
  | [], _ => by simp [nT]
  | _ :: _, [] => by simp [nT]
  | x :: l, v :: vs => by rw [nT, nT_zip l vs]; rfl
theorem nthR_app : ∀ (A T : List Res) (i : Nat), nthR (A ++ T) (A.length + i) = nthR T i
  | [], T, i => by rw [List.nil_append, List.length_nil, Nat.zero_add]
  | a :: A, T, i => by rw [List.length_cons, show A.length + 1 + i = (A.length + i) + 1 by omega]; exact nthR_app A T i
theorem setR_app : ∀ (A T : List Res) (i : Nat) (r : Res), setR (A ++ T) (A.length + i) r = A ++ setR T i r
  | [], T, i, r => by rw [List.nil_append, List.length_nil, Nat.zero_add, List.nil_append]
  | a :: A, T, i, r => by rw [List.length_cons, show A.length + 1 + i = (A.length + i) + 1 by omega]; exact congrArg (a :: ·) (setR_app A T i r)
theorem nthR_left : ∀ {A : List Res} {i : Nat} {r : Res} (T : List Res), nthR A i = some r → nthR (A ++ T) i = some r
  | _ :: _, 0, _, _, h => h
  | _ :: A, i + 1, _, T, h => nthR_left (A := A) (i := i) T h
theorem setR_left : ∀ {A : List Res} {i : Nat} {r : Res} (s : Res) (T : List Res), nthR A i = some r → setR (A ++ T) i s = setR A i s ++ T
  | _ :: _, 0, _, _, _, _ => rfl
  | a :: A, i + 1, _, s, T, h => congrArg (a :: ·) (setR_left (A := A) (i := i) s T h)
theorem nthR_set_ne : ∀ {A : List Res} {i j : Nat} {r : Res} (s : Res), i ≠ j → nthR A j = some r → nthR (setR A i s) j = some r
  | _ :: _, 0, 0, _, _, h, _ => absurd rfl h
  | _ :: _, 0, _ + 1, _, _, _, h => h
  | _ :: _, _ + 1, 0, _, _, _, h => h
  | _ :: A, i + 1, j + 1, _, s, h, k => nthR_set_ne (A := A) (i := i) (j := j) s (by omega) k
end

section
variable {P : Program} {n : Sz} {ops : Array Oper} {Q : Exit → Act → World → Prop} {L : Env} {w w0 : World} {O : List Res} {rest : List Oper}
  {d : Nat} {ty : TypeId} {pos : String} {af : Array Edge} {α : Type} [Inhabited α] {N : Nb α} {x y : Operand} {vo : Value} {t e eo : TypeId} {A : List Res} {l : List α} {vs : List Value}

/-- An inner row is read. -/
theorem nest_vec (hL : Lcl w0 (A ++ nT N e l vs) w) (hn : l.length = vs.length) (m : Nat) (hm : m < l.length) : Vec .byte (hp w) (vs.getD m default) (N.dat (l.getD m default)) :=
  hL.vecR (r := .byte) (i := A.length + m) (by rw [nthR_app, nT_at hn m hm]; rfl) (bc_elems _ _)
theorem nest_one (hL : Lcl w0 (A ++ nT N e l vs) w) (hn : l.length = vs.length) (m : Nat) (hm : m < l.length) : (vs.getD m default).oneCell' = true :=
  row_one (hL.at (i := A.length + m) (r := nR N e (l.getD m default) (vs.getD m default)) (by rw [nthR_app, nT_at hn m hm]))
theorem r_indexQ (i : Nat) {bt : Nat} {zz : Value} {k : IntKind} {c : Int} (hx : ev L x = some vo) (hy : ev L y = some (.int k c)) (ht : P.underlying t = some (.slice eo)) (hz : Zr P eo zz N.sz bt) (hL : Lcl w0 (A ++ nT N e l vs) w) (hi : nthR A i = some (.row vo eo N.sz l.length (nC N l vs))) (hn : l.length = vs.length) (m : Nat) (hm : c = (m : Int)) (hlt : m < l.length) :
    ∃ p, PtrTo (hp w) p (N.pre (l.getD m default) ++ [vs.getD m default]) ∧ ∀ w, RunsAt P L w (.indexAddr t x y) ty (.pointer (some p)) := by
  have hi' := nthR_left (nT N e l vs) hi
  obtain ⟨p, h1, h2⟩ := r_indexR (P := P) (ty := ty) i hx hy ht hz hL hi' m hm hlt
  refine ⟨p, ⟨h1.2.2, fun j u hu => ?_⟩, h2⟩
  have hc := nC_at (N := N) hn m hlt j u hu
  exact row_cell hL hi' (k := m * N.sz + j) (h1.add j) hc
theorem S_indexQ (i : Nat) {bt : Nat} {zz : Value} {k : IntKind} {c : Int} (hx : ev L x = some vo) (hy : ev L y = some (.int k c)) (ht : P.underlying t = some (.slice eo)) (hz : Zr P eo zz N.sz bt) (hL : Lcl w0 (A ++ nT N e l vs) w) (hi : nthR A i = some (.row vo eo N.sz l.length (nC N l vs))) (hn : l.length = vs.length) (m : Nat) (hm : c = (m : Int)) (hlt : m < l.length) (hd : Nat.blt d n.n = true)
    (h : ∀ p, PtrTo (hp w) p (N.pre (l.getD m default) ++ [vs.getD m default]) → S P n ops Q rest ((d, .pointer (some p)) :: L) w) : S P n ops Q (⟨some d, .indexAddr t x y, ty, pos, af, none⟩ :: rest) L w := by
  obtain ⟨p, h1, h2⟩ := r_indexQ (P := P) (ty := ty) i hx hy ht hz hL hi hn m hm hlt
  exact S_v (h2 w) hd (h p h1)
theorem D_indexQ {lo : List Oper} {ix : Nat} {tr : Tr} (i : Nat) {bt : Nat} {zz : Value} {k : IntKind} {c : Int} (ho : nthO lo ix = some ⟨some d, .indexAddr t x y, ty, pos, af, none⟩) (hx : ev L x = some vo) (hy : ev L y = some (.int k c)) (ht : P.underlying t = some (.slice eo)) (hz : Zr P eo zz N.sz bt) (hL : Lcl w0 (A ++ nT N e l vs) w) (hi : nthR A i = some (.row vo eo N.sz l.length (nC N l vs))) (hn : l.length = vs.length) (m : Nat) (hm : c = (m : Int)) (hlt : m < l.length) (hd : Nat.blt d n.n = true)
    (h : ∀ p, PtrTo (hp w) p (N.pre (l.getD m default) ++ [vs.getD m default]) → D P n lo Q tr ((d, .pointer (some p)) :: L) w) : D P n lo Q (.q ix tr) L w := by
  obtain ⟨p, h1, h2⟩ := r_indexQ (P := P) (ty := ty) i hx hy ht hz hL hi hn m hm hlt
  exact D_v (h2 w) ho hd (h p h1)
theorem N_indexQ {lo : List Oper} {fuel m' : Nat} {done : List Nat} (ix i : Nat) {bt : Nat} {zz : Value} {k : IntKind} {c : Int} (hq : NoPanic Q) (hc : hoistB lo m' done ix = true) (ho : nthO lo ix = some ⟨some d, .indexAddr t x y, ty, pos, af, none⟩) (hx : ev L x = some vo) (hy : ev L y = some (.int k c)) (ht : P.underlying t = some (.slice eo)) (hz : Zr P eo zz N.sz bt) (hL : Lcl w0 (A ++ nT N e l vs) w) (hi : nthR A i = some (.row vo eo N.sz l.length (nC N l vs))) (hn : l.length = vs.length) (m : Nat) (hm : c = (m : Int)) (hlt : m < l.length) (hd : Nat.blt d n.n = true)
    (h : ∀ p, PtrTo (hp w) p (N.pre (l.getD m default) ++ [vs.getD m default]) → Nv P n lo Q fuel (lst m' (ix :: done)) ((d, .pointer (some p)) :: L) w) : Nv P n lo Q (fuel + 1) (lst m' done) L w := by
  obtain ⟨p, h1, h2⟩ := r_indexQ (P := P) (ty := ty) i hx hy ht hz hL hi hn m hm hlt
  exact N_hoist ix hq hc ho h2 hd (h p h1)
/-- A place of an inner row. -/
theorem S_indexI {bt : Nat} {zz : Value} {k : IntKind} {c : Int} (m : Nat) (hx : ev L x = some (vs.getD m default)) (hy : ev L y = some (.int k c)) (ht : P.underlying t = some (.slice e)) (hz : Zr P e zz 1 bt) (hL : Lcl w0 (A ++ nT N e l vs) w) (hn : l.length = vs.length) (hm : m < l.length) (j : Nat) (hj : c = (j : Int)) (hlt : j < (N.dat (l.getD m default)).length) (hd : Nat.blt d n.n = true)
    (h : ∀ p, RowPtr (vs.getD m default) j p → S P n ops Q rest ((d, .pointer (some p)) :: L) w) : S P n ops Q (⟨some d, .indexAddr t x y, ty, pos, af, none⟩ :: rest) L w := by
  obtain ⟨p, h1, h2⟩ := r_indexR (P := P) (ty := ty) (A.length + m) hx hy ht hz hL (by rw [nthR_app, nT_at hn m hm]; rfl) j hj hlt
  rw [Nat.mul_one] at h1
  exact S_v (h2 w) hd (h p h1)
/-- A byte of an inner row is turned. -/
theorem S_storeI (A : List α → List Res) {bt m j : Nat} {zz : Value} {p : Addr} {z : UInt8} (hx : ev L x = some (.pointer (some p))) (hy : ev L y = some (.int .u8 (z.toNat : Int))) (hz : Zr P t zz 1 bt) (hL : Lcl w0 (A l ++ nT N e l vs) w) (hn : l.length = vs.length) (hA : ∀ l', l'.length = l.length → nC N l' vs = nC N l vs → A l' = A l) (hm : m < l.length) (hp' : RowPtr (vs.getD m default) j p) (hlt : j < (N.dat (l.getD m default)).length)
    (h : ∀ w', (l.set m (N.upd (l.getD m default) ((N.dat (l.getD m default)).set j z))).length = vs.length → Lcl w0 (A (l.set m (N.upd (l.getD m default) ((N.dat (l.getD m default)).set j z))) ++ nT N e (l.set m (N.upd (l.getD m default) ((N.dat (l.getD m default)).set j z))) vs) w' →
      Le (fz w (A l ++ nT N e l vs)) (fz w' (A (l.set m (N.upd (l.getD m default) ((N.dat (l.getD m default)).set j z))) ++ nT N e (l.set m (N.upd (l.getD m default) ((N.dat (l.getD m default)).set j z))) vs)) → S P n ops Q rest L w') :
    S P n ops Q (⟨none, .store t x y, ty, pos, af, none⟩ :: rest) L w := by
  have hs : ((l.set m (N.upd (l.getD m default) ((N.dat (l.getD m default)).set j z)))).length = l.length := List.length_set
  refine S_storeR ((A l).length + m) hx hy rfl hz hL (by rw [nthR_app, nT_at hn m hm]; rfl) hp' (by rw [bc_length]; exact hlt) fun w' h1 h2 => ?_
  have e1 : Res.row (vs.getD m default) e 1 (N.dat (l.getD m default)).length ((bc (N.dat (l.getD m default))).set j (.int .u8 (z.toNat : Int))) = nR N e (N.upd (l.getD m default) ((N.dat (l.getD m default)).set j z)) (vs.getD m default) := by
    rw [bc_set]; unfold nR; rw [N.datU, List.length_set]
  have eA := hA _ hs (nC_set hn m hm _ (N.preU _ _))
  rw [e1, setR_app, nT_set hn m hm] at h1 h2
  exact h w' (hs.trans hn) (by rw [eA]; exact h1) (by rw [eA]; exact h2)
end
section
variable {P : Program} {n : Sz} {ops : Array Oper} {Q : Exit → Act → World → Prop} {L : Env} {w w0 : World} {rest : List Oper}
  {d d' : Nat} {ty ty' : TypeId} {pos pos' : String} {af af' : Array Edge} {α : Type} {N : Nb α} {x : Operand} {v vo : Value} {t e eo : TypeId} {H : PH} {l : List α} {vs : List Value}
/-- A row of bytes of the call's own becomes the last element. -/
theorem S_pushQ (A : List Res) (A' : Value → List Res) (io ir : Nat) {bt : Nat} {zz : Value} {ps : List (Nat × Operand)} {vv : List (Nat × Value)} {xs : List Value} {G : PH} (z : α) (hp' : evp L ps = some vv) (hr : ∀ w, (Instr.buildSlice t 1 vv.toArray).run P w = .ok (.slice (some ⟨w.heap.size, 0, none⟩) 1 1) (w.alloc (.cells (N.pre z ++ [v]).toArray eo))) (hd : Nat.blt d n.n = true)
    (_hx : ev L x = some vo) (hxd : ∀ u, ev ((d, u) :: L) x = some vo) (ht : P.underlying t = some (.slice eo)) (hz : Zr P eo zz N.sz bt) (hzs : zz.cells.size = N.sz) (hd' : Nat.blt d' n.n = true)
    (hL : Lcl w0 (A ++ nT N e l vs) w) (hn : l.length = vs.length) (hio : nthR A io = some (.row vo eo N.sz l.length (nC N l vs))) (hir : nthR A ir = some (.row v e 1 (N.dat z).length xs)) (hne : io ≠ ir) (he : Elems .byte G (N.dat z) xs) (hby : Cap bt (l.length + 1))
    (hA' : ∀ v', delR (setR A io (.row v' eo N.sz (l ++ [z]).length (nC N (l ++ [z]) (vs ++ [v])))) ir = A' v')
    (h : ∀ u v' w', (l ++ [z]).length = (vs ++ [v]).length → Lcl w0 (A' v' ++ nT N e (l ++ [z]) (vs ++ [v])) w' → Le (fz w (A ++ nT N e l vs)) (fz w' (A' v' ++ nT N e (l ++ [z]) (vs ++ [v]))) → S P n ops Q rest ((d', v') :: (d, u) :: L) w') :
    S P n ops Q (⟨some d, .buildSlice t 1 ps.toArray, ty, pos, af, none⟩ :: ⟨some d', .call ⟨.builtin .append, #[x, .tmp d], #[t, t]⟩, ty', pos', af', none⟩ :: rest) L w := by
  have hvo : v.oneCell' = true := row_one (hL.at (nthR_left _ hir))
  refine S_lit (sz := N.sz) hp' hr (by rw [List.length_append, List.length_singleton, N.len, Nat.one_mul]) (by omega) hd hL fun u w1 hx1 hL1 hle1 hs1 _ => ?_
  refine S_append io (hxd u) (u := u) (by simp [ev, gt]) ht hz hzs (by have := N.len z; omega) hd' hL1 (nthR_left _ hio) (hs1.mono (nw_le _ _)) (fun c hc => ?_) hby fun v' w2 hL2 hle2 => ?_
  · rcases List.mem_append.1 hc with hc | hc
    · exact N.one z c hc
    · rw [List.mem_singleton] at hc; subst hc; exact hvo
  · obtain rfl := bc_of he
    have e0 : l.length + 1 = (l ++ [z]).length := by rw [List.length_append, List.length_singleton]
    rw [setR_left _ _ hio, ← nC_push z v hn, e0] at hL2 hle2
    have hir2 := nthR_set_ne (.row v' eo N.sz (l ++ [z]).length (nC N (l ++ [z]) (vs ++ [v]))) hne hir
    have hp2 : (delR (setR A io (.row v' eo N.sz (l ++ [z]).length (nC N (l ++ [z]) (vs ++ [v])))) ir ++ nT N e (l ++ [z]) (vs ++ [v])).Perm (setR A io (.row v' eo N.sz (l ++ [z]).length (nC N (l ++ [z]) (vs ++ [v]))) ++ nT N e l vs) := by
      rw [nT_push z v hn, ← List.append_assoc]
      refine (List.perm_append_singleton _ _).trans ?_
      exact (List.Perm.append_right (nT N e l vs) (perm_nth hir2)).symm
    refine h u v' w2 (by simp [hn]) ?_ ?_
    · rw [← hA']; exact hL2.perm hp2
    · rw [← hA', fz_perm hp2]; exact hle1.trans hle2
end
/-- Two places of a list change their things. -/
def swp {α : Type} [Inhabited α] (l : List α) (i j : Nat) : List α := (l.set i (l.getD j default)).set j (l.getD i default)
theorem swp_perm {α : Type} [Inhabited α] {l : List α} {i j : Nat} (hi : i < l.length) (hj : j < l.length) : (swp l i j).Perm l := by
  unfold swp
  have key : ∀ (l : List α) (i j : Nat), i < l.length → j < l.length → i < j → ((l.set i (l.getD j default)).set j (l.getD i default)).Perm l := by
    intro l
    induction l with
    | nil => intro i j h; cases h
    | cons a l ih =>
      intro i j h1 h2 h3
      cases j with
      | zero => omega
      | succ j =>
        cases i with
        | zero =>
          simp only [List.set_cons_zero, List.set_cons_succ, List.getD_cons_succ, List.getD_cons_zero]
          have hj : j < l.length := by simpa using h2
          have e1 : l = l.take j ++ l.getD j default :: l.drop (j + 1) := by
            rw [List.getD_eq_getElem?_getD, List.getElem?_eq_getElem hj]
            show l = l.take j ++ l[j] :: l.drop (j + 1)
            rw [← List.drop_eq_getElem_cons hj, List.take_append_drop]
          have e2 : l.set j a = l.take j ++ a :: l.drop (j + 1) := List.set_eq_take_append_cons_drop .. |>.trans (by rw [if_pos hj])
          rw [e2]
          conv => rhs; rw [e1]
          refine (List.Perm.cons _ List.perm_middle).trans ((List.Perm.swap _ _ _).trans (List.Perm.cons _ ?_))
          exact List.perm_middle.symm
        | succ i =>
          simp only [List.set_cons_succ, List.getD_cons_succ]
          exact (ih i j (by simpa using h1) (by simpa using h2) (by omega)).cons a
  rcases Nat.lt_trichotomy i j with h | h | h
  · exact key l i j hi hj h
  · subst h
    rw [List.set_set, List.getD_eq_getElem?_getD, List.getElem?_eq_getElem hi]
    show (l.set i l[i]).Perm l
    rw [List.set_getElem_self]
  · rw [List.set_comm _ _ (by omega)]
    exact key l j i hj hi h

section
variable {w w' w0 : World} {A T O O' : List Res} {α : Type} {N : Nb α} {r : Rp α} {vo : Value} {e eo : TypeId} {H : PH} {l : List α} {vs : List Value}
/-- The tail is given up. -/
theorem nest_drop (hL : Lcl w0 (A ++ T) w) : Lcl w0 A w :=
  ⟨hL.ext, fun r hr => hL.res r (List.mem_append_left _ hr), fun r hr => hL.own r (List.mem_append_left _ hr), hL.dis.sublist (List.sublist_append_left A T)⟩
theorem fz_nest_drop : Le (fz w (A ++ T)) (fz w A) := fun b o h => by
  unfold fz at h ⊢
  split at h
  · cases h
  · rename_i ho
    rw [if_neg]
    · exact h
    · intro hc
      obtain ⟨r, hr, e⟩ := owned_iff.1 hc
      exact ho (owned_iff.2 ⟨r, List.mem_append_left _ hr, e⟩)
theorem delR_app : ∀ (A T : List Res) (i : Nat), delR (A ++ T) (A.length + i) = A ++ delR T i
  | [], T, i => by rw [List.nil_append, List.length_nil, Nat.zero_add, List.nil_append]
  | a :: A, T, i => by rw [List.length_cons, show A.length + 1 + i = (A.length + i) + 1 by omega]; exact congrArg (a :: ·) (delR_app A T i)
theorem nest_elems (hH : Le H (hp w0)) (hr : ∀ G x v, Vec .byte G v (N.dat x) → r.rel G x (N.pre x ++ [v])) : ∀ {l : List α} {vs : List Value}, l.length = vs.length → Lcl w0 (A ++ nT N e l vs) w → Elems r (gz H w0 w A) l (nC N l vs)
  | [], [], _, _ => .nil
  | x :: l, v :: vs, hn, hL => by
    have hi : nthR (A ++ nT N e (x :: l) (v :: vs)) (A.length + 0) = some (.row v e 1 (N.dat x).length (bc (N.dat x))) := by rw [nthR_app]; rfl
    have hv := hL.vecG (r := Rp.byte) hH hi (bc_elems _ _)
    have hL2 := hL.dropAt hi
    rw [delR_app] at hv hL2
    have h3 := nest_elems hH hr (l := l) (vs := vs) (by simpa using hn) hL2
    have := Elems.cons (hr _ _ _ (hv.mono (gz_mono hH fz_nest_drop))) h3
    rw [List.append_assoc] at this
    exact this
  | [], _ :: _, h, _ => by cases h
  | _ :: _, [], h, _ => by cases h
/-- All of it lies fast from now on. -/
theorem nest_pub (io : Nat) (hH : Le H (hp w0)) (hr : ∀ G x v, Vec .byte G v (N.dat x) → r.rel G x (N.pre x ++ [v])) (hn : l.length = vs.length) (hL : Lcl w0 (A ++ nT N e l vs) w) (hio : nthR A io = some (.row vo eo r.sz l.length (nC N l vs))) :
    Lcl w0 (delR A io) w ∧ Le (fz w (A ++ nT N e l vs)) (fz w (delR A io)) ∧ Vec r (gz H w0 w (delR A io)) vo l :=
  ⟨(nest_drop hL).dropAt hio, fz_nest_drop.trans (fz_dropAt hio), (nest_drop hL).vecG hH hio (nest_elems hH hr hn hL)⟩
/-- What a call hands over. -/
theorem lcl_join (hL : Lcl w0 O w) (hL' : Lcl w O' w') : Lcl w0 (O' ++ O) w' ∧ Le (fz w O) (fz w' (O' ++ O)) := by
  have h1 := hL.call hL'.ext
  refine ⟨⟨h1.ext, fun r hr => ?_, fun r hr b hb => ?_, List.pairwise_append.2 ⟨hL'.dis, hL.dis, fun r hr s hs b hb hb' => ?_⟩⟩, fun b o h => ?_⟩
  · rcases List.mem_append.1 hr with hr | hr
    · exact hL'.res r hr
    · exact h1.res r hr
  · rcases List.mem_append.1 hr with hr | hr
    · exact Nat.le_trans hL.ext.size (hL'.own r hr b hb)
    · exact hL.own r hr b hb
  · have := hL'.own r hr b hb
    have := (hL.res s hs).lt hb'
    omega
  · have h2 := fz_ext hL hL'.ext b o h
    have hlt := lt_of_heap (fz_le _ _ b o h)
    unfold fz at h2 ⊢
    split at h2
    · cases h2
    · rename_i ho
      rw [if_neg]
      · exact h2
      · intro hc
        obtain ⟨r, hr, e⟩ := owned_iff.1 hc
        rcases List.mem_append.1 hr with hr | hr
        · have := hL'.own r hr b e; omega
        · exact ho (owned_iff.2 ⟨r, hr, e⟩)
theorem nest_take {q : Res} (hL : Lcl w0 A w) (hL' : Lcl w (q :: T) w') : Lcl w0 ((q :: A) ++ T) w' ∧ Le (fz w A) (fz w' ((q :: A) ++ T)) := by
  obtain ⟨h1, h2⟩ := lcl_join hL hL'
  have hp : ((q :: A) ++ T).Perm (q :: T ++ A) := (List.perm_append_comm).cons q
  exact ⟨h1.perm hp, by rw [fz_perm hp]; exact h2⟩
theorem nC_b : ∀ {l : List (List UInt8)} {vs : List Value}, l.length = vs.length → nC Nb.b l vs = vs
  | [], [], _ => rfl
  | _ :: l, v :: vs, h => congrArg (v :: ·) (nC_b (l := l) (vs := vs) (by simpa using h))
  | [], _ :: _, h => by cases h
  | _ :: _, [], h => by cases h
theorem swp_length {β : Type} [Inhabited β] (l : List β) (i j : Nat) : (swp l i j).length = l.length := by simp [swp]
theorem zip_set {β γ : Type} : ∀ (l : List β) (m : List γ) (i : Nat) (a : β) (b : γ), (l.set i a).zip (m.set i b) = (l.zip m).set i (a, b)
  | [], m, i, a, b => by simp
  | x :: l, [], i, a, b => by simp
  | x :: l, y :: m, 0, a, b => rfl
  | x :: l, y :: m, i + 1, a, b => by simp [zip_set l m i a b]
theorem zip_getD {β γ : Type} [Inhabited β] [Inhabited γ] : ∀ {l : List β} {m : List γ} {i : Nat}, l.length = m.length → (l.zip m).getD i default = (l.getD i default, m.getD i default)
  | [], [], i, _ => by simp; rfl
  | x :: l, y :: m, 0, _ => rfl
  | x :: l, y :: m, i + 1, h => by simpa using zip_getD (l := l) (m := m) (i := i) (by simpa using h)
  | [], _ :: _, _, h => by cases h
  | _ :: _, [], _, h => by cases h
theorem zip_swp {β γ : Type} [Inhabited β] [Inhabited γ] {l : List β} {m : List γ} {i j : Nat} (h : l.length = m.length) : (swp l i j).zip (swp m i j) = swp (l.zip m) i j := by
  unfold swp
  rw [zip_set, zip_set, zip_getD h, zip_getD h]
theorem nb_lt {l : List (List UInt8)} {vs : List Value} {m : Nat} (hn : l.length = vs.length) (h : m < l.length) : m * 1 < (nC Nb.b l vs).length := by rw [nC_b hn, Nat.mul_one]; omega
theorem nb_lt' {l : List (List UInt8)} {vs : List Value} {m k : Nat} {u : Value} (hn : l.length = vs.length) (h : m < l.length) : m * 1 < ((nC Nb.b l vs).set k u).length := by rw [List.length_set]; exact nb_lt hn h
/-- Two elements change their places. -/
theorem nest_swap (A : Nat → List Value → List Res) {l : List (List UInt8)} {vs : List Value} {c p : Nat} (hn : l.length = vs.length) (hc : c < l.length) (hp' : p < l.length) (hL : Lcl w0 (A l.length (((nC Nb.b l vs).set (c * 1) (vs.getD p default)).set (p * 1) (vs.getD c default)) ++ nT Nb.b e l vs) w) :
    (swp l c p).length = (swp vs c p).length ∧ Lcl w0 (A (swp l c p).length (nC Nb.b (swp l c p) (swp vs c p)) ++ nT Nb.b e (swp l c p) (swp vs c p)) w ∧
    Le (fz w (A l.length (((nC Nb.b l vs).set (c * 1) (vs.getD p default)).set (p * 1) (vs.getD c default)) ++ nT Nb.b e l vs)) (fz w (A (swp l c p).length (nC Nb.b (swp l c p) (swp vs c p)) ++ nT Nb.b e (swp l c p) (swp vs c p))) := by
  have h0 : (swp l c p).length = (swp vs c p).length := by rw [swp_length, swp_length, hn]
  have e1 : ((nC Nb.b l vs).set (c * 1) (vs.getD p default)).set (p * 1) (vs.getD c default) = nC Nb.b (swp l c p) (swp vs c p) := by
    rw [nC_b h0, nC_b hn, Nat.mul_one, Nat.mul_one]; rfl
  have hperm : (nT Nb.b e (swp l c p) (swp vs c p)).Perm (nT Nb.b e l vs) := by
    rw [nT_zip, nT_zip, zip_swp hn]
    exact (swp_perm (by simp; omega) (by simp; omega)).map _
  rw [e1] at hL ⊢
  rw [swp_length]
  have h2 := hperm.append_left (A l.length (nC Nb.b (swp l c p) (swp vs c p)))
  exact ⟨by rw [← h0, swp_length], hL.perm h2, by rw [fz_perm h2]; exact Le.refl _⟩
end
end Go.E
