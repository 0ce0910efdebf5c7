/- Texts of a claim, merged. -/
import Derived.Test.YtfgomcdgmihmpaaGreatDoorLa1
import Derived.Lib.OthersKept
import Derived.Lib.SliceRun
import Derived.Test.YtfgomcdgmihmpaaGreatDoorRows
import Derived.KernelRfl
import Derived.Laws.Cover4
import Derived.Maps.RangeRun
open _root_.Go.Proofs.Tryz renaming underlying22→Zi,underlying27→Zl,underlying38→Zm,underlying31→Zo,underlying53→Zs,underlying154→Zt,underlying155→Zu,underlying25→Zv
open Option renaming bind->QqB,bind_some->QqC,map->QqD
open List renaming length_append->Qq1,replicate->Qq3,drop_eq_getElem_cons->Qzc,length_map->Qq9,getD_eq_getElem?_getD->QzX,append_nil->QzQ,length_set->Qxq,take_of_length_le->Qz8,length_take->Qz9,range->Qze,take_append_drop->Qxc
open Nat renaming le_refl->Qq0,blt->QqE,zero_add->Qq8,mul_one->Qzw,add_mul->Qzy,beq->Qzb,zero_mul->Qz4
open HAppend renaming hAppend->Qq6
open BitVec renaming ofInt->Qzz
open Int renaming toNat_of_nonneg->QzZ,eq_ofNat_of_zero_le->Qz1
open Array renaming replicate->QzD
open ByteArray renaming size->Qz2
open Bool renaming not_false->Qz6
set_option linter.unusedVariables false
set_option linter.unusedSimpArgs false
set_option linter.unusedSectionVars false
noncomputable section
namespace Go.L
inductive Pv where
 | mk (kind number:Int) (bytes:QqZ) (names:QqA) (parts:List Pv)
instance:Inhabited Pv:=⟨.mk 0 0 [] [] []⟩
abbrev Y5:Type:=Int×Int×QqZ×QqA×List Pv
def Pv.f:Pv->Y5
 | .mk k n b ns ps=>(k,n,b,ns,ps)
end Go.L
namespace Go.E
open Go Go.L
variable {α β:Type}
def Rp.via(r:Rp β)(f:α->β):Rp α:=⟨r.sz,fun H x c=>r.rel H (f x) c,fun h=>r.len h,fun hs h=>r.mono hs h,fun h=>r.one h⟩
def Rp.no(α:Type)(n:Nat):Rp α:=⟨n,fun _ _ _=>False,fun h=>h.elim,fun _ h=>h,fun h=>h.elim⟩
theorem AD.WY{r s:Rp α}{H:PH}{v:Value}{l:List α}(hz:r.sz=s.sz)(h:AD r H v l)(hrel:∀x∈l,∀c,r.rel H x c->s.rel H x c):AD s H v l:=by
 obtain⟨a,cap,b,h2,h3,d,e⟩:=h.ex;refine⟨a,cap,b,h2,h3,d,fun A hA hl=>?_⟩;obtain⟨f,g⟩:=e A hA hl;refine⟨f,fun i x hx=>?_⟩;obtain⟨c,hc,hcell⟩:=g i x hx;exact⟨c,hrel x (List.mem_of_getElem? hx) c hc,fun j u hu=>by rw[<- hz];exact hcell j u hu⟩
def Rp.fields(r:Rp Pv):Rp Y5:=.pair (.int .i64) (.pair (.int .i64) (.pair (.vec .byte) (.pair (.vec .st) (.vec r))))
def Rp.K6:Nat->Rp Pv
 | 0=>.no Pv 5
 | d+1=>(Rp.fields (Rp.K6 d)).via Pv.f
theorem Rp.Mj:∀d,(Rp.K6 d).sz=5
 | 0=>rfl
 | _+1=>rfl
theorem Rp.Qk{r s:Rp Pv}{H:PH}{x:Y5}{c:QqK}(hz:r.sz=s.sz)(hrel:∀y∈x.2.2.2.2,∀c,r.rel H y c->s.rel H y c)(h:(Rp.fields r).rel H x c):(Rp.fields s).rel H x c:=by
 obtain⟨c1,c2,a,b,c3,c4,d,h2,c5,c6,e,h3,c7,c8,f,g,v,i,j⟩:=h;exact⟨c1,c2,a,b,c3,c4,d,h2,c5,c6,e,h3,c7,c8,f,g,v,i,j.WY hz hrel⟩
theorem Rp.Pp{H:PH}:∀(d:Nat) (x:Pv) (c:QqK),(Rp.K6 d).rel H x c->(Rp.K6 (d+1)).rel H x c
 | 0,_,_,h=>h.elim
 | d+1,x,c,h=>Rp.Qk (r:=Rp.K6 d) (s:=Rp.K6 (d+1)) (by rw[Rp.Mj,Rp.Mj]) (fun y _ c h=>Rp.Pp d y c h) h
theorem Rp.Rz{H:PH}{d e:Nat}(h:d<=e){x:Pv}{c:QqK}(hx:(Rp.K6 d).rel H x c):(Rp.K6 e).rel H x c:=by
 induction h with
 | refl=>exact hx
 | step _ ih=>exact Rp.Pp _ _ _ ih
def Rp.tree:Rp Pv:=⟨5,fun H x c=>∃d,(Rp.K6 d).rel H x c,fun h=>by obtain⟨d,h⟩:=h;rw[(Rp.K6 d).len h,Rp.Mj],fun hs h=>by obtain⟨d,h⟩:=h;exact⟨d,(Rp.K6 d).mono hs h⟩,fun h=>by obtain⟨d,h⟩:=h;exact(Rp.K6 d).one h⟩
theorem Rp.DV{H:PH}{x:Pv}{c:QqK}(h:Rp.tree.rel H x c):(Rp.fields Rp.tree).rel H x.f c:=by
 obtain⟨d,h⟩:=h
 cases d with
 | zero=>exact h.elim
 | succ d=>exact Rp.Qk (r:=Rp.K6 d) (s:=Rp.tree) (Rp.Mj d) (fun y _ c h=>⟨d,h⟩) h
theorem AD.bound{H:PH}{v:Value}{l:List Pv}(h:AD Rp.tree H v l):∃d,AD (Rp.K6 d) H v l:=by
 obtain⟨a,cap,b,h2,h3,f,g⟩:=h.ex
 cases a with
 | none=>exact⟨0,none,cap,b,h2,h3,f,fun A hA=>by cases hA⟩
 | some A=>
  have key:∀n,∃d,∀i x,i<n->l≠[]->l[i]? = some x->∃c,(Rp.K6 d).rel H x c/\∀j u,c[j]? = some u->GZ H (A.add (i * 5+j))=some u:=by
   intro n
   induction n with
   | zero=>exact⟨0,fun i x hi=>absurd hi (Nat.not_lt_zero i)⟩
   | succ n ih=>
    obtain⟨d,hd⟩:=ih
    by_cases hl:l=[]
    ·exact⟨0,fun i x _ hn=>absurd hl hn⟩
    cases hx:l[n]? with
    | none=>
     refine⟨d,fun i x hi hn he=>?_⟩
     rcases Nat.lt_succ_iff_lt_or_eq.1 hi with hi | rfl
     ·exact hd i x hi hn he
     ·rw[hx]at he
      cases he
    | some y=>
     obtain⟨c,⟨e,hc⟩,hcell⟩:=(g A Z hl).2 n y hx;refine⟨max d e,fun i x hi hn he=>?_⟩
     rcases Nat.lt_succ_iff_lt_or_eq.1 hi with hi | rfl
     ·obtain⟨c',k,m⟩:=hd i x hi hn he;exact⟨c',Rp.Rz (Nat.le_max_left ..) k,m⟩
     ·rw[hx]at he
      cases he
      exact⟨c,Rp.Rz (Nat.le_max_right ..) hc,hcell⟩
  obtain⟨d,hd⟩:=key l.length;refine⟨d,some A,cap,b,h2,h3,f,fun B hB hl=>?_⟩
  cases hB
  refine⟨(g A Z hl).1,fun i x hx=>?_⟩;rw[Rp.Mj];exact hd i x (List.getElem?_eq_some_iff.1 hx).1 hl hx
theorem Rp.AR{H:PH}{x:Pv}{c:QqK}(h:(Rp.fields Rp.tree).rel H x.f c):Rp.tree.rel H x c:=by
 obtain⟨c1,c2,a,b,c3,c4,e,h2,c5,c6,g,h3,c7,c8,i,j,v,k,l⟩:=h;obtain⟨d,hd⟩:=l.bound;exact⟨d+1,c1,c2,a,b,c3,c4,e,h2,c5,c6,g,h3,c7,c8,i,j,v,k,hd⟩
end Go.E
namespace Go.E
open Go Go.RowKit
def XU(h:QqZ×Int×Int×QqZ):Value:=.agg #[.string ⟨h.1.toArray⟩,.int .i64 h.2.1,.int .i64 h.2.2.1,.string ⟨h.2.2.2.toArray⟩]
section
variable {P:Program}{L:Env}{w:World}{t t' ty:TypeId}{x y:Operand}
theorem Q8{v:Nat}(h:v<2 ^ 64):IntKind.u64.wrap (v:Int)=(v:Int):=by
 simp only[IntKind.wrap];simp[IntKind.bits,IntKind.signed] <;> omega
theorem WZ[Dr]{op:BinOp}{c:Nat}{p q:Int}[hx:ZZ (ev L x) (some (.int .u64 p))][hy:ZZ (ev L y) (some (.int .u64 q))](ho:TY op p.toNat q.toNat=some c)(h:(0<=p/\p<2 ^ 64)/\(0<=q/\q<2 ^ 64)):B2 P L w (.binOp op t x y t') ty (.int .u64 (c:Int)):=by
 intro w' _ ρ hρ dst pos af g;obtain⟨a,rfl⟩:=Qz1 h.1.1;obtain⟨b,rfl⟩:=Qz1 h.2.1;rw[Int.toNat_natCast,Int.toNat_natCast]at ho;have ha:a<2 ^ 64:=by omega
 have hb:b<2 ^ 64:=by omega
 have ea:(Qzz 64 (a:Int)).toNat=a:=by simp;omega
 have eb:(Qzz 64 (b:Int)).toNat=b:=by simp;omega
 cases op <;> simp only[TY,Option.some.injEq,reduceCtorEq]at ho <;> subst ho
 ·have e:(Op.intBits .and .u64 (a:Int) (b:Int)).run P w'=.ok (.int .u64 ((a &&& b:Nat):Int)) w':=by
   show Result.ok (Value.int .u64 (IntKind.u64.wrap ((Qzz 64 (a:Int) &&& Qzz 64 (b:Int)).toNat:Int))) w'=_
   rw[BitVec.toNat_and,ea,eb,Q8 (Nat.and_lt_two_pow _ hb)]
  simp only[execOp,hρ x _ hx.e,hρ y _ hy.e,eqGuard,binOp,Sem.run_bind,ne_eq,not_true_eq_false,if_false,Qz6,if_true,Sem.run_pure,Result.andThen_ok,e]
 ·have e:(Op.intBits .or .u64 (a:Int) (b:Int)).run P w'=.ok (.int .u64 ((a ||| b:Nat):Int)) w':=by
   show Result.ok (Value.int .u64 (IntKind.u64.wrap ((Qzz 64 (a:Int) ||| Qzz 64 (b:Int)).toNat:Int))) w'=_
   rw[BitVec.toNat_or,ea,eb,Q8 (Nat.or_lt_two_pow ha hb)]
  simp only[execOp,hρ x _ hx.e,hρ y _ hy.e,eqGuard,binOp,Sem.run_bind,ne_eq,not_true_eq_false,if_false,Qz6,if_true,Sem.run_pure,Result.andThen_ok,e]
 ·have e:(Op.intBits .xor .u64 (a:Int) (b:Int)).run P w'=.ok (.int .u64 ((a ^^^ b:Nat):Int)) w':=by
   show Result.ok (Value.int .u64 (IntKind.u64.wrap ((Qzz 64 (a:Int) ^^^ Qzz 64 (b:Int)).toNat:Int))) w'=_
   rw[BitVec.toNat_xor,ea,eb,Q8 (Nat.xor_lt_two_pow ha hb)]
  simp only[execOp,hρ x _ hx.e,hρ y _ hy.e,eqGuard,binOp,Sem.run_bind,ne_eq,not_true_eq_false,if_false,Qz6,if_true,Sem.run_pure,Result.andThen_ok,e]
end
end Go.E
end
noncomputable section
namespace Go.E
open Go Go.RowKit
section
variable {P:Program}{L:Env}{w:World}{t ty:TypeId}{x a b:Operand}{l:QqZ}{k k':IntKind}{i j:Int}
theorem LC(l:QqZ)(a b:Nat):(⟨l.toArray⟩:ByteArray).extract a b=⟨((l.drop a).take (b - a)).toArray⟩:=by
 apply ByteArray.ext;rw[ByteArray.data_extract];simp[List.extract_eq_take_drop]
theorem Uo[Dr]{lo hi:Option Operand}(hx:ev L x=some (.string ⟨l.toArray⟩))(ht:P.underlying t=some .string)(a b:Nat)(ha:X9 L lo a)(hb:Wv L hi b l.length)(d:a<=b)(h2:b<=l.length):
  B2 P L w (.slice t x lo hi none) ty (.string ⟨((l.drop a).take (b - a)).toArray⟩):=by
 intro w' _ ρ hρ dst pos af g;have hs:(ByteArray.mk l.toArray).size=l.length:=by simp[Qz2]
 have i:(a:Int)<=(b:Int):=by omega
 have j:(b:Int)<=(l.length:Int):=by omega
 have k:(a:Int)<=(l.length:Int):=by omega
 cases lo with
 | none=>
  simp only[X9]at ha;subst ha
  cases hi with
  | none=>
   simp only[Wv]at hb;subst hb;simp[execOp,hρ x _ hx,Instr.sliceAt,run_underlying ht,Instr.slice,Instr.sliceBounds,hs,LC]
  | some c=>
   obtain⟨f,hb⟩:=hb;simp[execOp,hρ x _ hx,hρ c _ hb,Instr.sliceAt,run_underlying ht,Instr.slice,Instr.sliceBounds,Instr.sliceBound,asIntOf,hs,h2,LC]
 | some e=>
  obtain⟨m,ha⟩:=ha
  cases hi with
  | none=>
   simp only[Wv]at hb;subst hb;simp[execOp,hρ x _ hx,hρ e _ ha,Instr.sliceAt,run_underlying ht,Instr.slice,Instr.sliceBounds,Instr.sliceBound,asIntOf,hs,d,LC]
  | some c=>
   obtain⟨f,hb⟩:=hb;simp[execOp,hρ x _ hx,hρ e _ ha,hρ c _ hb,Instr.sliceAt,run_underlying ht,Instr.slice,Instr.sliceBounds,Instr.sliceBound,asIntOf,hs,d,h2,LC]
theorem Up[Dr][hx:ZZ (ev L x) (some (.string ⟨l.toArray⟩))][ha:ZZ (ev L a) (some (.int k i))][hb:ZZ (ev L b) (some (.int k' j))][ht:ZZ (P.underlying t) (some .string)](hc:0<=i/\i<=j/\j<=(l.length:Int)):
  B2 P L w (.slice t x (some a) (some b) none) ty (.string ⟨((l.drop i.toNat).take (j.toNat - i.toNat)).toArray⟩):=
 Uo hx.e ht.e i.toNat j.toNat ⟨k,by rw[QzZ U];exact ha.e⟩ ⟨k',by rw[QzZ U];exact hb.e⟩ U U
theorem Uq[Dr][hx:ZZ (ev L x) (some (.string ⟨l.toArray⟩))][ha:ZZ (ev L a) (some (.int k i))][ht:ZZ (P.underlying t) (some .string)](hc:0<=i/\i<=(l.length:Int)):
  B2 P L w (.slice t x (some a) none none) ty (.string ⟨(l.drop i.toNat).toArray⟩):=by
 have:=Uo (P:=P) (w:=w) (ty:=ty) hx.e ht.e i.toNat l.length (lo:=some a) (hi:=none) ⟨k,by rw[QzZ U];exact ha.e⟩ Z U U
 rwa [Qz8 Z8]at this
theorem Xa[Dr][hx:ZZ (ev L x) (some (.string ⟨l.toArray⟩))][hb:ZZ (ev L b) (some (.int k' j))][ht:ZZ (P.underlying t) (some .string)](hc:0<=j/\j<=(l.length:Int)):
  B2 P L w (.slice t x none (some b) none) ty (.string ⟨(l.take j.toNat).toArray⟩):=by
 have:=Uo (P:=P) (w:=w) (ty:=ty) hx.e ht.e 0 j.toNat (lo:=none) (hi:=some b) Z ⟨k',by rw[QzZ U];exact hb.e⟩ U U
 simpa using this
end
section
variable {P:Program}{n:Sz}{Q:Exit->Act->World->Prop}{L:Env}{w w0:World}{O:List BS}{lop:List Oper}{ix:Nat}{tr:Tr}
 {d:Nat}{ty:TypeId}{pos:String}{af:Array Edge}{α:Type}{r:Rp α}{x a b:Operand}{v:Value}{t t' e:TypeId}{H:PH}{l:List α}{k k':IntKind}{i j:Int}{zz:Value}{bt:Nat}{jg sg:Nat}{want bb:Bool}{oj:Oper}
end
section
variable {P:Program}{n:Sz}{ops:Array Oper}{Q:Exit->Act->World->Prop}{L:Env}{w w0:World}{O:List BS}{l:List Oper}{i:Nat}{t:Tr}{rest:List Oper}
 {d:Nat}{ty:TypeId}{pos:String}{af:Array Edge}{f:FuncId}{args:List Operand}{vs:QqK}{at_:Array TypeId}{fo:Operand}
theorem Mk[Dr]{R:Value->World->Prop}[hf:ZZ (ev L fo) (some (.func (.func f) #[] #[]))][ha:ZZ (QV L args) (some vs)][hn:ZZ (QqE d n.n) true](hL:AZ w0 O w)(hok:Ok P f vs w (fun v w'=>Ext w w'/\R v w'))
  (h:∀v w',R v w'->Ext w w'->AZ w0 O w'->Le (fz w O) (fz w' O)->S P n ops Q rest ((d,v)::L) w'):S P n ops Q (⟨some d,.call ⟨.value fo,args.toArray,at_⟩,ty,pos,af,none⟩::rest) L w:=
 BD (cap:=[]) (R:=fun v w'=>Ext w w'/\R v w') hf.e ha.e (hn:=⟨hn.e⟩) (by rw[QzQ];exact hok) fun v w' hh=>h v w' hh.2 hh.1 (hL.call hh.1) (Ba hL hh.1)
end
end Go.E
namespace Go.E
open Go
theorem Pq(place:Nat->Option (Nat×Nat)):∀(l m:List (Nat×Value)) (cells:Array Value),l.map (fun p=>(p.1,p.2.cells))=m.map (fun p=>(p.1,p.2.cells))->Instr.fill place cells l=Instr.fill place cells m
 | [],[],_,_=>rfl
 | [],_::_,_,h=>by cases h
 | _::_,[],_,h=>by cases h
 | (i,v)::l,(j,u)::m,cells,h=>by
  simp only[List.map_cons,List.cons.injEq,Prod.mk.injEq]at h;obtain⟨⟨rfl,a⟩,h2⟩:=h;unfold Instr.fill;rw[a]
  split
  ·rfl
  ·split
   ·rfl
   ·exact Pq place l m _ h2
theorem Pr{P:Program}{t:TypeId}{n:Nat}{ps qs:Array (Nat×Value)}{w:World}(h:ps.toList.map (fun p=>(p.1,p.2.cells))=qs.toList.map (fun p=>(p.1,p.2.cells))):(Instr.buildSlice t n ps).run P w=(Instr.buildSlice t n qs).run P w:=by
 unfold Instr.buildSlice;simp only[Pq _ _ _ _ h]
theorem II{v:Value}(h:v.oneCell'=true):v.cells=(Value.agg #[v]).cells:=by
 cases v <;> first | rfl | cases h
end Go.E
namespace Go.E
open Go Go.RowKit
section
variable {P:Program}{n:Sz}{ops:Array Oper}{Q:Exit->Act->World->Prop}{L:Env}{w w0:World}{O:List BS}{rest:List Oper}
 {ty:TypeId}{pos:String}{af:Array Edge}{α:Type}{r:Rp α}{x y:Operand}{u v:Value}{t e:TypeId}{H:PH}
end
end Go.E
end
noncomputable section
namespace Go.L
def Ds(r:Int):QqZ:=(Go.Utf8.encode r).data.toList
def PR(l:QqZ)(p:Nat):Nat×Nat:=Go.Utf8.decode ⟨l.toArray⟩ p
end Go.L
namespace Go.E
open Go Go.RowKit
section
variable {P:Program}{n:Sz}{ops:Array Oper}{Q:Exit->Act->World->Prop}{L:Env}{w w0:World}{O:List BS}{rest:List Oper}{d:Nat}{ty t t':TypeId}{pos:String}{af:Array Edge}{x y x':Operand}{l:QqZ}
theorem Ur[Dr]{a:Int}(hx:ev L x=some (.int .i32 a))[ht:ZZ (P.underlying t) (some (.int .i32))][ht':ZZ (P.underlying t') (some .string)]:B2 P L w (.convert t t' x) ty (.string ⟨(Go.L.Ds a).toArray⟩):=by
 intro w' _ ρ hρ dst pos af g;have e:(⟨(Go.L.Ds a).toArray⟩:ByteArray)=Utf8.encode a:=by unfold Go.L.Ds;rw[Array.toArray_toList]
 rw[e];simp[execOp,hρ x _ hx,convert,run_underlying ht.e,run_underlying ht'.e,Conv.intToString]
theorem Us[Dr](hx:ev L x=some (.string ⟨l.toArray⟩))[ht:ZZ (P.underlying t) (some .string)][hn:ZZ (QqE d n.n) true](hL:AZ w0 O w)
  (h:∀w' b,AZ w0 (.obj b (.stringIter ⟨l.toArray⟩ 0)::O) w'->Le (fz w O) (fz w' (.obj b (.stringIter ⟨l.toArray⟩ 0)::O))->S P n ops Q rest ((d,.pointer (some ⟨b,0,none⟩))::L) w'):S P n ops Q (⟨some d,.range t x,ty,pos,af,none⟩::rest) L w:=by
 have hb:∀b,(BS.obj w.heap.size (.stringIter ⟨l.toArray⟩ 0)).block=some b->w.heap.size<=b:=fun b e=>by cases e;exact Qq0 _
 refine EO (v:=.pointer (some ⟨w.heap.size,0,none⟩)) (w':=w.alloc (.stringIter ⟨l.toArray⟩ 0)) hn.e (fun ρ hρ=>?_) (h _ _ (hL.new (D5 w _) (World.alloc_heap_new w _) hb) (OX hL (D5 w _) hb));simp[execOp,Instr.range,run_underlying ht.e,hρ x _ hx,newObj,Sem.run]
theorem VC[Dr](i:Nat){b p:Nat}(hx:ev L x=some (.pointer (some ⟨b,0,none⟩)))[hn:ZZ (QqE d n.n) true](hL:AZ w0 O w)(hi:DW O i=some (.obj b (.stringIter ⟨l.toArray⟩ p)))
  (a:p<l.length->∀w',AZ w0 (DX O i (.obj b (.stringIter ⟨l.toArray⟩ (p+(Go.L.PR l p).2)))) w'->Le (fz w O) (fz w' (DX O i (.obj b (.stringIter ⟨l.toArray⟩ (p+(Go.L.PR l p).2)))))->S P n ops Q rest ((d,.tuple #[.bool true,.int .i64 (p:Int),.int .i32 ((Go.L.PR l p).1:Int)])::L) w')
  (h2 : ¬p<l.length->S P n ops Q rest ((d,.tuple #[.bool false])::L) w):S P n ops Q (⟨some d,.next x true,ty,pos,af,none⟩::rest) L w:=by
 have hb:w.heap[b]? = some (.stringIter ⟨l.toArray⟩ p):=hL.at hi;have hs:(ByteArray.mk l.toArray).size=l.length:=by simp[Qz2]
 by_cases hp:p<l.length
 ·have hr:=Lib.run_next_any_at (P:=P) w b ⟨l.toArray⟩ p ty hb (by rw[hs];exact hp);have hput:=hL.putAt (.stringIter ⟨l.toArray⟩ (p+(Go.L.PR l p).2)) hi;refine EO (v:=.tuple #[.bool true,.int .i64 (p:Int),.int .i32 ((Go.L.PR l p).1:Int)]) (w':=_) hn.e (fun ρ hρ=>?_) (a hp _ hput.1 hput.2);have e:w.iterAt b ⟨l.toArray⟩ (p+(Utf8.decode ⟨l.toArray⟩ p).2)=w.putObj b (.stringIter ⟨l.toArray⟩ (p+(Go.L.PR l p).2)):=Z;rw[e]at hr;simp[execOp,hρ x _ hx,hr,Go.L.PR]
 ·have hr:=Lib.run_next_end_at (P:=P) w b ⟨l.toArray⟩ p ty hb (by rw[hs];exact hp);refine EO (v:=.tuple #[.bool false]) (w':=w) hn.e (fun ρ hρ=>?_) (h2 hp);simp[execOp,hρ x _ hx,hr]
end
section
variable {κ:Type}{enc:κ->Value}{k:κ}
end
section
variable {κ α:Type} [DecidableEq κ] {k:κ}{l:List (κ×List α)}
end
section
variable {P:Program}{n:Sz}{ops:Array Oper}{Q:Exit->Act->World->Prop}{L:Env}{w w0:World}{O:List BS}{rest:List Oper}{d:Nat}{ty ty' t mt kt et e:TypeId}{pos pos':String}{af af':Array Edge}{x y x' m':Operand}
 {κ α:Type} [DecidableEq κ] {enc:κ->Value}{cw:α->QqK}{sz:Nat}{l:List (κ×List α)}{vs:QqK}{k:κ}{H:PH}{A:List BS}
end
end Go.E
end
noncomputable section
namespace Go.E
open Go Go.RowKit
def VD(v v':Value)(lo:Nat):Prop:=∃a m cap,v=.slice a m cap/\lo<=m/\m<=cap/\v'=.slice (if cap=lo then a else a.map (·.add lo)) (m - lo) (cap - lo)
theorem VD.vec{α:Type}{r:Rp α}{H:PH}{v v':Value}{lo:Nat}{l:List α}(h:VD v v' lo)(hv:AD r H v l)(hr:r.sz=1):AD r H v' (l.drop lo):=by
 obtain⟨a,m,cap,rfl,c,h2,rfl⟩:=h;obtain⟨a',cap',he⟩:=hv.header;have hm:m=l.length:=by cases he;rfl
 subst hm;obtain⟨a2,f,g,hs⟩:=hv.sub lo l.length c (Qq0 _)
 cases g
 rw[hr,Qzw,Qz8 Z8]at hs;exact hs
section
variable {P:Program}{n:Sz}{ops:Array Oper}{Q:Exit->Act->World->Prop}{L:Env}{w w0:World}{O:List BS}{rest:List Oper}{d:Nat}
 {ty:TypeId}{pos:String}{af:Array Edge}{α:Type}{r:Rp α}{x a b:Operand}{v:Value}{t e:TypeId}{H:PH}{k:IntKind}{lo:Int}{m:Nat}{zz:Value}{bt:Nat}{xs:QqK}
theorem Xb[Dr](i:Nat)(hx:ev L x=some v)[ha:ZZ (ev L a) (some (.int k lo))](ht:P.underlying t=some (.slice e))[hz:Qqq P e zz 1 bt](hL:AZ w0 O w)(hi:DW O i=some (.row v e 1 m xs))(hc:0<=lo/\lo<=(m:Int))[hn:ZZ (QqE d n.n) true]
  (h:∀v',VD v v' lo.toNat->S P n ops Q rest ((d,v')::L) w):S P n ops Q (⟨some d,.slice t x (some a) none none,ty,pos,af,none⟩::rest) L w:=by
 have hown:w.ownsRow 0 e 1 v m xs:=hL.at hi;obtain⟨inf,b,f,c,j⟩:=hz.e.parts;obtain⟨q,rfl⟩:=Qz1 hc.1;have hq:q<=m:=by omega
 have hqi:(q:Int)<=(m:Int):=hc.2
 have key:∃A cap,v=.slice A m cap/\m<=cap:=by
  rcases hown.2 with ⟨rfl,rfl⟩ | ⟨g,cp,cur,rfl,hbg,hg,hnc,hcm,hcs,htake⟩
  ·exact⟨none,0,Z,Qq0 _⟩
  ·exact⟨_,cp,Z,hnc⟩
 obtain⟨A,cap,rfl,hmc⟩:=key;refine Ah (fun w' _ ρ hρ dst pos af g=>?_) (hn:=⟨hn.e⟩) (h _ ⟨A,m,cap,Z,hq,hmc,Z⟩);simp[execOp,hρ x _ hx,hρ a _ ha.e,Instr.sliceAt,run_underlying ht,Instr.slice,Instr.sliceBounds,Instr.sliceBound,asIntOf,sizeOf,typeInfo,b,c,hqi,hq]
theorem Xc[Dr](i:Nat){j:Int}{l:List α}(hx:ev L x=some v)[hb:ZZ (ev L b) (some (.int k j))](ht:P.underlying t=some (.slice e))[hz:Qqq P e zz 1 bt][hr:ZZ r.sz 1](hH:Le H (hp w0))(hL:AZ w0 O w)(hi:DW O i=some (.row v e 1 l.length xs))(he:A6 r (gz H w0 w O) l xs)(hc:0<=j/\j<=(l.length:Int))[hn:ZZ (QqE d n.n) true]
  (h:∀v' xs',AZ w0 (DX O i (.row v' e 1 (l.take j.toNat).length xs')) w->Le (fz w O) (fz w (DX O i (.row v' e 1 (l.take j.toNat).length xs')))->A6 r (gz H w0 w (DX O i (.row v' e 1 (l.take j.toNat).length xs'))) (l.take j.toNat) xs'->S P n ops Q rest ((d,v')::L) w):S P n ops Q (⟨some d,.slice t x none (some b) none,ty,pos,af,none⟩::rest) L w:=by
 have hown:w.ownsRow 0 e 1 v l.length xs:=hL.at hi;obtain⟨inf,m,z,o,i4⟩:=hz.e.parts;obtain⟨q,rfl⟩:=Qz1 hc.1;have hq:q<=l.length:=by omega
 rw[Int.toNat_natCast]at h;have hlt:(l.take q).length=q:=by rw[Qz9];omega
 have hel:∀(l:List α) (xs:QqK) (G:PH),A6 r G l xs->A6 r G (l.take q) (xs.take q):=by
  intro l xs G he
  have hgen:∀(q:Nat),A6 r G (l.take q) (xs.take q):=by
   induction he with
   | nil=>intro q;simp;exact .nil
   | @cons y l c cs hy hl ih=>
    intro q;have a:c.length=1:=by rw[r.len hy,hr.e]
    obtain⟨u,rfl⟩:=List.length_eq_one_iff.1 a
    cases q with
    | zero=>simp;exact .nil
    | succ q=>exact .cons hy (ih q)
  exact hgen q
 have key:∃A cap,v=.slice A l.length cap/\l.length<=cap/\(∀b,(BS.row (.slice A q cap) e 1 q (xs.take q)).block=some b->(BS.row v e 1 l.length xs).block=some b)/\(BS.row (.slice A q cap) e 1 q (xs.take q)).ok w/\(A.map (·.add 0)=A):=by
  rcases hown.2 with ⟨rfl,p⟩ | ⟨g,cp,cur,rfl,hbg,hg,hnc,hcm,hcs,htake⟩
  ·have f:q=0:=by omega
   subst f;refine⟨none,0,by rw[p],by omega,fun b h=>h,⟨by simp,.inl ⟨Z,Z⟩⟩,Z⟩
  ·refine⟨_,cp,Z,hnc,fun b h=>h,⟨?_,.inr ⟨g,cp,cur,Z,hbg,hg,by omega,hcm,hcs,?_⟩⟩,Z⟩
   ·rw[Qz9,hown.1];omega
   ·rw[<- htake,List.take_take,Qzw,Qzw,Nat.min_eq_left hq]
 obtain⟨A,cap,rfl,hmc,hbl,hok,hA⟩:=key;have hqc:(q:Int)<=(cap:Int):=by omega
 have hqc':q<=cap:=by omega
 have s:=hL.Lb hi (Qq0 _) (World.grownBy.refl _ _) hok (fun b e=>.inl (hbl b e));have h2:=GA (r':=.row (.slice A q cap) e 1 q (xs.take q)) hL hi (World.grownBy.refl _ _) (fun b e=>.inl (hbl b e));have h':=h (.slice A q cap) (xs.take q);rw[hlt]at h';refine Ah (fun w' _ ρ hρ dst pos af g=>?_) (hn:=⟨hn.e⟩) (h' s h2 ((hel l xs _ he).mono (Ab h2)));simp[execOp,hρ x _ hx,hρ b _ hb.e,Instr.sliceAt,run_underlying ht,Instr.slice,Instr.sliceBounds,Instr.sliceBound,asIntOf,sizeOf,typeInfo,m,o,hqc,hqc',hA]
theorem Ut[Dr](i:Nat){v':Value}{q:Nat}{l:List α}{z:α}[hx:ZZ (ev L x) (some v')](hs:VD v v' q)(ht:P.underlying t=some (.slice e))[hz:Qqq P e zz 1 bt][hr:ZZ r.sz 1][hzc:ZZ zz.cells (#[zz])][s:ZZ zz.oneCell' true](hH:Le H (hp w0))(hL:AZ w0 O w)(hi:DW O i=some (.row v e 1 l.length xs))(he:A6 r (gz H w0 w O) l xs)(hrz:∀G,r.rel G z [zz])
  (h:∀w' xs',AZ w0 (DX O i (.row v e 1 (l.take q++Qq3 (l.length - q) z).length xs')) w'->Le (fz w O) (fz w' (DX O i (.row v e 1 (l.take q++Qq3 (l.length - q) z).length xs')))->A6 r (gz H w0 w' (DX O i (.row v e 1 (l.take q++Qq3 (l.length - q) z).length xs'))) (l.take q++Qq3 (l.length - q) z) xs'->S P n ops Q rest L w') :
  S P n ops Q (⟨none,.call ⟨.builtin .clear,#[x],#[t]⟩,ty,pos,af,none⟩::rest) L w:=by
 have hx:=hx.e
 have hown:w.ownsRow 0 e 1 v l.length xs:=hL.at hi;obtain⟨inf,i1,i2,i3,i4⟩:=hz.e.parts;have hxl:xs.length=l.length:=by rw[hown.1,Qzw]
 have aa:∀(G:PH) (l:List α) (xs:QqK),A6 r G l xs->∀q,A6 r G (l.take q++Qq3 (l.length - q) z) (xs.take q++Qq3 (l.length - q) zz):=by
  intro G l xs he
  have hrep:∀k,A6 r G (Qq3 k z) (Qq3 k zz):=by
   intro k
   induction k with
   | zero=>exact .nil
   | succ k ih=>exact .cons (hrz G) ih
  induction he with
  | nil=>intro q;simp;exact .nil
  | @cons y l c cs hy hl ih=>
   intro q;have ac:c.length=1:=by rw[r.len hy,hr.e]
   obtain⟨u,rfl⟩:=List.length_eq_one_iff.1 ac
   cases q with
   | zero=>simpa using hrep (l.length+1)
   | succ q=>
    have:=ih q;simp only[List.take_succ_cons,List.cons_append,List.length_cons,Nat.add_sub_add_right];exact .cons hy this
 have hel:∀G,A6 r G l xs->A6 r G (l.take q++Qq3 (l.length - q) z) (xs.take q++Qq3 (l.length - q) zz):=fun G he=>aa G l xs he q;have hle:(l.take q++Qq3 (l.length - q) z).length=l.length:=by simp;omega
 rw[hle]at h;obtain⟨a,m,cap,hv,hq,hmc,rfl⟩:=hs
 by_cases o:l.length - q=0
 ·have hm:m=l.length:=by
   rcases hown.2 with ⟨p,h0⟩ | ⟨g,cp,cur,d,_⟩
   ·rw[p]at hv;cases hv;exact h0.symm
   ·rw[d]at hv;cases hv;rfl
  subst hm;have e0:l.take q++Qq3 (l.length - q) z=l:=by rw[o,List.replicate_zero,QzQ,Qz8 U]
  rw[e0]at h
  have hrun:(Builtin.clear_ #[t] ty #[.slice (if cap=q then a else a.map (·.add q)) (l.length - q) (cap - q)]).run P w=.ok (.tuple #[]) w:=by
   rw[o];generalize (if cap=q then a else a.map (·.add q))=A'
   cases A' <;> simp[Builtin.clear_,run_underlying ht]
  refine QX (v:=.tuple #[]) (w':=w) (fun ρ hρ=>by simp[execOp,resolve,invoke,builtin,hρ x _ hx,hrun]) ?_;have t1:=hL.Lb hi (Qq0 _) (World.grownBy.refl _ _) (hL.at hi) (fun b e=>.inl e);have f:=GA (r':=.row v e 1 l.length xs) hL hi (World.grownBy.refl _ _) (fun b e=>.inl e);exact h w xs t1 f (he.mono (Ab f))
 ·rcases hown.2 with ⟨p,h0⟩ | ⟨g,cp,cur,d,hbg,hg,hnc,hcm,hcs,htake⟩
  ·omega
  ·rw[d]at hv
   cases hv
   have hcur:cur.size=cap:=by rw[hcs,Qzw]
   have hqc : ¬cap=q:=by omega
   rw[if_neg hqc]at hx
   have hcell:∀j,j<l.length - q->(w.cell? ⟨g,q+j,none⟩).isSome=true:=fun j hj=>by
    have:q+j<cur.size:=by omega
    simp[World.cell?,hg,this]
   have hfr:∀j,j<l.length - q->w.frozen? ⟨g,q+j,none⟩=false:=fun j hj=>by simp[World.frozen?,hg]
   have hzero:∀w,(zeroValue e).run P w=.ok zz w:=fun w=>by simp[zeroValue,typeInfo,i1,i2]
   have hst:=run_storeCells_at P g q e (Qq3 (l.length - q) zz) 0 cur w hg (by simp;omega) (by intro u hu;rw[List.eq_of_mem_replicate hu];exact s.e);simp only[Nat.add_zero,List.length_replicate]at hst;obtain⟨C,hC⟩:∃C,C=(cur.toList.take q++Qq3 (l.length - q) zz++cur.toList.drop (q+(l.length - q))).toArray:=⟨_,Z⟩;rw[<- hC]at hst
   have hrun:(Builtin.clear_ #[t] ty #[.slice (some ⟨g,q,none⟩) (l.length - q) (cap - q)]).run P w=.ok (.tuple #[]) (w.setRow g C):=by
    have h2:=Lib.run_clear_slice (P:=P) w t e ty zz ht hzero hzc.e s.e g q (l.length - q) (cap - q) U hcell hfr;have h3:=run_storeCells_cells (P:=P) g q (Qq3 (l.length - q) zz) 0 w (by simpa using hcell) (by simpa using hfr) (by intro u hu;rw[List.eq_of_mem_replicate hu];exact s.e);simp only[Nat.add_zero]at h3;rw[hst]at h3;rw[h2]
    injection h3 with _ h4
    rw[h4]
   have hgr:=K2 w g C;have hh:=Jo w g cur C e hg
   have hok:BS.ok (w.setRow g C) (.row v e 1 l.length (xs.take q++Qq3 (l.length - q) zz)):=by
    subst d;refine⟨by simp;omega,.inr ⟨g,cap,C,Z,hbg,hh,hnc,hcm,by rw[hC];simp;omega,?_⟩⟩;rw[hC,List.toList_toArray,<- htake,Qzw,List.take_take,Nat.min_eq_left hq,List.take_append];have ae:(cur.toList.take q++Qq3 (l.length - q) zz).length=l.length:=by simp;omega
    rw[Qz8 U,ae,Nat.sub_self,List.take_zero,QzQ]
   have hgr':w.grownBy (w.setRow g C) (BS.row v e 1 l.length xs).block:=by subst d;exact hgr
   have hdr:w.drawn<=(w.setRow g C).drawn:=Qq0 _;have t1:=hL.Lb hi hdr hgr' hok (fun b e=>.inl e);have f:=GA (r':=.row v e 1 l.length (xs.take q++Qq3 (l.length - q) zz)) hL hi hgr' (fun b e=>.inl e);have hx':ev L x=some (.slice (some ⟨g,q,none⟩) (l.length - q) (cap - q)):=by rw[hx];simp[Addr.add];exact fun e=>e.symm
   refine QX (v:=.tuple #[]) (w':=w.setRow g C) (fun ρ hρ=>by simp[execOp,resolve,invoke,builtin,hρ x _ hx',hrun])<|h _ _ t1 f ((hel _ he).mono (Ab f))
end
instance YH:Dr:=⟨false⟩
theorem Ext.off{w w':World}(h:Below w.heap.size w w'):Ext w w':=⟨h,fun o=>absurd o Z7⟩
structure Cb (P:Program) (a:World) (H:PH) (f:FuncId) (cap:QqK) {σ:Type} (J:σ->List BS->PH->Prop) (step:σ->QqZ×Int×Int×QqZ->Option σ):Prop where
 mono:∀{s:σ}{R:List BS}{G G':PH},Le G G'->J s R G->J s R G'
 ok:∀{w:World}{O R:List BS}{s s':σ}{x:QqZ×Int×Int×QqZ},AZ a (Qq6 O R) w->J s R (gz H a w (Qq6 O R))->step s x=some s'->
  Ok P f (XU x::cap) w (fun v w'=>v=.tuple #[]/\∃R':List BS,AZ a (Qq6 O R') w'/\Le (fz w (Qq6 O R)) (fz w' (Qq6 O R'))/\J s' R' (gz H a w' (Qq6 O R')))
section
variable {P:Program}{n:Sz}{ops:Array Oper}{Q:Exit->Act->World->Prop}{L:Env}{w w0:World}{O:List BS}{rest:List Oper}{d:Nat}{ty t t':TypeId}{pos:String}{af:Array Edge}{x y:Operand}{v:Value}{e:TypeId}{pv:Value}
theorem Tz(i off:Nat){b:Nat}{cs vs ns:QqK}{a:TypeId}{zz:Value}{bt:Nat}(hx:ev L x=some (.pointer (some ⟨b,off,none⟩)))[hy:ZZ (ev L y) (some v)][hc:ZZ v.cells.toList vs][hz:Qqq P t zz vs.length bt](hL:AZ w0 O w)(hi:DW O i=some (.box b cs a))(hlen:Nat.ble (off+vs.length) cs.length=true)(hns:cs.take off++vs++cs.drop (off+vs.length)=ns)(c:∀u∈vs,u.oneCell'=true)
  (h:∀w',AZ w0 (DX O i (.box b ns a)) w'->Le (fz w O) (fz w' (DX O i (.box b ns a)))->S P n ops Q rest L w'):S P n ops Q (⟨none,.store t x y,ty,pos,af,none⟩::rest) L w:=by
 have hc:=hc.e
 subst hc;have hlen':=Nat.le_of_ble_eq_true hlen;obtain⟨inf,d,g,f,j⟩:=hz.e.parts;have hb:w.heap[b]? = some (.cells cs.toArray a (0,0)):=hL.at hi;have hst:=run_storeCells_at P b off a v.cells.toList 0 cs.toArray w hb (by simp at hlen' ⊢;omega) c;simp only[Nat.add_zero,List.toList_toArray]at hst;rw[hns]at hst;have hsz:v.cells.size=inf.size:=by rw[f];simp
 refine N7 (w.setRow b ns.toArray) (fun ρ hρ=>by
  simp[execOp,hρ x _ hx,hρ y _ hy.e,Instr.storeAt,Instr.sureAddr,storeVar,sizeOf,typeInfo,d,hsz,hst]) ?_
 have hg:=K2 w b ns.toArray
 have hnl:ns.length=cs.length:=by
  rw[<- hns];simp only[Qq1,Qz9,List.length_drop];omega
 have hok:BS.ok (w.setRow b ns.toArray) (.box b ns a):=by
  show(w.setRow b ns.toArray).heap[b]? = _
  exact Jo w b cs.toArray ns.toArray a hb
 exact h _ (hL.Lb hi (Qq0 _) hg hok (fun b' e=>.inl e)) (GA hL hi hg (fun b' e=>.inl e))
theorem JL{b m e:Nat}{a:Int}{k:IntKind}{zz:Value}{bt len:Nat}(hx:ev L x=some (.pointer (some ⟨b,0,none⟩)))[hy:ZZ (ev L y) (some (.int k a))][ht:ZZ (P.underlying t) (some (.array len e))][he:Qqq P e zz 1 bt][hl:ZZ (QqE 1 len) true](hm:0<=a/\a<(len:Int))(hmm:a.toNat=m):B2 P L w (.indexAddr t x y) ty (.pointer (some ⟨b,m,none⟩)):=by
 have hl:=hl.e
 intro w' _ ρ hρ dst pos af g;obtain⟨inf,c,f,d,i⟩:=he.e.parts;have hl' : ¬len<=1:=by simp only[Nat.blt_eq]at hl;omega
 have i3':inf.size=1:=by rw[d]
 simp[execOp,hρ x _ hx,hρ y _ hy.e,Instr.indexAt,asIntOf,run_underlying ht.e,Instr.sureAddr,sizeOf,typeInfo,c,i3',hm,hmm,Addr.add];intro h;exact h.symm
theorem T0{p:Prop}(b:Bool)(a:b=true->p)(h2:b=false->p):p:=by
 cases b
 ·exact h2 Z
 ·exact a Z
theorem Eg{id:Nat}{l:List Oper}{m:Nat}(hq:Gs Q)(Inv:World->World->Prop)(hm:P.follows .mixedOrders=true)(hl:l.length=m)(h:Gs Q->∀w',Ext w w'->Nw (Inv w') P n l Q m (Jp m []) L w'):W P n (.region id l.toArray true) Q L w:=Um Inv hm hl (h hq)
theorem Gt{Inv:World->Prop}{l:List Oper}{fuel:Nat}{listed:Array Bool}(hI:Inv w)(h:Inv w->Nw Inv P n l Q fuel listed L w):Nw Inv P n l Q fuel listed L w:=h hI
theorem As{Inv:World->Prop}{l:List Oper}{fuel i m:Nat}{done:List Nat}(hI:Inv w)(h:Inv w->Nw Inv P n l Q fuel (Jp m done) L w):S P n l.toArray (Ul Inv P l Q fuel i (Jp m done)) [] L w:=WX hI (h hI)
def Ps(K L:Env):Bool:=K.all fun x=>(gt L x.1).isNone
theorem Uu{L:Env}{s:Nat}{u:Value}(hu:gt L s=some u):∀K:Env,Ps K L=true->gt (K++L) s=some u
 | [],_=>hu
 | (a,z)::K,h=>by
  simp only[Ps,List.all_cons,Bool.and_eq_true]at h;have ih:=Uu hu K h.2
  have hne:Qzb a s=false:=by
   cases hb:Qzb a s with
   | false=>rfl
   | true=>
    have:=Nat.eq_of_beq_eq_true hb;rw[this,hu]at h;exact absurd h.1 Z8
  show(bif Qzb a s then some z else gt (K++L) s)=some u
  rw[hne];exact ih
theorem Fr.strip{a:Act}{L':Env}{v':Value}(k:Nat)(fr:Fr n a ((d,v')::L'))(hv:v=v')(hl:L'.drop k=L)(hk:Ps (L'.take k) L=true):Fr n a ((d,v)::L):=by
 subst hv;refine⟨fr.size,fr.defers,fun s u hs=>fr.get s u ?_⟩;have e:L'=L'.take k++L:=by rw[<- hl,Qxc]
 rw[e];have hs':(bif Qzb d s then some v else gt L s)=some u:=hs
 show(bif Qzb d s then some v else gt (L'.take k++L) s)=some u
 cases hb:Qzb d s with
 | true=>rw[hb]at hs';exact hs'
 | false=>rw[hb]at hs';exact Uu hs' _ hk
theorem BU{l:List Oper}(m d:Nat)(v:Value)(hb:S P n ops Q (l.drop m) ((d,v)::L) w->S P n ops Q l L w)(h:S P n ops Q (l.drop m) ((d,v)::L) w):S P n ops Q l L w:=hb h
theorem S.to{l:List Oper}{L':Env}{v':Value}(hm:S P n ops Q l ((d,v)::L) w)(k:Nat)(hv:v=v')(hl:L'.drop k=L)(hk:Ps (L'.take k) L=true):S P n ops Q l ((d,v')::L') w:=fun a fr=>hm a (fr.strip k hv hl hk)
def Y6:Nat->Tr->Tr
 | 0,t=>t
 | m+1,.q _ t=>Y6 m t
 | _+1,t=>t
theorem XV{l:List Oper}{t:Tr}(m d:Nat)(v:Value)(hb:D P n l Q (Y6 m t) ((d,v)::L) w->D P n l Q t L w)(h:D P n l Q (Y6 m t) ((d,v)::L) w):D P n l Q t L w:=hb h
theorem D.to{l:List Oper}{t:Tr}{L':Env}{v':Value}(hm:D P n l Q t ((d,v)::L) w)(k:Nat)(hv:v=v')(hl:L'.drop k=L)(hk:Ps (L'.take k) L=true):D P n l Q t ((d,v')::L') w:=fun a fr=>hm a (fr.strip k hv hl hk)
section
variable {b c e:Bool}
theorem FH(h:b=true):Value.bool (b&&c)=.bool c:=by rw[h];rfl
theorem FI(h:b=false):Value.bool (b&&c)=.bool false:=by rw[h];rfl
theorem Gh(h:b=true):Value.bool (b||c)=.bool true:=by rw[h];rfl
theorem Gi(h:b=false):Value.bool (b||c)=.bool c:=by rw[h];rfl
end
end
end Go.E
end
noncomputable section
namespace Go.Proofs.YtfgomcdgmihmpaaGreatDoor
open Go Go.E Go.RowKit
theorem mixed:Tryz.prog.follows .mixedOrders=true:=by kernel_rfl
theorem ZZm{α:Sort _}{a b:α}(h:a=b):ZZ a b:=⟨h⟩
abbrev uQ3:=ZZm Tryz.underlying3
abbrev uQ4:=ZZm Tryz.underlying4
abbrev uQ5:=ZZm Tryz.underlying5
abbrev uQ9:=ZZm Tryz.underlying9
abbrev uQ20:=ZZm Tryz.underlying20
abbrev uQ21:=ZZm Tryz.underlying21
abbrev uQ22:=ZZm Tryz.underlying22
abbrev uQ23:=ZZm Tryz.underlying23
abbrev uQ25:=ZZm Tryz.underlying25
abbrev uQ27:=ZZm Tryz.underlying27
abbrev uQ31:=ZZm Tryz.underlying31
abbrev uQ32:=ZZm Tryz.underlying32
abbrev uQ34:=ZZm Tryz.underlying34
abbrev uQ38:=ZZm Tryz.underlying38
abbrev uQ43:=ZZm Tryz.underlying43
abbrev uQ49:=ZZm Tryz.underlying49
abbrev uQ53:=ZZm Tryz.underlying53
abbrev uQ59:=ZZm Tryz.underlying59
abbrev uQ62:=ZZm Tryz.underlying62
abbrev uQ71:=ZZm Tryz.underlying71
abbrev uQ72:=ZZm Tryz.underlying72
abbrev uQ74:=ZZm Tryz.underlying74
abbrev uQ79:=ZZm Tryz.underlying79
abbrev uQ81:=ZZm Tryz.underlying81
abbrev uQ90:=ZZm Tryz.underlying90
abbrev uQ113:=ZZm Tryz.underlying113
abbrev uQ117:=ZZm Tryz.underlying117
abbrev uQ121:=ZZm Tryz.underlying121
abbrev uQ123:=ZZm Tryz.underlying123
abbrev uQ124:=ZZm Tryz.underlying124
abbrev uQ141:=ZZm Tryz.underlying141
abbrev uQ146:=ZZm Tryz.underlying146
abbrev uQ154:=ZZm Tryz.underlying154
abbrev uQ155:=ZZm Tryz.underlying155
abbrev uQ163:=ZZm Tryz.underlying163
abbrev uQ164:=ZZm Tryz.underlying164
abbrev uQ186:=ZZm Tryz.underlying186
abbrev uQ247:=ZZm Tryz.underlying247
abbrev uQ249:=ZZm Tryz.underlying249
abbrev uQ251:=ZZm Tryz.underlying251
attribute [instance] uQ3 uQ4 uQ5 uQ9 uQ20 uQ21 uQ22 uQ23 uQ25 uQ27 uQ31 uQ32 uQ34 uQ38 uQ43 uQ49 uQ53 uQ59 uQ62 uQ71 uQ72 uQ74 uQ79 uQ81 uQ90 uQ113 uQ117 uQ121 uQ123 uQ124 uQ141 uQ146 uQ154 uQ155 uQ163 uQ164 uQ186 uQ247 uQ249 uQ251
instance B6:Qqq Tryz.prog 3 (.int .i64 0) 1 8:=⟨by unfold Zr;kernel_rfl⟩
instance Fa:Qqq Tryz.prog 4 (.bool false) 1 1:=⟨by unfold Zr;kernel_rfl⟩
instance Kr:Qqq Tryz.prog 5 (.int .u8 0) 1 1:=⟨by unfold Zr;kernel_rfl⟩
instance KN:Qqq Tryz.prog 9 (.string .empty) 1 16:=⟨by unfold Zr;kernel_rfl⟩
instance FJ:Qqq Tryz.prog 22 (.slice none 0 0) 1 24:=⟨by unfold Zr;kernel_rfl⟩
instance Hg:Qqq Tryz.prog 23 (.slice none 0 0) 1 24:=⟨by unfold Zr;kernel_rfl⟩
instance HQ:Qqq Tryz.prog 25 (.agg #[.slice none 0 0]) 1 24:=⟨by unfold Zr;kernel_rfl⟩
instance Bt:Qqq Tryz.prog 27 (.agg #[.int .i64 0,.int .i64 0]) 2 16:=⟨by unfold Zr;kernel_rfl⟩
instance C3:Qqq Tryz.prog 31 (.slice none 0 0) 1 24:=⟨by unfold Zr;kernel_rfl⟩
instance Hh:Qqq Tryz.prog 32 (.slice none 0 0) 1 24:=⟨by unfold Zr;kernel_rfl⟩
instance Bg:Qqq Tryz.prog 34 (.agg #[.int .i64 0,.int .i64 0,.slice none 0 0,.slice none 0 0,.slice none 0 0]) 5 88:=⟨by unfold Zr;kernel_rfl⟩
instance D0:Qqq Tryz.prog 38 (.slice none 0 0) 1 24:=⟨by unfold Zr;kernel_rfl⟩
instance Xd:Qqq Tryz.prog 43 (.slice none 0 0) 1 24:=⟨by unfold Zr;kernel_rfl⟩
instance Bp:Qqq Tryz.prog 53 (.agg #[.string .empty,.int .i64 0,.slice none 0 0,.int .i64 0,.bool false,.int .i64 0,.int .i64 0,.int .i64 0,.int .i64 0,.int .i64 0,.slice none 0 0,.slice none 0 0]) 12 152:=⟨by unfold Zr;kernel_rfl⟩
instance Nj:Qqq Tryz.prog 71 (.agg #[.int .i64 0,.int .i64 0,.int .i64 0]) 3 24:=⟨by unfold Zr;kernel_rfl⟩
instance VE:Qqq Tryz.prog 72 (.slice none 0 0) 1 24:=⟨by unfold Zr;kernel_rfl⟩
instance Nk:Qqq Tryz.prog 74 (.agg #[.int .i64 0,.int .i64 0,.int .i64 0,.slice none 0 0,.slice none 0 0]) 5 72:=⟨by unfold Zr;kernel_rfl⟩
instance SI:Qqq Tryz.prog 113 (.nilFunc) 1 8:=⟨by unfold Zr;kernel_rfl⟩
instance Ml:Qqq Tryz.prog 121 (.agg #[.int .u8 0,.slice none 0 0]) 2 32:=⟨by unfold Zr;kernel_rfl⟩
instance Ql:Qqq Tryz.prog 123 (.agg #[.int .u8 0,.slice none 0 0,.int .i64 0]) 3 40:=⟨by unfold Zr;kernel_rfl⟩
instance Gp:Qqq Tryz.prog 154 (.agg (QzD 256 (.bool false))) 256 256:=⟨by unfold Zr;kernel_rfl⟩
instance W5:Qqq Tryz.prog 186 (.slice none 0 0) 1 24:=⟨by unfold Zr;kernel_rfl⟩
theorem CK(w:World):(Instr.build 27 #[]).run Tryz.prog w=.ok (.agg #[.int .i64 0,.int .i64 0]) w:=by kernel_rfl
theorem Qm(a:Int)(b:Int)(w:World):(Instr.build 27 #[(0,.int .i64 a),(1,.int .i64 b)]).run Tryz.prog w=.ok (.agg #[.int .i64 a,.int .i64 b]) w:=by kernel_rfl
theorem Q9(w:World):(Instr.build 34 #[]).run Tryz.prog w=.ok (.agg #[.int .i64 0,.int .i64 0,.slice none 0 0,.slice none 0 0,.slice none 0 0]) w:=by kernel_rfl
theorem VF(a:Int)(w:World):(Instr.build 34 #[(0,.int .i64 a)]).run Tryz.prog w=.ok (.agg #[.int .i64 a,.int .i64 0,.slice none 0 0,.slice none 0 0,.slice none 0 0]) w:=by kernel_rfl
theorem Qn(a:Int)(b:Int)(w:World):(Instr.build 34 #[(0,.int .i64 a),(1,.int .i64 b)]).run Tryz.prog w=.ok (.agg #[.int .i64 a,.int .i64 b,.slice none 0 0,.slice none 0 0,.slice none 0 0]) w:=by kernel_rfl
theorem Lh(c:Int)(d:Int)(a:Value)(h2:a.oneCell'=true)(b:Value)(h3:b.oneCell'=true)(w:World):(Instr.build 34 #[(0,.int .i64 c),(1,.int .i64 d),(2,a),(3,b)]).run Tryz.prog w=.ok (.agg #[.int .i64 c,.int .i64 d,a,b,.slice none 0 0]) w:=by cases a <;> first | (simp[Value.oneCell']at h2;done) | cases b <;> first | (simp[Value.oneCell']at h3;done) | kernel_rfl
theorem Qo(b:Int)(a:Value)(h2:a.oneCell'=true)(w:World):(Instr.build 34 #[(0,.int .i64 b),(2,a)]).run Tryz.prog w=.ok (.agg #[.int .i64 b,.int .i64 0,a,.slice none 0 0,.slice none 0 0]) w:=by cases a <;> first | (simp[Value.oneCell']at h2;done) | kernel_rfl
theorem Ci(c:Int)(a:Value)(h3:a.oneCell'=true)(b:Value)(d:b.oneCell'=true)(w:World):(Instr.build 34 #[(0,.int .i64 c),(3,a),(4,b)]).run Tryz.prog w=.ok (.agg #[.int .i64 c,.int .i64 0,.slice none 0 0,a,b]) w:=by cases a <;> first | (simp[Value.oneCell']at h3;done) | cases b <;> first | (simp[Value.oneCell']at d;done) | kernel_rfl
theorem T1(b:Int)(a:Value)(c:a.oneCell'=true)(w:World):(Instr.build 34 #[(0,.int .i64 b),(4,a)]).run Tryz.prog w=.ok (.agg #[.int .i64 b,.int .i64 0,.slice none 0 0,.slice none 0 0,a]) w:=by cases a <;> first | (simp[Value.oneCell']at c;done) | kernel_rfl
theorem VG(a:Value)(b:a.oneCell'=true)(w:World):(Instr.build 53 #[(0,a)]).run Tryz.prog w=.ok (.agg #[a,.int .i64 0,.slice none 0 0,.int .i64 0,.bool false,.int .i64 0,.int .i64 0,.int .i64 0,.int .i64 0,.int .i64 0,.slice none 0 0,.slice none 0 0]) w:=by cases a <;> first | (simp[Value.oneCell']at b;done) | kernel_rfl
theorem R0(a:Value)(b:Value)(d:b.oneCell'=true)(c:Value)(h2:c.oneCell'=true)(w:World):(Instr.build 62 #[(0,.agg #[a]),(1,b),(2,c)]).run Tryz.prog w=.ok (.agg #[a,b,c,.int .i64 0]) w:=by cases b <;> first | (simp[Value.oneCell']at d;done) | cases c <;> first | (simp[Value.oneCell']at h2;done) | kernel_rfl
theorem R1(a:Int)(b:Int)(c:Int)(w:World):(Instr.build 71 #[(0,.int .i64 a),(1,.int .i64 b),(2,.int .i64 c)]).run Tryz.prog w=.ok (.agg #[.int .i64 a,.int .i64 b,.int .i64 c]) w:=by kernel_rfl
theorem OM(w:World):(Instr.build 74 #[]).run Tryz.prog w=.ok (.agg #[.int .i64 0,.int .i64 0,.int .i64 0,.slice none 0 0,.slice none 0 0]) w:=by kernel_rfl
theorem VH(a:Value)(w:World):(Instr.build 81 #[(0,.agg #[a])]).run Tryz.prog w=.ok (.agg #[a,.slice none 0 0,.int .i64 0]) w:=by kernel_rfl
theorem VI(a:Value)(b:a.oneCell'=true)(w:World):(Instr.build 90 #[(0,a)]).run Tryz.prog w=.ok (.agg #[a,.bool false,.slice none 0 0]) w:=by cases a <;> first | (simp[Value.oneCell']at b;done) | kernel_rfl
theorem Se(b:Int)(a:Value)(c:a.oneCell'=true)(w:World):(Instr.build 121 #[(0,.int .u8 b),(1,a)]).run Tryz.prog w=.ok (.agg #[.int .u8 b,a]) w:=by cases a <;> first | (simp[Value.oneCell']at c;done) | kernel_rfl
theorem Sf(a b:Value)(c:Int)(w:World):(Instr.build 123 #[(0,.agg #[a,b]),(1,.int .i64 c)]).run Tryz.prog w=.ok (.agg #[a,b,.int .i64 c]) w:=by kernel_rfl
theorem VJ(w:World):(Instr.buildSlice 22 0 #[]).run Tryz.prog w=.ok (.slice (some ⟨w.heap.size,0,none⟩) 0 0) (w.alloc (.cells #[] 5)):=by kernel_rfl
theorem KT(a:Int)(w:World):(Instr.buildSlice 22 1 #[(0,.int .u8 a)]).run Tryz.prog w=.ok (.slice (some ⟨w.heap.size,0,none⟩) 1 1) (w.alloc (.cells #[.int .u8 a] 5)):=by kernel_rfl
theorem VK(a:Int)(b:Int)(w:World):(Instr.buildSlice 22 2 #[(0,.int .u8 a),(1,.int .u8 b)]).run Tryz.prog w=.ok (.slice (some ⟨w.heap.size,0,none⟩) 2 2) (w.alloc (.cells #[.int .u8 a,.int .u8 b] 5)):=by kernel_rfl
theorem VL(a:Int)(b:Int)(c:Int)(d:Int)(w:World):(Instr.buildSlice 22 4 #[(0,.int .u8 a),(1,.int .u8 b),(2,.int .u8 c),(3,.int .u8 d)]).run Tryz.prog w=.ok (.slice (some ⟨w.heap.size,0,none⟩) 4 4) (w.alloc (.cells #[.int .u8 a,.int .u8 b,.int .u8 c,.int .u8 d] 5)):=by kernel_rfl
theorem Uv(g:Int)(h:Int)(i:Int)(j:Int)(k:Int)(l:Int)(m:Int)(n:Int)(o:Int)(p:Int)(a:Int)(b:Int)(c:Int)(d:Int)(e:Int)(f:Int)(w:World):(Instr.buildSlice 22 16 #[(0,.int .u8 g),(1,.int .u8 h),(2,.int .u8 i),(3,.int .u8 j),(4,.int .u8 k),(5,.int .u8 l),(6,.int .u8 m),(7,.int .u8 n),(8,.int .u8 o),(9,.int .u8 p),(10,.int .u8 a),(11,.int .u8 b),(12,.int .u8 c),(13,.int .u8 d),(14,.int .u8 e),(15,.int .u8 f)]).run Tryz.prog w=.ok (.slice (some ⟨w.heap.size,0,none⟩) 16 16) (w.alloc (.cells #[.int .u8 g,.int .u8 h,.int .u8 i,.int .u8 j,.int .u8 k,.int .u8 l,.int .u8 m,.int .u8 n,.int .u8 o,.int .u8 p,.int .u8 a,.int .u8 b,.int .u8 c,.int .u8 d,.int .u8 e,.int .u8 f] 5)):=by kernel_rfl
theorem VM(c d e f g h i j k l a b:Value)(w:World):(Instr.buildSlice 23 1 #[(0,.agg #[c,d,e,f,g,h,i,j,k,l,a,b])]).run Tryz.prog w=.ok (.slice (some ⟨w.heap.size,0,none⟩) 1 1) (w.alloc (.cells #[c,d,e,f,g,h,i,j,k,l,a,b] 53)):=by kernel_rfl
theorem VN(w:World):(Instr.buildSlice 31 0 #[]).run Tryz.prog w=.ok (.slice (some ⟨w.heap.size,0,none⟩) 0 0) (w.alloc (.cells #[] 9)):=by kernel_rfl
theorem LD(a:Value)(b:a.oneCell'=true)(w:World):(Instr.buildSlice 31 1 #[(0,a)]).run Tryz.prog w=.ok (.slice (some ⟨w.heap.size,0,none⟩) 1 1) (w.alloc (.cells #[a] 9)):=by cases a <;> first | (simp[Value.oneCell']at b;done) | kernel_rfl
theorem QA(a:Value)(c:a.oneCell'=true)(b:Value)(d:b.oneCell'=true)(w:World):(Instr.buildSlice 31 2 #[(0,a),(1,b)]).run Tryz.prog w=.ok (.slice (some ⟨w.heap.size,0,none⟩) 2 2) (w.alloc (.cells #[a,b] 9)):=
 (Pr (qs:=#[(0,.agg #[a]),(1,.agg #[b])]) (by show([(0,a.cells),(1,b.cells)]:List (Nat×Array Value))=[(0,(Value.agg #[a]).cells),(1,(Value.agg #[b]).cells)];rw[II c,II d])).trans V
theorem GJ(a:Value)(d:a.oneCell'=true)(b:Value)(e:b.oneCell'=true)(c:Value)(h2:c.oneCell'=true)(w:World):(Instr.buildSlice 31 3 #[(0,a),(1,b),(2,c)]).run Tryz.prog w=.ok (.slice (some ⟨w.heap.size,0,none⟩) 3 3) (w.alloc (.cells #[a,b,c] 9)):=
 (Pr (qs:=#[(0,.agg #[a]),(1,.agg #[b]),(2,.agg #[c])]) (by show([(0,a.cells),(1,b.cells),(2,c.cells)]:List (Nat×Array Value))=[(0,(Value.agg #[a]).cells),(1,(Value.agg #[b]).cells),(2,(Value.agg #[c]).cells)];rw[II d,II e,II h2])).trans V
theorem LF(a b c d e:Value)(w:World):(Instr.buildSlice 32 1 #[(0,.agg #[a,b,c,d,e])]).run Tryz.prog w=.ok (.slice (some ⟨w.heap.size,0,none⟩) 1 1) (w.alloc (.cells #[a,b,c,d,e] 34)):=by kernel_rfl
theorem VO(a b c d e:Value)(f g h i j:Value)(w:World):(Instr.buildSlice 32 2 #[(0,.agg #[a,b,c,d,e]),(1,.agg #[f,g,h,i,j])]).run Tryz.prog w=.ok (.slice (some ⟨w.heap.size,0,none⟩) 2 2) (w.alloc (.cells #[a,b,c,d,e,f,g,h,i,j] 34)):=by kernel_rfl
theorem ES(a b c d e:Value)(f g h i j:Value)(k l m n o:Value)(w:World):(Instr.buildSlice 32 3 #[(0,.agg #[a,b,c,d,e]),(1,.agg #[f,g,h,i,j]),(2,.agg #[k,l,m,n,o])]).run Tryz.prog w=.ok (.slice (some ⟨w.heap.size,0,none⟩) 3 3) (w.alloc (.cells #[a,b,c,d,e,f,g,h,i,j,k,l,m,n,o] 34)):=by kernel_rfl
theorem VP(w:World):(Instr.buildSlice 38 0 #[]).run Tryz.prog w=.ok (.slice (some ⟨w.heap.size,0,none⟩) 0 0) (w.alloc (.cells #[] 3)):=by kernel_rfl
theorem Hw(a:Int)(w:World):(Instr.buildSlice 38 1 #[(0,.int .i64 a)]).run Tryz.prog w=.ok (.slice (some ⟨w.heap.size,0,none⟩) 1 1) (w.alloc (.cells #[.int .i64 a] 3)):=by kernel_rfl
theorem ND(a:Int)(b:Int)(w:World):(Instr.buildSlice 38 2 #[(0,.int .i64 a),(1,.int .i64 b)]).run Tryz.prog w=.ok (.slice (some ⟨w.heap.size,0,none⟩) 2 2) (w.alloc (.cells #[.int .i64 a,.int .i64 b] 3)):=by kernel_rfl
theorem SJ(a:Int)(b:Int)(c:Int)(w:World):(Instr.buildSlice 38 3 #[(0,.int .i64 a),(1,.int .i64 b),(2,.int .i64 c)]).run Tryz.prog w=.ok (.slice (some ⟨w.heap.size,0,none⟩) 3 3) (w.alloc (.cells #[.int .i64 a,.int .i64 b,.int .i64 c] 3)):=by kernel_rfl
theorem SK(a:Int)(b:Int)(c:Int)(d:Int)(w:World):(Instr.buildSlice 38 4 #[(0,.int .i64 a),(1,.int .i64 b),(2,.int .i64 c),(3,.int .i64 d)]).run Tryz.prog w=.ok (.slice (some ⟨w.heap.size,0,none⟩) 4 4) (w.alloc (.cells #[.int .i64 a,.int .i64 b,.int .i64 c,.int .i64 d] 3)):=by kernel_rfl
theorem SN(a:Value)(b:a.oneCell'=true)(w:World):(Instr.buildSlice 43 1 #[(0,a)]).run Tryz.prog w=.ok (.slice (some ⟨w.heap.size,0,none⟩) 1 1) (w.alloc (.cells #[a] 38)):=by cases a <;> first | (simp[Value.oneCell']at b;done) | kernel_rfl
theorem VQ(a:Value)(b:a.oneCell'=true)(w:World):(Instr.buildSlice 49 1 #[(0,a)]).run Tryz.prog w=.ok (.slice (some ⟨w.heap.size,0,none⟩) 1 1) (w.alloc (.cells #[a] 31)):=by cases a <;> first | (simp[Value.oneCell']at b;done) | kernel_rfl
theorem VR(a b c:Value)(w:World):(Instr.buildSlice 72 1 #[(0,.agg #[a,b,c])]).run Tryz.prog w=.ok (.slice (some ⟨w.heap.size,0,none⟩) 1 1) (w.alloc (.cells #[a,b,c] 123)):=by kernel_rfl
theorem Uw(a b:Value)(w:World):(Instr.buildSlice 117 1 #[(0,.agg #[a,b])]).run Tryz.prog w=.ok (.slice (some ⟨w.heap.size,0,none⟩) 1 1) (w.alloc (.cells #[a,b] 121)):=by kernel_rfl
theorem Ux(a:Int)(b:Int)(w:World):(Instr.buildSlice 124 2 #[(0,.int .i32 a),(1,.int .i32 b)]).run Tryz.prog w=.ok (.slice (some ⟨w.heap.size,0,none⟩) 2 2) (w.alloc (.cells #[.int .i32 a,.int .i32 b] 21)):=by kernel_rfl
theorem Pt(a:Value)(d:a.oneCell'=true)(b:Value)(e:b.oneCell'=true)(c:Value)(h2:c.oneCell'=true)(w:World):(Instr.buildSlice 164 3 #[(0,a),(1,b),(2,c)]).run Tryz.prog w=.ok (.slice (some ⟨w.heap.size,0,none⟩) 3 3) (w.alloc (.cells #[a,b,c] 22)):=
 (Pr (qs:=#[(0,.agg #[a]),(1,.agg #[b]),(2,.agg #[c])]) (by show([(0,a.cells),(1,b.cells),(2,c.cells)]:List (Nat×Array Value))=[(0,(Value.agg #[a]).cells),(1,(Value.agg #[b]).cells),(2,(Value.agg #[c]).cells)];rw[II d,II e,II h2])).trans V
theorem K7:Tryz.prog.eqGuardType Tryz.prog.depth 27=false:=by kernel_rfl
theorem Nl(a b c e:Int)(w:World):(Op.equalIn 10000 27 (.agg #[.int .i64 a,.int .i64 b]) (.agg #[.int .i64 c,.int .i64 e])).run Tryz.prog w=.ok (decide (a=c/\b=e)) w:=
 WS (by kernel_rfl) (by kernel_rfl) (by kernel_rfl : (Tryz.prog.fieldsOf 27).toList = [{ name := "Code", type := 3, offset := 0, embedded := false, tag := "", pkgPath := "", byteOffset := 0 }, { name := "Index", type := 3, offset := 1, embedded := false, tag := "", pkgPath := "", byteOffset := 8 }]) ⟨by decide, rfl⟩ ⟨by decide, rfl⟩ Tryz.underlying3 Tryz.underlying3 a b c e w
end Go.Proofs.YtfgomcdgmihmpaaGreatDoor
end
noncomputable section
namespace Go.Proofs.YtfgomcdgmihmpaaGreatDoor
open Go Go.E Go.RowKit Go.Shelf
def I3(H:PH):Prop:=
 (∀w, Le H (hp w) -> Lib.TabIs Tryz.prog w "internal/strconv.uint64pow10" .u64 Lib.pow10Tab) /\
 (∃t p,GZ H ⟨Tryz.LZ.g 15,0,none⟩=some (.iface t p))/\(∃t p,GZ H ⟨Tryz.LZ.g 16,0,none⟩=some (.iface t p))/\
 (∀w, Le H (hp w) -> Lib.TabIs Tryz.prog w "strings.asciiSpace" .u8 Lib.asciiSpaceTab)
theorem I3.mono{H H':PH}(h:I3 H)(hs:Le H H'):I3 H':=by
 obtain⟨a,⟨t,p,h3⟩,⟨t',p',b⟩,c⟩:=h;exact⟨fun w hw=>a w (hs.trans hw),⟨t,p,Jn hs h3⟩,⟨t',p',Jn hs b⟩,fun w hw=>c w (hs.trans hw)⟩
end Go.Proofs.YtfgomcdgmihmpaaGreatDoor
end
noncomputable section
namespace Go.L
def Mm(l:QqX):QqZ:=(Go.runesBytes l).data.toList
end Go.L
namespace Go.E
open Go Go.RowKit
section
variable {P:Program}{n:Sz}{ops:Array Oper}{Q:Exit->Act->World->Prop}{L:Env}{w:World}{rest:List Oper}{d:Nat}{dst:Option Tmp}{ty:TypeId}{pos:String}{af:Array Edge}{pv:Value}
theorem Pu{g:FuncId}{fn:Func}{cap:QqK}{u u':FrameMode}{rv:Value}{k id a:Nat}{ty1:TypeId}{pos1:String}{af1:Array Edge}{at_:Array TypeId}{y:Code}{R:World->Prop}(L:Env)
  (hf : P.funcs[g]? = some fn) (hname : (fn.name == "runtime.NumGoroutine") = false)
  (hb:fn.body=some (.seq (.region id #[⟨some a,.call ⟨.builtin .recover,#[],at_⟩,ty1,pos1,af1,none⟩] false) y)) (hk:fn.ntmps=k) (hkl:Nat.ble cap.length k=true) (hL:L2 0 cap=L)
  (j:QqE a k=true) (hrec:Ue pv u u' rv)
  (h:W P ⟨k,[]⟩ y (Ma P fn (fun _ w'=>R w')) ((a,rv)::L) w):XS P g cap u u' w R:=by
 refine⟨⟨fn,_,hf,hname,hb⟩,callsD_of_wpS hf hb fun b cs hu=>?_⟩;have fr0:=Q7 (k:=k) hkl hL;rw[<- hk]at fr0;refine wpS_seq (wpS_region ?_)
 have m:∀ρ:Operand->Value,(execOp ρ ⟨some a,.call ⟨.builtin .recover,#[],at_⟩,ty1,pos1,af1,none⟩).run P w=.ok .recover w:=fun ρ=>by
  simp[execOp,resolve,invoke,builtin]
 have fr1:Fr ⟨k,[]⟩ ((⟨cap.toArray++QzD (fn.ntmps - cap.toArray.size) undef,[]⟩:Act).put (some a) rv) ((a,rv)::L):=by rw[hk]at fr0 ⊢;exact fr0.put j
 have hw:=h _ fr1
 have hlast:∀c0':Frame,c0'.mode=u'->({b with mode:=u'}:Frame)=c0'->y.wpS P (bodyPostS P fn b cs fun e n w'=>(∃v,e=.returned v)/\n=u'/\R w')
   ((⟨cap.toArray++QzD (fn.ntmps - cap.toArray.size) undef,[]⟩:Act).put (some a) rv) (c0'::cs) w:=by
  intro c0' _ he;refine wpS_of_wp (wp_mono hw fun e a' w' q=>?_)
  cases e with
  | normal=>obtain⟨d,v,f,u,o,i⟩:=q;exact⟨d,u',by rw[he],v,f,⟨v,Z⟩,Z,i⟩
  | ret=>obtain⟨d,v,f,u,o,i⟩:=q;exact⟨d,u',by rw[he],v,f,⟨v,Z⟩,Z,i⟩
  | panic c=>obtain⟨_,v,q,_⟩:=q;cases q
  | exit id=>exact q.elim
  | goto l=>exact q.elim
  | outgrown=>obtain⟨v,q,_⟩:=q;cases q
 have hr:Qze (#[⟨some a,.call ⟨.builtin .recover,#[],at_⟩,ty1,pos1,af1,none⟩]:Array Oper).size=[0]:=Z;rw[hr];simp only[wpOpsS,List.getElem?_toArray,List.getElem?_cons_zero,Region.wanted,if_true,m]
 cases hrec with
 | no=>
  have:recoverD (b::cs)=none:=by simp[recoverD,hu]
  simp only[this,Oper.upon];exact hlast b hu (by rw[<- hu])
 | yes=>
  have:recoverD (b::cs)=some (pv,{b with mode:=.panicking (WU pv)}::cs):=by simp[recoverD,hu]
  simp only[this,Oper.upon];exact hlast {b with mode:=.panicking (WU pv)} Z Z
theorem Uy{t t':TypeId}{x:Operand}{w:World}{ms:Array (String×TypeId)}[hx:ZZ (ev L x) (some .nilIface)][ht:ZZ (P.underlying t) (some (.interface ms))]:B2 P L w (.binOp .eql t x (.const .nilIface) t') ty (.bool true):=fun w' _ ρ hρ _ _ _ _=>by
 have hy:ρ (.const .nilIface)=.nilIface:=hρ _ _ Z;simp[execOp,hρ x _ hx.e,hy,eqGuard,binOp,Ud ht.e .nilIface (.inl Z)]
end
section
variable [Dr] {α:Type}{r:Rp α}{H H':PH}{v:Value}{o:Option α}{x:α}{p:Addr}{c:QqK}
def PS(r:Rp α)(H:PH)(v:Value):Option α->Prop
 | none=>v=.pointer none
 | some x=>∃p c,v=.pointer (some p)/\r.rel H x c/\EG H p c
omit [Dr] in
theorem PS.nil(r:Rp α)(H:PH):PS r H (.pointer none) none:=Z
omit [Dr] in
theorem PS.mk(h:r.rel H x c)(hp:EG H p c):PS r H (.pointer (some p)) (some x):=⟨p,c,Z,h,hp⟩
omit [Dr] in
theorem PS.mono(h:PS r H v o)(hs:Le H H'):PS r H' v o:=by
 cases o with
 | none=>exact h
 | some x=>obtain⟨p,c,a,h2,h3⟩:=h;exact⟨p,c,a,r.mono hs h2,h3.mono hs⟩
omit [Dr] in
theorem PS.get[Inhabited α](h:PS r H v o)(k:o.isSome=true):∃p c,v=.pointer (some p)/\r.rel H (o.getD Qqf) c/\EG H p c:=by
 cases o with
 | none=>cases k
 | some x=>exact h
omit [Dr] in
theorem T2{H:PH}{b:Nat}{cs:QqK}{t:TypeId}(h:H b=some (.cells cs.toArray t (0,0))):EG H ⟨b,0,none⟩ cs:=
 ⟨Z,fun j u hu=>by
  simp only[Addr.add_lit,Qq8,GZ,h]
  simpa using hu⟩
theorem ON{w a:World}{O:List BS}(ib:Nat){b:Nat}{cs:QqK}{t:TypeId}(hL:AZ a O w)(hib:DW O ib=some (.box b cs t)):
  AZ a (Ln O ib) w/\Le (fz w O) (fz w (Ln O ib))/\EG (gz H a w (Ln O ib)) ⟨b,0,none⟩ cs:=by
 have hb:w.heap[b]? = some (.cells cs.toArray t (0,0)):=hL.at hib;refine⟨hL.AM hib,Ae (w:=w) hib,T2 (t:=t) ?_⟩;have hge:=hL.own _ ((EH hib).mem_iff.2 (.head _)) b Z;have c:fz w (Ln O ib) b=w.heap[b]?:=Pa hib Z hL.Vy;refine NB b _ ?_;unfold nf;rw[if_pos hge,c];exact hb
end
theorem Xe{P:Program}{L:Env}{w:World}{ty t t' e:TypeId}{x:Operand}{v:Value}{H:PH}{l:QqX}[hx:ZZ (ev L x) (some v)][ht:ZZ (P.underlying t) (some (.slice e))][he:ZZ (P.underlying e) (some (.int .i32))][ht':ZZ (P.underlying t') (some .string)](k:0<l.length)(hv:AD (.int .i32) H v l)(hs:Le H (hp w)):
  B2 P L w (.convert t t' x) ty (.string ⟨(Go.L.Mm l).toArray⟩):=by
 intro w' hw ρ hρ dst pos af g;obtain⟨news,b,c⟩:=hv.elems;obtain rfl:news=l.map (Value.int .i32):=Rm (fun _ _ _ h=>h) b;obtain⟨m,a,cap,rfl,h3,n,d,f⟩:=c
 cases a with
 | none=>have:=d Z;omega
 | some A=>
  have hload:(loadCells A l.length).run P w'=.ok (l.map (Value.int .i32)).toArray w':=by
   have:=run_loadCellsFrom (P:=P) (p:=A) w' l.length 0 (l.map (Value.int .i32)) #[] Z8 (fun j u hu=>by rw[Qq8];exact cell_of (hs.ext hw) ((f A Z U).2 j u hu));unfold loadCells;rw[this];simp
  have hb:=run_runesToString w' A l.length cap _ hload;have i:(⟨(Go.L.Mm l).toArray⟩:ByteArray)=runesBytes l:=by unfold Go.L.Mm;rw[Array.toArray_toList]
  rw[i];simp[execOp,hρ x _ hx.e,run_convert_runes_string w' t t' e (some A) _ cap ht.e he.e ht'.e,hb]
end Go.E
end
noncomputable section
namespace Go.E
open Go Go.RowKit
section
variable [Dr] {P:Program}{κ β:Type} [DecidableEq κ] {kt t et:TypeId}{enc:κ->Value}{k:κ}{ev':β->Value}{l:List (κ×β)}
omit [Dr] in
def Uz(enc:κ->Value)(ev':β->Value)(H:PH)(v:Value)(l:List (κ×β)):Prop:=
 ∃b,v=.map (some b)/\H b=some (.map (mE enc 0 (l.map Prod.fst) (l.map fun x=>ev' x.2)).toArray l.length)
omit [Dr] [DecidableEq κ] in
theorem Uz.mono{H H':PH}{v:Value}(h:Uz enc ev' H v l)(hs:Le H H'):Uz enc ev' H' v l:=by
 obtain⟨b,a,h2⟩:=h;exact⟨b,a,hs _ _ h2⟩
omit [DecidableEq κ] in
end
theorem TL(n:Nat){l:QqK}(h:(l.take n).map Value.oneCell'=(l.take n).map fun _=>true)(k:∀u∈l.drop n,u.oneCell'=true):∀u∈l,u.oneCell'=true:=fun u hu=>by
 rw[<- Qxc n l]at hu
 rcases List.mem_append.1 hu with hu | hu
 ·exact B7 h u hu
 ·exact k u hu
section
variable {P:Program}{n:Sz}{ops:Array Oper}{Q:Exit->Act->World->Prop}{L:Env}{w w0:World}{O:List BS}{rest:List Oper}{d:Nat}{ty t kt et:TypeId}{pos:String}{af:Array Edge}{x:Operand}{κ:Type}{enc:κ->Value}{keys:List κ}{vs:QqK}{m N:Nat}
end
end Go.E
end
noncomputable section
namespace Go.L
inductive Qv where
 | mk (kind:Int) (words:QqA) (pattern data:QqZ) (low high:Int) (subs:List Qv)
instance:Inhabited Qv:=⟨.mk 0 [] [] [] 0 0 []⟩
abbrev YP:Type:=Int×QqA×QqZ×QqZ×Int×Int×List Qv
def Qv.f:Qv->YP
 | .mk k ws p d l h ss=>(k,ws,p,d,l,h,ss)
end Go.L
end
noncomputable section
namespace Go
abbrev No:Int->Value:=Value.int .i64
abbrev Zd:Value:=.slice none 0 0
abbrev Ze(b:Nat):Value:=.pointer (some ⟨b,0,none⟩)
abbrev Zf(l:QqZ):Value:=.string ⟨l.toArray⟩
abbrev Zg:=QqZ
abbrev Zh:QqK:=[.int .i64 0,.slice none 0 0,.string ⟨([]:QqZ).toArray⟩,.slice none 0 0,.int .i64 0,.int .i64 0,.slice none 0 0]
end Go
namespace Go.Proofs.YtfgomcdgmihmpaaGreatDoor
open Go Go.E Go.RowKit Go.L
set_option maxHeartbeats 1000000
set_option maxRecDepth 10000
open _root_.Go.Proofs.Tryz
def Nn(a0:Zg)(a1:Zg):Option Bool:=
 some (decide (a0=a1))
abbrev Zy[Dr](f:FuncId)(a:QqK)(w:World)(R:Value->World->Prop):=Ok prog f a w (fun v w'=>Ext w w'/\R v w')
section
variable(w:World)(H:PH)(hH:Le H (hp w)) include hH
theorem PT{a0 a1:Zg}{a b:Value}(c:AD .byte H a a0)(d:AD .byte H b a1){r:Bool}(h:Nn a0 a1=some r):
  Zy 11 [a,b] w (fun v w'=>v=.bool r):=by
 refine AL 10 [(0,a),(1,b)] func11 Z fun hL=>AI 1 Z<|BN 1 Z<|Ah (S8 c (hH.trans hL.arg))<|Aw 1 Z<|Ah (S8 d (hH.trans hL.arg))<|Ah (Kn Z Z)<|A4 1 Z<|Ay ?_
 cases h
 refine Ak Z ⟨hL.ext,Z⟩
def JM(a0 a1:Int):Option (QqJ):=
 some ((a0,a1))
theorem K8{a0 a1:Int}{r:QqJ}(h:JM a0 a1=some r):
  Zy 25 [No a0,No a1] w (fun v w'=>v=.agg #[No r.1,No r.2]):=by
 refine AL 8 [(0,No a0),(1,No a1)] func25 Z fun hL=>Av<|AG Bt.e Z hL fun e f b c _=>Am<|BN 2 Z<|Ah (Bk (fun _=>Qm _ _ _))<|Ar 0 Z b Z fun g a d=>Am<|Ay ?_
 cases h
 refine Eo (.cell Z Zl Z Bt.e (B0 (i:=0) a Z)) ⟨a.ext,Z⟩
def KU(a0 a1:Int):Option (QqJ):=
 some ((a0,a1))
theorem K9{a0 a1:Int}{r:QqJ}(h:KU a0 a1=some r):
  Zy 32 [No a0,No a1] w (fun v w'=>v=.agg #[No r.1,No r.2]):=by
 refine AL 8 [(0,No a0),(1,No a1)] func32 Z fun hL=>Av<|AG Bt.e Z hL fun e f b c _=>Am<|BN 2 Z<|Ah (Bk (fun _=>Qm _ _ _))<|Ar 0 Z b Z fun g a d=>Am<|Ay ?_
 cases h
 refine Eo (.cell Z Zl Z Bt.e (B0 (i:=0) a Z)) ⟨a.ext,Z⟩
def GB(a0 a1 a2:Int):Option Bool:=
 some (decide ((a1<=a0)/\(a0<=a2)))
theorem Hx{a0 a1 a2:Int}{r:Bool}(h:GB a0 a1 a2=some r):
  Zy 133 [No a0,No a1,No a2] w (fun v w'=>v=.bool r):=by
 refine AL 15 [(0,No a0),(1,No a1),(2,No a2)] func133 Z fun hL=>AI 1 Z<|BN 4 Z<|S1 3 3 Z Z Z Z Z Z<|A4 1 Z<|Ay ?_
 cases h
 refine Ak Z ⟨hL.ext,Z⟩
def D6:Option Int:=
 some ((-1))
def Cv(a0:QqX)(a1:Int):Int->Option ((Int)⊕(Int)):=fun a=>
 if a<(a0.length:Int)then Bi (0<=a/\a<(a0.length:Int)) (if a1=a0.getD a.toNat Qqf then QqD Sum.inr (some a)else Bi (BX (a+1)) (some (Sum.inl (a+1))))else QqD Sum.inr D6
def C4(a0:QqX)(a1 s:Int):Option Int:=Go.L.run (Cv a0 a1) s
def Et(a0:QqX)(a1:Int):Option Int:=
 (C4 a0 a1) (0:Int)
theorem Lt{a0:QqX}{a1:Int}{b:Value}(e:AD (.int .i64) H b a0){r:Int}(h:Et a0 a1=some r):
  Zy 100 [b,No a1] w (fun v w'=>v=No r):=by
 refine AL 19 [(0,b),(1,No a1)] func100 Z fun hL=>AI 1 Z<|Bs Unit (fun(_:Unit)=>[]) (fun(_:Unit) wr=>AZ w [] wr/\D6=some r) ?_ ?_
 ·refine BN 1 Z<|Ah (AX e)<|A4 1 Z<|AA ?_;obtain⟨f,h⟩:=Bf h;refine BB (Int×Nat) (fun⟨a,n⟩=>[(0,b),(1,No a1),(7,No (a0.length:Int)),(8,No a)]) (fun⟨a,n⟩ wr=>AZ w [] wr/\FX (Cv a0 a1) n a=some r) (fun⟨a,n⟩=>n) (0,f) Z ⟨hL,h⟩ ?_;rintro⟨a,nn36⟩ o ⟨c,h⟩;obtain⟨f,q,rfl,h,d⟩:=Bd h;refine AI 1 Z<|AN<|AY h ?_ ?_<;>intro i h
  ·refine A5<|A3<|AN<|AA<|AI 2 Z<|BN 3 Z<|A8 h fun g h=>Bb e a.toNat (Dw g) (AK g) ?_;rintro s _ rfl j;refine Ah (AV j (hH.trans c.arg))<|A4 1 Z<|AY h ?_ ?_<;>intro k h
   ·refine AI 2 Z<|Ay<|A1<|AE<|BQ ?_;have h:=Ct.out h d;refine A1<|BC ?_
    cases h
    refine Ak Z ⟨c.ext,Z⟩
   refine A5<|AB<|A3<|A2<|A8 h fun l h=>Ah (AH l)<|Aw 1 Z<|AQ ?_;have h:=Ct.again h d;refine AS (_,_) ⟨c,h⟩
  refine BA<|AP<|AJ ?_;have h:=Ct.out h d;refine Bu<|A7 () ⟨c,h⟩
 rintro _ p ⟨m,h⟩;refine AI 1 Z<|Ay ?_
 cases h
 refine Ak Z ⟨m.ext,Z⟩
def Cj(a0:QqX)(a1:Int):Option Bool:=
 QqB (Et a0 a1) (fun a=>some (decide (0<=a)))
theorem Fe{a0:QqX}{a1:Int}{a:Value}(b:AD (.int .i64) H a a0){r:Bool}(h:Cj a0 a1=some r):
  Zy 63 [a,No a1] w (fun v w'=>v=.bool r):=by
 refine AL 9 [(0,a),(1,No a1)] func63 Z fun hL=>AI 1 Z<|BN 2 Z<|Ax h fun g c h=>A9 hL (Lt _ _ (Al hL) (b.mono  Ai) c) fun i f d e=>A4 2 Z<|Ay ?_
 cases h
 refine Ak Z ⟨d.ext,Z⟩
def Di:Option Int:=
 some ((-1))
def CV(a0:List Zg)(a1:Zg):Int->Option ((Int)⊕(Int)):=fun a=>
 if a<(a0.length:Int)then Bi (0<=a/\a<(a0.length:Int)) (if a1=a0.getD a.toNat Qqf then QqD Sum.inr (some a)else Bi (BX (a+1)) (some (Sum.inl (a+1))))else QqD Sum.inr Di
def Eu(a0:List Zg)(a1:Zg)(s:Int):Option Int:=Go.L.run (CV a0 a1) s
def CO(a0:List Zg)(a1:Zg):Option Int:=
 (Eu a0 a1) (0:Int)
theorem Gq{a0:List Zg}{a1:Zg}{b:Value}(e:AD .st H b a0){r:Int}(h:CO a0 a1=some r):
  Zy 37 [b,Zf a1] w (fun v w'=>v=No r):=by
 refine AL 19 [(0,b),(1,(Zf a1))] func37 Z fun hL=>AI 1 Z<|Bs Unit (fun(_:Unit)=>[]) (fun(_:Unit) wr=>AZ w [] wr/\Di=some r) ?_ ?_
 ·refine BN 1 Z<|Ah (AX e)<|A4 1 Z<|AA ?_;obtain⟨f,h⟩:=Bf h;refine BB (Int×Nat) (fun⟨a,n⟩=>[(0,b),(1,(Zf a1)),(7,No (a0.length:Int)),(8,No a)]) (fun⟨a,n⟩ wr=>AZ w [] wr/\FX (CV a0 a1) n a=some r) (fun⟨a,n⟩=>n) (0,f) Z ⟨hL,h⟩ ?_;rintro⟨a,nn36⟩ o ⟨c,h⟩;obtain⟨f,q,rfl,h,d⟩:=Bd h;refine AI 1 Z<|AN<|AY h ?_ ?_<;>intro i h
  ·refine A5<|A3<|AN<|AA<|AI 2 Z<|BN 3 Z<|A8 h fun g h=>Bb e a.toNat (Dw g) (AK g) ?_;rintro s _ rfl j;refine Ah (AV j (hH.trans c.arg))<|Ah (Kn Z Z)<|Am<|AY h ?_ ?_<;>intro k h
   ·refine AI 2 Z<|Ay<|A1<|AE<|BQ ?_;have h:=Ct.out h d;refine A1<|BC ?_
    cases h
    refine Ak Z ⟨c.ext,Z⟩
   refine A5<|AB<|A3<|A2<|A8 h fun l h=>Ah (AH l)<|Aw 1 Z<|AQ ?_;have h:=Ct.again h d;refine AS (_,_) ⟨c,h⟩
  refine BA<|AP<|AJ ?_;have h:=Ct.out h d;refine Bu<|A7 () ⟨c,h⟩
 rintro _ p ⟨m,h⟩;refine AI 1 Z<|Ay ?_
 cases h
 refine Ak Z ⟨m.ext,Z⟩
def Cl(a0:List Zg)(a1:Zg):Option Bool:=
 QqB (CO a0 a1) (fun a=>some (decide (0<=a)))
theorem DL{a0:List Zg}{a1:Zg}{a:Value}(b:AD .st H a a0){r:Bool}(h:Cl a0 a1=some r):
  Zy 157 [a,Zf a1] w (fun v w'=>v=.bool r):=by
 refine AL 9 [(0,a),(1,(Zf a1))] func157 Z fun hL=>AI 1 Z<|BN 2 Z<|Ax h fun g c h=>A9 hL (Gq _ _ (Al hL) (b.mono  Ai) c) fun i f d e=>A4 2 Z<|Ay ?_
 cases h
 refine Ak Z ⟨d.ext,Z⟩
def Ea:Option Int:=
 some ((-1))
def DM(a0:List Bool)(a1:Bool):Int->Option ((Int)⊕(Int)):=fun a=>
 if a<(a0.length:Int)then Bi (0<=a/\a<(a0.length:Int)) (if(a1==(a0.getD a.toNat Qqf))then QqD Sum.inr (some a)else Bi (BX (a+1)) (some (Sum.inl (a+1))))else QqD Sum.inr Ea
def F4(a0:List Bool)(a1:Bool)(s:Int):Option Int:=Go.L.run (DM a0 a1) s
def DN(a0:List Bool)(a1:Bool):Option Int:=
 (F4 a0 a1) (0:Int)
theorem KO{a0:List Bool}{a1:Bool}{b:Value}(e:AD .bool H b a0){r:Int}(h:DN a0 a1=some r):
  Zy 128 [b,.bool a1] w (fun v w'=>v=No r):=by
 refine AL 19 [(0,b),(1,.bool a1)] func128 Z fun hL=>AI 1 Z<|Bs Unit (fun(_:Unit)=>[]) (fun(_:Unit) wr=>AZ w [] wr/\Ea=some r) ?_ ?_
 ·refine BN 1 Z<|Ah (AX e)<|A4 1 Z<|AA ?_;obtain⟨f,h⟩:=Bf h;refine BB (Int×Nat) (fun⟨a,n⟩=>[(0,b),(1,.bool a1),(7,No (a0.length:Int)),(8,No a)]) (fun⟨a,n⟩ wr=>AZ w [] wr/\FX (DM a0 a1) n a=some r) (fun⟨a,n⟩=>n) (0,f) Z ⟨hL,h⟩ ?_;rintro⟨a,nn36⟩ o ⟨c,h⟩;obtain⟨f,q,rfl,h,d⟩:=Bd h;refine AI 1 Z<|AN<|AY h ?_ ?_<;>intro i h
  ·refine A5<|A3<|AN<|AA<|AI 2 Z<|BN 3 Z<|A8 h fun g h=>Bb e a.toNat (Dw g) (AK g) ?_;rintro s _ rfl j;refine Ah (AV j (hH.trans c.arg))<|Ah (XN Z Z)<|Am<|Bm h ?_ ?_<;>intro k h
   ·refine AI 2 Z<|Ay<|A1<|AE<|BQ ?_;have h:=Ct.out h d;refine A1<|BC ?_
    cases h
    refine Ak Z ⟨c.ext,Z⟩
   refine A5<|AB<|A3<|A2<|A8 h fun l h=>Ah (AH l)<|Aw 1 Z<|AQ ?_;have h:=Ct.again h d;refine AS (_,_) ⟨c,h⟩
  refine BA<|AP<|AJ ?_;have h:=Ct.out h d;refine Bu<|A7 () ⟨c,h⟩
 rintro _ p ⟨m,h⟩;refine AI 1 Z<|Ay ?_
 cases h
 refine Ak Z ⟨m.ext,Z⟩
def CW(a0:Zg):Option Zg:=
 Bi (Go.E.Gg 1 (([]:Zg).length+a0.length)) (some ((([]:Zg)++a0)))
theorem F5{a0:Zg}{a:Value}(b:AD .byte H a a0){r:Zg}(h:CW a0=some r):
  Zy 65 [a] w (fun v w'=>∃d,v=d/\CE 5 .byte H w w' d r):=by
 refine AL 8 [(0,a)] func65 Z fun hL=>AI 1 Z<|AN<|BN 1 Z ?_
 rcases RW b with ⟨rfl,rfl⟩ | hnn
 ·refine Ah RX<|Am<|Fb<|AI 1 Z<|Ay ?_;obtain⟨_,h⟩:=Hd h;obtain rfl:=Option.some.inj h;refine AE<|Ak Z ⟨hL.ext,_,Z,Sa _ hL hH⟩
 refine Ah (RY hnn)<|Am<|Ht<|A5<|A3<|Av<|Ob ([]:Zg) (r:=.byte) (fun _=>VJ _) (Bw 0) hH hL .nil fun s t p e k f=>Aw 1 Z<|A8 h fun g h=>Ca (r:=.byte) 0 ([]:Zg) a0 Z Zi e Z f (b.mono  Ai) g fun u x q c o j=>A4 1 Z<|Ay ?_
 cases h
 refine Ak Z ⟨c.ext,_,Z,(c.Hv hH (i:=0) Z j)⟩
def B3(a0:List Zg):Option ((List Zg)):=
 Bi (Go.E.Gg 16 (([]:List Zg).length+a0.length)) (some ((([]:List Zg)++a0)))
theorem Dj{a0:List Zg}{a:Value}(b:AD .st H a a0){r:(List Zg)}(h:B3 a0=some r):
  Zy 66 [a] w (fun v w'=>∃d,v=d/\CE 9 .st H w w' d r):=by
 refine AL 8 [(0,a)] func66 Z fun hL=>AI 1 Z<|AN<|BN 1 Z ?_
 rcases RW b with ⟨rfl,rfl⟩ | hnn
 ·refine Ah RX<|Am<|Fb<|AI 1 Z<|Ay ?_;obtain⟨_,h⟩:=Hd h;obtain rfl:=Option.some.inj h;refine AE<|Ak Z ⟨hL.ext,_,Z,Sa _ hL hH⟩
 refine Ah (RY hnn)<|Am<|Ht<|A5<|A3<|Av<|Ob ([]:List Zg) (r:=.st) (fun _=>VN _) (Bw 0) hH hL .nil fun s t p e k f=>Aw 1 Z<|A8 h fun g h=>Ca (r:=.st) 0 ([]:List Zg) a0 Z Zo e Z f (b.mono  Ai) g fun u x q c o j=>A4 1 Z<|Ay ?_
 cases h
 refine Ak Z ⟨c.ext,_,Z,(c.Hv hH (i:=0) Z j)⟩
def C9(a0:QqX):Option (QqX):=
 Bi (Go.E.Gg 8 (([]:QqX).length+a0.length)) (some ((([]:QqX)++a0)))
theorem D7{a0:QqX}{a:Value}(b:AD (.int .i64) H a a0){r:QqX}(h:C9 a0=some r):
  Zy 113 [a] w (fun v w'=>∃d,v=d/\CE 3 (.int .i64) H w w' d r):=by
 refine AL 8 [(0,a)] func113 Z fun hL=>AI 1 Z<|AN<|BN 1 Z ?_
 rcases RW b with ⟨rfl,rfl⟩ | hnn
 ·refine Ah RX<|Am<|Fb<|AI 1 Z<|Ay ?_;obtain⟨_,h⟩:=Hd h;obtain rfl:=Option.some.inj h;refine AE<|Ak Z ⟨hL.ext,_,Z,Sa _ hL hH⟩
 refine Ah (RY hnn)<|Am<|Ht<|A5<|A3<|Av<|Ob ([]:QqX) (r:=(.int .i64)) (fun _=>VP _) (Bw 0) hH hL .nil fun s t p e k f=>Aw 1 Z<|A8 h fun g h=>Ca (r:=(.int .i64)) 0 ([]:QqX) a0 Z Zm e Z f (b.mono  Ai) g fun u x q c o j=>A4 1 Z<|Ay ?_
 cases h
 refine Ak Z ⟨c.ext,_,Z,(c.Hv hH (i:=0) Z j)⟩
def Dk:Option Bool:=
 some true
def CX(a0:List Zg)(a1:List Zg):Int->Option ((Int)⊕(Bool)):=fun a=>
 if a<(a0.length:Int)then Bi (0<=a/\a<(a0.length:Int)) (Bi (0<=a/\a<(a1.length:Int)) (if a0.getD a.toNat Qqf=a1.getD a.toNat Qqf then Bi (BX (a+1)) (some (Sum.inl (a+1)))else QqD Sum.inr (some false)))else QqD Sum.inr Dk
def Ev(a0:List Zg)(a1:List Zg)(s:Int):Option Bool:=Go.L.run (CX a0 a1) s
def BI(a0:List Zg)(a1:List Zg):Option Bool:=
 if(a0.length:Int)=(a1.length:Int)then(Ev a0 a1) (0:Int)else some false
theorem JN{a0 a1:List Zg}{b c:Value}(d:AD .st H b a0)(g:AD .st H c a1){r:Bool}(h:BI a0 a1=some r):
  Zy 110 [b,c] w (fun v w'=>v=.bool r):=by
 refine AL 26 [(0,b),(1,c)] func110 Z fun hL=>AI 1 Z<|AN<|BN 1 Z<|Ah (AX d)<|Aw 1 Z<|Ah (AX g)<|A4 1 Z<|DI h ?_ ?_<;>intro aa h
 ·refine AI 1 Z<|Ay<|AE ?_
  cases h
  refine Ak Z ⟨hL.ext,Z⟩
 refine A5<|A3<|Bs Unit (fun(_:Unit)=>[]) (fun(_:Unit) wr=>AZ w [] wr/\Dk=some r) ?_ ?_
 ·refine BN 1 Z<|Ah (AX d)<|A4 1 Z<|AA ?_;obtain⟨i,h⟩:=Bf h;refine BB (Int×Nat) (fun⟨a,n⟩=>[(0,b),(1,c),(12,No (a0.length:Int)),(13,No a)]) (fun⟨a,n⟩ wr=>AZ w [] wr/\FX (CX a0 a1) n a=some r) (fun⟨a,n⟩=>n) (0,i) Z ⟨hL,h⟩ ?_;rintro⟨a,nn57⟩ ab ⟨j,h⟩;obtain⟨i,ad,rfl,h,e⟩:=Bd h;refine AI 1 Z<|AN<|AY h ?_ ?_<;>intro o h
  ·refine A5<|A3<|AN<|AA<|AI 2 Z<|Dq (ZX 0 9 (.tail 9)) mixed V (fun ae p=>?_);have f:=j.call p;refine BW 2 Z<|A8 h fun k h=>DJ Z Z Z Zo d a.toNat (Dw k) (AK k) Z ?_;rintro af _ rfl s;refine B9 Z (AV s (hH.trans f.arg)) Z<|BW 2 Z<|A8 h fun l h=>DJ Z Z Z Zo g a.toNat (Dw l) (AK l) Z ?_;rintro ag _ rfl t;refine B9 Z (AV t (hH.trans f.arg)) Z<|B9 Z (Me Z Z) Z<|BM (fun ah u=>?_);have m:=f.call u;refine Am<|DI h ?_ ?_<;>intro x h
   ·refine AI 1 Z<|Ay<|A1<|AE<|BQ ?_;have h:=Ct.out h e;refine A1<|BC ?_
    cases h
    refine Ak Z ⟨m.ext,Z⟩
   refine A5<|AB<|A3<|A2<|A8 h fun y h=>Ah (AH y)<|Aw 1 Z<|AQ ?_;have h:=Ct.again h e;refine AS (_,_) ⟨m,h⟩
  refine BA<|AP<|AJ ?_;have h:=Ct.out h e;refine Bu<|A7 () ⟨j,h⟩
 rintro _ ac ⟨z,h⟩;refine AI 1 Z<|Ay ?_
 cases h
 refine Ak Z ⟨z.ext,Z⟩
def Mn(a0:Zg)(a1:Zg):Option Bool:=
 some (decide (a0=a1))
theorem Pw{a0 a1:Zg}{a b:Value}(c:AD .byte H a a0)(d:AD .byte H b a1){r:Bool}(h:Mn a0 a1=some r):
  Zy 170 [a,b] w (fun v w'=>v=.bool r):=by
 refine AL 10 [(0,a),(1,b)] func170 Z fun hL=>AI 1 Z<|BN 1 Z<|Ah (S8 c (hH.trans hL.arg))<|Aw 1 Z<|Ah (S8 d (hH.trans hL.arg))<|Ah (Kn Z Z)<|A4 1 Z<|Ay ?_
 cases h
 refine Ak Z ⟨hL.ext,Z⟩
def Kc(a0:Zg)(a1:Zg):Option Bool:=
 if(a1.length:Int)<=(a0.length:Int)then Bi (0<=(a1.length:Int)/\(a1.length:Int)<=(a0.length:Int)) (QqB (Mn (a0.take (a1.length:Int).toNat) a1) (fun a=>some a))else some false
theorem Np{a0 a1:Zg}{b c:Value}(e:AD .byte H b a0)(d:AD .byte H c a1){r:Bool}(h:Kc a0 a1=some r):
  Zy 137 [b,c] w (fun v w'=>v=.bool r):=by
 refine AL 18 [(0,b),(1,c)] func137 Z fun hL=>AI 1 Z<|BN 1 Z<|Ah (AX e)<|Aw 1 Z<|Ah (AX d)<|Aw 2 Z<|AU 10 h ?_ ?_<;>intro a h
 ·refine Aa a<|Ah (Ad Z)<|Aa a<|Ah (Ad Z)<|Aa a<|Ah (AX d)<|Aa a<|A8 h fun f h=>Lq e f fun m g=>Aa a<|Ah (Ad Z)<|Aa a<|Ax h fun o i h=>A9 hL (Pw _ _ (Al hL) (g.mono  Ai) (d.mono  Ai) i) fun p l j k=>Ah (Aj a Z)<|A4 1 Z<|Ay ?_
  cases h
  refine Ak Z ⟨j.ext,Z⟩
 iterate 6 refine Ac a ?_
 refine Ah (An a Z)<|A4 1 Z<|Ay ?_
 cases h
 refine Ak Z ⟨hL.ext,Z⟩
def Kd(a0:Zg)(a1:Zg):Option (Zg×Bool):=
 QqB (Kc a0 a1) (fun a=>if !a then some (a0,false)else Bi (0<=(a1.length:Int)/\(a1.length:Int)<=(a0.length:Int)) (some ((a0.drop (a1.length:Int).toNat),true)))
theorem Nq{a0 a1:Zg}{a b:Value}(c:AD .byte H a a0)(d:AD .byte H b a1){r:Zg×Bool}(h:Kd a0 a1=some r):
  Zy 103 [a,b] w (fun v w'=>∃f,v=.tuple #[f,.bool r.2]/\AD .byte (un H (nw w w')) f (r.1)):=by
 refine AL 15 [(0,a),(1,b)] func103 Z fun hL=>AI 2 Z<|AN<|BN 2 Z<|Ax h fun o g h=>A9 hL (Np _ _ (Al hL) (c.mono  Ai) (d.mono  Ai) g) fun p m e l=>A4 1 Z<|Bm h ?_ ?_<;>intro i h
 ·refine AI 3 Z<|Ay<|AE ?_
  cases h
  refine Ak Z ⟨e.ext,_,Z,(c.mono (I1 hH))⟩
 refine A5<|A3<|BN 2 Z<|Ah (AX d)<|A8 h fun j h=>G7 c j fun q k=>A4 2 Z<|Ay ?_
 cases h
 refine Ak Z ⟨e.ext,_,Z,(k.mono (I1 hH))⟩
end
end Go.Proofs.YtfgomcdgmihmpaaGreatDoor
end
noncomputable section
namespace Go.L
def JO(f:Nat->Bool)(m:Nat)(b:Bool):Nat->Bool:=fun i=>if i=m then b else f i
end Go.L
namespace Go.E
open Go Go.RowKit Go.L
def JP(n:Nat)(x:Nat->Bool):QqK:=(Qze n).map fun i=>Value.bool (x i)
def Rp.bb(n:Nat):Rp (Nat->Bool):=⟨n,fun _ x c=>c=JP n x,fun h=>by simp[h,JP],fun _ h=>h,fun h u hu=>by subst h;obtain⟨i,_,rfl⟩:=List.mem_map.1 hu;rfl⟩
theorem GK(n:Nat)(f:Nat->Bool):(JP n f).length=n:=by simp[JP]
theorem Sg{n m:Nat}{f:Nat->Bool}(h:m<n):(JP n f)[m]? = some (.bool (f m)):=by simp[JP,h]
theorem VS(n:Nat)(f:Nat->Bool):∀u∈JP n f,u.oneCell'=true:=fun u hu=>by obtain⟨i,_,rfl⟩:=List.mem_map.1 hu;rfl
theorem SP{n m:Nat}{f:Nat->Bool}{b:Bool}:(JP n f).set m (.bool b)=JP n (JO f m b):=by
 refine List.ext_getElem? fun i=>?_;rw[List.getElem?_set,GK]
 by_cases hi:i<n
 ·rw[Sg hi,Sg hi]
  by_cases e:m=i
  ·subst e;simp[hi,JO]
  ·rw[if_neg e,show JO f m b i=f i from if_neg (fun h=>e h.symm)]
 ·have a:(JP n f)[i]? = none:=by simp[JP];omega
  have h2:(JP n (JO f m b))[i]? = none:=by simp[JP];omega
  rw[a,h2]
  by_cases e:m=i
  ·rw[if_pos e,if_neg U]
  ·rw[if_neg e]
theorem Px(n:Nat):(Value.agg (QzD n (.bool false))).cells.toList=JP n fun _=>false:=by
 simp[Value.cells,JP,List.map_const']
theorem TM{P:Program}{t:TypeId}{zz:Value}{n bt:Nat}{f:Nat->Bool}(h:Zr P t zz n bt):Zr P t zz (JP n f).length bt:=by rw[GK];exact h
theorem A6.c12{α:Type}{r:Rp α}{H:PH}{x:α}{l:List α}{d e f g i j k m u8 n a b:Value}{cs:QqK}(h:r.rel H x [d,e,f,g,i,j,k,m,u8,n,a,b])(t:A6 r H l cs):A6 r H (x::l) (d::e::f::g::i::j::k::m::u8::n::a::b::cs):=.cons (c:=[d,e,f,g,i,j,k,m,u8,n,a,b]) h t
theorem T3(G:PH)(n:Nat)(f:Nat->Bool):A6 (.bb n) G [f] (JP n f):=by
 have h:A6 (.bb n) G [f] (JP n f++[]):=.cons Z .nil
 rwa [QzQ]at h
section
variable [Dr] {P:Program}{n:Sz}{ops:Array Oper}{Q:Exit->Act->World->Prop}{L:Env}{w w0:World}{O:List BS}{rest:List Oper}{ty t t' e:TypeId}{pos:String}{af:Array Edge}{x y:Operand}{H:PH}
theorem Py(i:Nat){b c m:Nat}{f:Nat->Bool}(hx:ev L x=some (.pointer (some ⟨b,m,none⟩)))[ht:ZZ (P.underlying t) (some .bool)](hL:AZ w0 O w)(hi:DW O i=some (.box b (JP c f) t'))(hm:m<c):B2 P L w (.load t x) ty (.bool (f m)):=by
 have a:=(B0 hL hi).add m;rw[Addr.add_lit,Qq8,Qzc (by rw[GK];exact hm)]at a;have e:(JP c f)[m]'(by rw[GK];exact hm)=.bool (f m):=by simp[JP]
 rw[e]at a;exact AV (hx:=⟨hx⟩) (ht:=⟨ht.e⟩) a (Le.refl _)
theorem R2{p:Addr}{c m:Nat}{f:Nat->Bool}[hx:ZZ (ev L x) (some (.pointer (some (p.add m))))][ht:ZZ (P.underlying t) (some .bool)](hp':EG H p (JP c f))(hm:m<c)(hs:Le H (hp w)):B2 P L w (.load t x) ty (.bool (f m)):=by
 have a:=hp'.add m;rw[Qzc (by rw[GK];exact hm)]at a;have e:(JP c f)[m]'(by rw[GK];exact hm)=.bool (f m):=by simp[JP]
 rw[e]at a;exact AV (hx:=⟨hx.e⟩) (ht:=⟨ht.e⟩) a hs
theorem ME{p:Addr}{m:Nat}{a:Int}{k:IntKind}{zz:Value}{bt len:Nat}[hx:ZZ (ev L x) (some (.pointer (some p)))][hy:ZZ (ev L y) (some (.int k a))][ht:ZZ (P.underlying t) (some (.array len e))][he:Qqq P e zz 1 bt][hl:ZZ (QqE 1 len) true](hm:0<=a/\a<(len:Int))(hmm:a.toNat=m)(hsp:p.spot=none):B2 P L w (.indexAddr t x y) ty (.pointer (some (p.add m))):=by
 have hl:=hl.e
 intro w' _ ρ hρ dst pos af g;obtain⟨inf,c,f,d,i⟩:=he.e.parts;have hl' : ¬len<=1:=by simp only[Nat.blt_eq]at hl;omega
 have i3':inf.size=1:=by rw[d]
 obtain⟨b,o,s⟩:=p;simp only at hsp;subst hsp;simp[execOp,hρ x _ hx.e,hρ y _ hy.e,Instr.indexAt,asIntOf,run_underlying ht.e,Instr.sureAddr,sizeOf,typeInfo,c,i3',hm,hmm,Addr.add]
theorem Lu(i:Nat){b c m:Nat}{f:Nat->Bool}{v:Bool}{zz:Value}{bt:Nat}(hx:ev L x=some (.pointer (some ⟨b,m,none⟩)))(hy:ev L y=some (.bool v))[hz:Qqq P t zz 1 bt](hL:AZ w0 O w)(hi:DW O i=some (.box b (JP c f) t'))(hm:m<c)
  (h:∀w',AZ w0 (DX O i (.box b (JP c (JO f m v)) t')) w'->Le (fz w O) (fz w' (DX O i (.box b (JP c (JO f m v)) t')))->S P n ops Q rest L w'):S P n ops Q (⟨none,.store t x y,ty,pos,af,none⟩::rest) L w:=by
 refine Bc i hx hy Z (hz:=⟨hz.e⟩) hL hi (by rw[GK];simpa using hm) ?_;rw[Q2,SP];exact h
theorem LG(i:Nat){b c:Nat}{f f':Nat->Bool}{zz:Value}{bt:Nat}(hx:ev L x=some (.pointer (some ⟨b,0,none⟩)))(hy:ev L y=some (.agg (JP c f').toArray))(hz:Zr P t zz c bt)(hL:AZ w0 O w)(hi:DW O i=some (.box b (JP c f) t'))
  (h:∀w',AZ w0 (DX O i (.box b (JP c f') t')) w'->Le (fz w O) (fz w' (DX O i (.box b (JP c f') t')))->S P n ops Q rest L w'):S P n ops Q (⟨none,.store t x y,ty,pos,af,none⟩::rest) L w:=
 Qe i hx hy (vs:=JP c f') (by simp[Value.cells]) (TM hz) hL hi (by rw[GK,GK]) (VS _ _) h
theorem Qp(i:Nat){c m j:Nat}{v:Bool}{u:Value}{xs:QqK}{p:Addr}{e':TypeId}{zz:Value}{bt:Nat}{l:List (Nat->Bool)}{G:PH}[hx:ZZ (ev L x) (some (.pointer (some (p.add m))))](hy:ev L y=some (.bool v))[hz:Qqq P t zz 1 bt](hL:AZ w0 O w)(hi:DW O i=some (.row u e' c l.length xs))(he:A6 (.bb c) G l xs)(hp':IQ u (j * c) p)(hm:m<c)(hj:j<l.length)
  (h:∀w',AZ w0 (DX O i (.row u e' c (l.set j (JO (l.getD j Qqf) m v)).length (xs.set (j * c+m) (.bool v)))) w'->Le (fz w O) (fz w' (DX O i (.row u e' c (l.set j (JO (l.getD j Qqf) m v)).length (xs.set (j * c+m) (.bool v)))))->A6 (.bb c) G (l.set j (JO (l.getD j Qqf) m v)) (xs.set (j * c+m) (.bool v))->S P n ops Q rest L w'):S P n ops Q (⟨none,.store t x y,ty,pos,af,none⟩::rest) L w:=by
 have key:∀(l:List (Nat->Bool)) (xs:QqK) (j:Nat),A6 (.bb c) G l xs->j<l.length->j * c+m<xs.length/\A6 (.bb c) G (l.set j (JO (l.getD j Qqf) m v)) (xs.set (j * c+m) (.bool v)):=by
  intro l
  induction l with
  | nil=>intro xs j _ hj;cases hj
  | cons a l ih=>
   intro xs j he hj
   cases he with
   | cons hc he=>
    rename_i cc ys;obtain rfl:cc=JP c a:=hc
    cases j with
    | zero=>
     refine⟨by rw[Qq1,GK];omega,?_⟩;rw[Qz4,Qq8,List.set_append_left _ _ (by rw[GK];exact hm),SP];exact .cons Z he
    | succ j=>
     obtain⟨d,h2⟩:=ih ys j he (by simpa using hj);have e:(j+1) * c+m=c+(j * c+m):=by rw[Qzy];omega
     refine⟨by rw[Qq1,GK];omega,?_⟩;rw[e,List.set_append_right _ _ (by rw[GK];omega),GK,Nat.add_sub_cancel_left];exact .cons Z h2
 obtain⟨d,h2⟩:=key l xs j he hj;refine Pf i hx.e hy Z hz.e hL hi (hp'.add m) d fun w' a b=>h w' ?_ ?_ h2
 ·rw[Qxq];exact a
 ·rw[Qxq];exact b
omit [Dr] in
theorem Sh{α:Type}[Inhabited α]{r:Rp α}{G:PH}{u:Value}{z:α}{o:Nat}(ho:o<r.sz):∀(l:List α) (xs:QqK) (j:Nat),A6 r G l xs->j<l.length->(∀c,r.rel G (l.getD j Qqf) c->r.rel G z (c.set o u))->
  j * r.sz+o<xs.length/\A6 r G (l.set j z) (xs.set (j * r.sz+o) u):=by
 intro l
 induction l with
 | nil=>intro xs j _ hj;cases hj
 | cons a l ih=>
  intro xs j he hj hr
  cases he with
  | cons hc he=>
   rename_i c ys;have hlen:c.length=r.sz:=r.len hc
   cases j with
   | zero=>
    refine⟨by rw[Qq1];omega,?_⟩;rw[Qz4,Qq8,List.set_append_left _ _ U];exact .cons (hr c hc) he
   | succ j=>
    obtain⟨d,h2⟩:=ih ys j he (by simpa using hj) (fun c hc=>hr c (by simpa using hc));have b:(j+1) * r.sz+o=c.length+(j * r.sz+o):=by rw[Qzy];omega
    refine⟨by rw[Qq1];omega,?_⟩;rw[b,List.set_append_right _ _ U,Nat.add_sub_cancel_left];exact .cons hc h2
theorem Hy{α:Type}[Inhabited α](i:Nat)(r:Rp α)(o j:Nat)(z:α){u v:Value}{l:List α}{xs:QqK}{p:Addr}{e':TypeId}{zz:Value}{bt:Nat}{G:PH}[hx:ZZ (ev L x) (some (.pointer (some (p.add o))))][hy:ZZ (ev L y) (some u)][hv:ZZ u.oneCell' true][hz:Qqq P t zz 1 bt](hL:AZ w0 O w)(hi:DW O i=some (.row v e' r.sz l.length xs))(he:A6 r G l xs)(hp':IQ v (j * r.sz) p)(hj:j<l.length)(hr:∀c,r.rel G (l.getD j Qqf) c->r.rel G z (c.set o u))
  (h:∀w' xs',AZ w0 (DX O i (.row v e' r.sz (l.set j z).length xs')) w'->Le (fz w O) (fz w' (DX O i (.row v e' r.sz (l.set j z).length xs')))->A6 r G (l.set j z) xs'->S P n ops Q rest L w')(ho:o<r.sz:=by decide):S P n ops Q (⟨none,.store t x y,ty,pos,af,none⟩::rest) L w:=by
 obtain⟨d,h2⟩:=Sh (u:=u) ho l xs j he hj hr;refine Pf i hx.e hy.e hv.e hz.e hL hi (hp'.add o) d fun w' a b=>h w' _ ?_ ?_ h2
 ·rw[Qxq];exact a
 ·rw[Qxq];exact b
theorem Pz{c m:Nat}{a:Int}{k:IntKind}{f:Nat->Bool}{zz:Value}{bt:Nat}(hx:ev L x=some (.agg (JP c f).toArray))[hy:ZZ (ev L y) (some (.int k a))][ht:ZZ (P.underlying t) (some (.array c e))][he:ZZ (P.underlying e) (some .bool)][hz:Qqq P e zz 1 bt](hm:0<=a/\a<(c:Int))(hmm:a.toNat=m):B2 P L w (.index t x y) ty (.bool (f m)):=by
 intro w' _ ρ hρ dst pos af g;have hmc:m<c:=by omega
 have b:=Sg (f:=f) hmc;obtain⟨inf,d,j,i,l⟩:=hz.e.parts;have i3':inf.size=1:=by rw[i]
 simp[execOp,hρ x _ hx,hρ y _ hy.e,Instr.index,asIntOf,run_underlying ht.e,run_underlying he.e,hm,hmm,b,part,isAgg,sizeOf,typeInfo,d,i3']
end
end Go.E
end
noncomputable section
namespace Go.Proofs.YtfgomcdgmihmpaaGreatDoor
open Go Go.E Go.RowKit
theorem U0(f:Nat->Bool)(w:World):(Instr.buildSlice 155 1 #[(0,.agg (JP 256 f).toArray)]).run Tryz.prog w=.ok (.slice (some ⟨w.heap.size,0,none⟩) 1 1) (w.alloc (.cells (JP 256 f).toArray 154)):=by kernel_rfl
end Go.Proofs.YtfgomcdgmihmpaaGreatDoor
end
noncomputable section
namespace Go
abbrev ZR:=Go.E.Rp.pair Go.E.Rp.st (Go.E.Rp.pair (Go.E.Rp.int .i64) (Go.E.Rp.pair (Go.E.Rp.vec Go.E.Rp.byte) (Go.E.Rp.pair (Go.E.Rp.int .i64) (Go.E.Rp.pair Go.E.Rp.bool (Go.E.Rp.pair (Go.E.Rp.int .i64) (Go.E.Rp.pair (Go.E.Rp.int .i64) (Go.E.Rp.pair (Go.E.Rp.int .i64) (Go.E.Rp.pair (Go.E.Rp.int .i64) (Go.E.Rp.pair (Go.E.Rp.int .i64) (Go.E.Rp.pair (Go.E.Rp.vec Go.E.Rp.st) (Go.E.Rp.vec (Go.E.Rp.int .i64))))))))))))
end Go
namespace Go
abbrev ZJ:=Zg×Int×Zg×Int×Bool×Int×Int×Int×Int×Int×(List Zg)×QqX
end Go
namespace Go.Proofs.YtfgomcdgmihmpaaGreatDoor
open Go Go.E Go.RowKit Go.L
set_option maxHeartbeats 1000000
set_option maxRecDepth 10000
open _root_.Go.Proofs.Tryz
def GC(a0:ZJ)(a1:QqX):Option Bool:=
 QqB (Cj a1 a0.2.1) (fun a=>some a)
section
variable(w:World)(H:PH)(hH:Le H (hp w)) include hH
theorem Hz(a0:ZJ){a1:QqX}{a b c d:Value}(_h0_0:AD .byte H a (a0.2.2.1))(_h0_1:AD .st H b (a0.2.2.2.2.2.2.2.2.2.2.1))(_h0_2:AD (.int .i64) H c (a0.2.2.2.2.2.2.2.2.2.2.2))(f:AD (.int .i64) H d a1){r:Bool}(h:GC a0 a1=some r):
  Zy 90 [.agg #[Zf a0.1,No a0.2.1,a,No a0.2.2.2.1,.bool a0.2.2.2.2.1,No a0.2.2.2.2.2.1,No a0.2.2.2.2.2.2.1,No a0.2.2.2.2.2.2.2.1,No a0.2.2.2.2.2.2.2.2.1,No a0.2.2.2.2.2.2.2.2.2.1,b,c],d] w (fun v w'=>v=.bool r):=by
 refine AL 9 [(0,.agg #[Zf a0.1,No a0.2.1,a,No a0.2.2.2.1,.bool a0.2.2.2.2.1,No a0.2.2.2.2.2.1,No a0.2.2.2.2.2.2.1,No a0.2.2.2.2.2.2.2.1,No a0.2.2.2.2.2.2.2.2.1,No a0.2.2.2.2.2.2.2.2.2.1,b,c]),(1,d)] func90 Z fun hL=>Av<|C1 (t:=53) Z Z hL fun m o e j _=>A4 1 Z<|BN 1 Z<|Ah (Af Z Zs Z B6.e)<|Ah (Ag 0 Z e Z)<|Ax h fun p g h=>A9 e (Fe _ _ (Al e) (f.mono  Ai) g) fun q l i k=>A4 1 Z<|Ay ?_
 cases h
 refine Ak Z ⟨i.ext,Z⟩
def CT(a0:ZJ):Option Bool:=
 QqB (GC a0 ([3,5,9])) (fun a=>some a)
theorem Gu{a0:ZJ}{a b c:Value}(f:AD .byte H a (a0.2.2.1))(g:AD .st H b (a0.2.2.2.2.2.2.2.2.2.2.1))(i:AD (.int .i64) H c (a0.2.2.2.2.2.2.2.2.2.2.2)){r:Bool}(h:CT a0=some r):
  Zy 40 [.agg #[Zf a0.1,No a0.2.1,a,No a0.2.2.2.1,.bool a0.2.2.2.2.1,No a0.2.2.2.2.2.1,No a0.2.2.2.2.2.2.1,No a0.2.2.2.2.2.2.2.1,No a0.2.2.2.2.2.2.2.2.1,No a0.2.2.2.2.2.2.2.2.2.1,b,c]] w (fun v w'=>v=.bool r):=by
 refine AL 6 [(0,.agg #[Zf a0.1,No a0.2.1,a,No a0.2.2.2.1,.bool a0.2.2.2.2.1,No a0.2.2.2.2.2.1,No a0.2.2.2.2.2.2.1,No a0.2.2.2.2.2.2.2.1,No a0.2.2.2.2.2.2.2.2.1,No a0.2.2.2.2.2.2.2.2.2.1,b,c])] func40 Z fun hL=>Av<|C1 (t:=53) Z Z hL fun x y d o _=>A4 1 Z<|Av<|Ah (Az 0 Z Bp.e d Z)<|Br [3,5,9] (r:=(.int .i64)) (hr:=(fun _=>SJ _ _ _ _)) (Bw 3) d (.c1 Z (.c1 Z (.c1 Z .nil))) fun z w2 s e p j=>Ax h fun x3 k h=>A9 e (Hz _ _ (Al e) a0 (f.mono  Ai) (g.mono  Ai) (i.mono  Ai) j k) fun w4 u m q=>A4 1 Z<|Ay ?_
 cases h
 refine Ak Z ⟨m.ext,Z⟩
def BK(a0:ZJ):Option Bool:=
 QqB (GC a0 ([6,10])) (fun a=>some a)
theorem BL{a0:ZJ}{a b c:Value}(f:AD .byte H a (a0.2.2.1))(g:AD .st H b (a0.2.2.2.2.2.2.2.2.2.2.1))(i:AD (.int .i64) H c (a0.2.2.2.2.2.2.2.2.2.2.2)){r:Bool}(h:BK a0=some r):
  Zy 45 [.agg #[Zf a0.1,No a0.2.1,a,No a0.2.2.2.1,.bool a0.2.2.2.2.1,No a0.2.2.2.2.2.1,No a0.2.2.2.2.2.2.1,No a0.2.2.2.2.2.2.2.1,No a0.2.2.2.2.2.2.2.2.1,No a0.2.2.2.2.2.2.2.2.2.1,b,c]] w (fun v w'=>v=.bool r):=by
 refine AL 6 [(0,.agg #[Zf a0.1,No a0.2.1,a,No a0.2.2.2.1,.bool a0.2.2.2.2.1,No a0.2.2.2.2.2.1,No a0.2.2.2.2.2.2.1,No a0.2.2.2.2.2.2.2.1,No a0.2.2.2.2.2.2.2.2.1,No a0.2.2.2.2.2.2.2.2.2.1,b,c])] func45 Z fun hL=>Av<|C1 (t:=53) Z Z hL fun x y d o _=>A4 1 Z<|Av<|Ah (Az 0 Z Bp.e d Z)<|Br [6,10] (r:=(.int .i64)) (hr:=(fun _=>ND _ _ _)) (Bw 2) d (.c1 Z (.c1 Z .nil)) fun z w2 s e p j=>Ax h fun x3 k h=>A9 e (Hz _ _ (Al e) a0 (f.mono  Ai) (g.mono  Ai) (i.mono  Ai) j k) fun w4 u m q=>A4 1 Z<|Ay ?_
 cases h
 refine Ak Z ⟨m.ext,Z⟩
def Dt(a0:ZJ):Option (QqX):=
 QqB (BK a0) (fun a=>if a then some ([a0.2.2.2.2.2.2.2.2.1])else(if a0.2.1=7 then Bi (0<=(1:Int)/\(1:Int)<=(a0.2.2.2.2.2.2.2.2.2.2.2.length:Int)) (some ((a0.2.2.2.2.2.2.2.2.2.2.2.take (1:Int).toNat)))else(if a0.2.1=8 then some (a0.2.2.2.2.2.2.2.2.2.2.2)else(if a0.2.1=9 then some ([a0.2.2.2.2.2.2.2.2.2.1])else some ([])))))
theorem Jq{a0:ZJ}{b c d:Value}(k:AD .byte H b (a0.2.2.1))(m:AD .st H c (a0.2.2.2.2.2.2.2.2.2.2.1))(e:AD (.int .i64) H d (a0.2.2.2.2.2.2.2.2.2.2.2)){r:QqX}(h:Dt a0=some r):
  Zy 135 [.agg #[Zf a0.1,No a0.2.1,b,No a0.2.2.2.1,.bool a0.2.2.2.2.1,No a0.2.2.2.2.2.1,No a0.2.2.2.2.2.2.1,No a0.2.2.2.2.2.2.2.1,No a0.2.2.2.2.2.2.2.2.1,No a0.2.2.2.2.2.2.2.2.2.1,c,d]] w (fun v w'=>∃x,v=x/\AD (.int .i64) (un H (nw w w')) x r):=by
 refine AL 29 [(0,.agg #[Zf a0.1,No a0.2.1,b,No a0.2.2.2.1,.bool a0.2.2.2.2.1,No a0.2.2.2.2.2.1,No a0.2.2.2.2.2.2.1,No a0.2.2.2.2.2.2.2.1,No a0.2.2.2.2.2.2.2.2.1,No a0.2.2.2.2.2.2.2.2.2.1,c,d])] func135 Z fun hL=>Av<|C1 (t:=53) Z Z hL fun w1 b1 f ad _=>A4 1 Z<|AN<|AA<|Av<|Ah (Az 0 Z Bp.e f Z)<|Ax h fun x2 y h=>A9 f (BL (a0:=a0) _ _ (Al f) (k.mono  Ai) (m.mono  Ai) (e.mono  Ai) y) fun w3 ah a ae=>A4 1 Z<|Bm h ?_ ?_<;>intro z h
 ·refine Av<|Ah (Af Z Zs Z B6.e)<|Ah (Ag 0 Z a Z)<|Ob [a0.2.2.2.2.2.2.2.2.1] (r:=(.int .i64)) (fun _=>Hw _ _) (Bw 1) hH a (.c1 Z .nil) fun v6 w6 ai j af aa=>A4 1 Z<|Ay<|A1<|AE ?_
  cases h
  refine Ak Z ⟨j.ext,_,Z,((j.Hv hH (i:=0) Z aa).vec hH)⟩
 refine Av<|Ah (Af Z Zs Z B6.e)<|Ah (Ag 0 Z a Z)<|A4 2 Z<|AY h ?_ ?_<;>intro ab h
 ·refine Av<|Ah (Af Z Zs Z D0.e)<|Ah (Ag 0 Z a Z)<|A8 h fun o h=>Lq e o fun aj p=>A4 1 Z<|Ay<|A1<|AE ?_
  cases h
  refine Ak Z ⟨a.ext,_,Z,(p.mono (I1 hH))⟩
 refine Av<|Ah (Af Z Zs Z B6.e)<|Ah (Ag 0 Z a Z)<|A4 2 Z<|AY h ?_ ?_<;>intro q h
 ·refine Av<|Ah (Af Z Zs Z D0.e)<|Ah (Ag 0 Z a Z)<|A4 1 Z<|Ay<|A1<|AE ?_
  cases h
  refine Ak Z ⟨a.ext,_,Z,(e.mono (I1 hH))⟩
 refine Av<|Ah (Af Z Zs Z B6.e)<|Ah (Ag 0 Z a Z)<|A4 2 Z<|AY h ?_ ?_<;>intro s h
 ·refine Av<|Ah (Af Z Zs Z B6.e)<|Ah (Ag 0 Z a Z)<|Ob [a0.2.2.2.2.2.2.2.2.2.1] (r:=(.int .i64)) (fun _=>Hw _ _) (Bw 1) hH a (.c1 Z .nil) fun ak al ag g ac u=>A4 1 Z<|Ay<|A1<|AE ?_
  cases h
  refine Ak Z ⟨g.ext,_,Z,((g.Hv hH (i:=0) Z u).vec hH)⟩
 refine A5<|AB<|A3<|AI 1 Z<|Ay ?_
 cases h
 refine Ak Z ⟨a.ext,_,Z,(AD.nil _ _)⟩
end
def H0(a1:Int):(Nat->Bool)×Int->Option (((Nat->Bool)×Int)⊕((Nat->Bool))):=fun⟨b,a⟩=>
 if a<=a1 then Bi (0<=a/\a<=9223372036854775807/\0<(256:Int)) (Bi (0<=(a % (256:Int))/\(a % (256:Int))<256) (Bi (BX (a+1)) (some (Sum.inl ((JO b ((a % (256:Int)).toNat) true),(a+1))))))else QqD Sum.inr (some b)
def Ih(a1:Int)(s:(Nat->Bool)×Int):Option ((Nat->Bool)):=Go.L.run (H0 a1) s
def LH(a0 a1:Int)(a2:Nat->Bool):Option ((Nat->Bool)):=
 (Ih a1) (a2,a0)
theorem O9{i w:World}{H:PH}(_hH:Le H (hp i)){O:List BS}{a0 a1:Int}{a2:Nat->Bool}{ba2:Nat}(hL:AZ i (Ha [.box ba2 ((JP 256 a2)) 154] O) w){r:(Nat->Bool)}(h:LH a0 a1 a2=some r):
  Ok prog 166 [No a0,No a1,Ze ba2] w (fun v w'=>v=.tuple #[]/\AZ i (Ha [.box ba2 (JP 256 r) 154] O) w'/\Le (fz w (Ha [.box ba2 ((JP 256 a2)) 154] O)) (fz w' (Ha [.box ba2 (JP 256 r) 154] O))):=by
 refine BF (n:=15) [(0,No a0),(1,No a1),(2,(Ze ba2))] func166 Z Z Z Z ?_;have hT:=Le.refl (fz w (Ha [.box ba2 ((JP 256 a2)) 154] O));refine AI 2 Z<|AA ?_;obtain⟨c,h⟩:=Bf h;refine BB ((Nat->Bool)×Int×Nat) (fun⟨b,a,n⟩=>[(1,No a1),(2,(Ze ba2)),(5,No a)]) (fun⟨b,a,n⟩ wr=>DK i (Ha [.box ba2 ((JP 256 b)) 154] O) wr fun Oz=>Le (fz w (Ha [.box ba2 ((JP 256 a2)) 154] O)) (fz wr Oz)/\FX (H0 a1) n (b,a)=some r) (fun⟨b,a,n⟩=>n) (a2,a0,c) Z ⟨hL,hT,h⟩ ?_;rintro⟨b,a,nn12⟩ o ⟨d,hT,h⟩;obtain⟨c,p,rfl,h,e⟩:=Bd h;refine AN<|AI 3 Z<|AY h ?_ ?_<;>intro k h
 ·refine A5<|A3<|AN<|AA<|A2<|Aw 1 Z<|A8 h fun f h=>Ah (Ro Z Z ⟨f.1,f.2.2⟩)<|A8 h fun g h=>Ah (JL Z g Z)<|Lu 0 Z Z d Z (AK g) fun q l j=>AQ<|AB<|A3<|A2<|Aw 1 Z<|A8 h fun m h=>Ah (AH m)<|Aw 1 Z<|AQ ?_;have h:=Ct.again h e;have hT:=hT.trans j;refine AS (_,_,_) ⟨l,hT,h⟩
 refine BA<|AP<|AJ ?_;have h:=Ct.out h e;refine Bu ?_
 cases h
 refine Es ⟨Z,d,hT⟩
def HY(a0:ZJ)(a:Bool):Option ((Nat->Bool)):=
 if a then none else QqB (CT a0) (fun b=>if b then Bi (0<=a0.2.2.2.2.2.2.2.1/\a0.2.2.2.2.2.2.2.1<256) (some ((JO (fun _=>false) a0.2.2.2.2.2.2.2.1.toNat true)))else some ((fun _=>false)))
def Jr(a0:ZJ):Option ((Nat->Bool)):=
 if a0.2.1=1 then Bi (0<=(0:Int)/\(0:Int)<(a0.2.2.1.length:Int)) (Bi (0<=((a0.2.2.1.getD ((0:Int).toNat) Qqf).toNat:Int)/\((a0.2.2.1.getD ((0:Int).toNat) Qqf).toNat:Int)<256) (some ((JO (fun _=>false) (((a0.2.2.1.getD ((0:Int).toNat) Qqf).toNat:Int).toNat) true))))else(if((decide (a0.2.1=2))&&a0.2.2.2.2.1)then Bi (BX (a0.2.2.2.1 - 1)) (Bi (BX (8 * (a0.2.2.2.1 - 1))) (Bi (0<=(8 * (a0.2.2.2.1 - 1))/\(8 * (a0.2.2.2.1 - 1))<=63) (Bi (0<=(8 * (a0.2.2.2.1 - 1))/\(8 * (a0.2.2.2.1 - 1))<=63) (QqB (LH (a0.2.2.2.2.2.1 / 2 ^ (8 * (a0.2.2.2.1 - 1)).toNat) (a0.2.2.2.2.2.2.1 / 2 ^ (8 * (a0.2.2.2.1 - 1)).toNat) (fun _=>false)) (fun a=>some a)))))else(if a0.2.1=2 then none else(if a0.2.1=3 then none else(if a0.2.1=4 then(HY a0) (decide (a0.2.1=4))else(HY a0) ((decide (a0.2.1=5))&&(decide (0<a0.2.2.2.1)))))))
section
variable(w:World)(H:PH)(hH:Le H (hp w)) include hH
theorem PU{a0:ZJ}{e f g:Value}(m:AD .byte H e (a0.2.2.1))(ah:AD .st H f (a0.2.2.2.2.2.2.2.2.2.2.1))(ai:AD (.int .i64) H g (a0.2.2.2.2.2.2.2.2.2.2.2)){r:(Nat->Bool)}(h:Jr a0=some r):
  Zy 134 [.agg #[Zf a0.1,No a0.2.1,e,No a0.2.2.2.1,.bool a0.2.2.2.2.1,No a0.2.2.2.2.2.1,No a0.2.2.2.2.2.2.1,No a0.2.2.2.2.2.2.2.1,No a0.2.2.2.2.2.2.2.2.1,No a0.2.2.2.2.2.2.2.2.2.1,f,g]] w (fun v w'=>v=.agg (JP 256 r).toArray):=by
 refine AL 84 [(0,.agg #[Zf a0.1,No a0.2.1,e,No a0.2.2.2.1,.bool a0.2.2.2.2.1,No a0.2.2.2.2.2.1,No a0.2.2.2.2.2.2.1,No a0.2.2.2.2.2.2.2.1,No a0.2.2.2.2.2.2.2.2.1,No a0.2.2.2.2.2.2.2.2.2.1,f,g])] func134 Z fun hL=>Av<|C1 (t:=53) Z Z hL fun w1 b1 a7 bj _=>AG Gp.e Z a7 ?_;intro w2 b2 ae al _;rw[Px]at ae al;refine Am<|Av<|AG Gp.e Z ae ?_;intro w3 b3 a am _;rw[Px]at a am;refine Am<|AI 2 Z<|AN<|AA<|Av<|Ah (Af Z Zs Z B6.e)<|Ah (Ag 2 Z a Z)<|A4 2 Z<|AY h ?_ ?_<;>intro a9 h
 ·refine A2<|Ah (Af Z Zs Z FJ.e)<|Ah (Ag 2 Z a Z)<|A8 h fun af h=>Bb m ((0:Int).toNat) (Dw af) (AK af) ?_;rintro p6 _ rfl ba;refine Ah (AV ba (hH.trans a.arg))<|A8 h fun ag h=>Ah (JL Z ag Z)<|Lu 0 Z Z a Z (AK ag) fun bm o bb=>AQ<|AB<|A3<|Av<|Ah (Az 0 Z (TM Gp.e) o Z)<|LG 1 Z Z Gp.e o Z fun bn p bc=>Am<|Ay ?_
  cases h
  refine Eo (.cell Z Zt Z (TM Gp.e) (B0 (i:=1) p Z)) ⟨p.ext,Z⟩
 refine Av<|Ah (Af Z Zs Z B6.e)<|Ah (Ag 2 Z a Z)<|Aw 2 Z<|BU 3 23 (.bool ((decide (a0.2.1=2))&&a0.2.2.2.2.1)) (fun u=>?_) ?_
 ·refine Bl (s:=20) Z (fun c=>?_) (fun c=>?_)
  ·refine Aa c<|Ah (Af Z Zs Z Fa.e)<|Aa c<|Ah (Ag 2 Z a Z)<|Ah (Aj c Z)<|u.to 2 (FH c) Z Z
  iterate 2 refine Ac c ?_
  refine Ah (An c Z)<|u.to 2 (FI c) Z Z
 refine A4 1 Z<|Bm h ?_ ?_<;>intro an h
 ·refine Av<|Ah (Af Z Zs Z B6.e)<|Ah (Ag 2 Z a Z)<|A8 h fun ao h=>Ah (AH ao)<|A8 h fun ap h=>Ah (AH ap)<|A4 1 Z<|L8 (ZX 0 9 (.tail 9)) mixed V (fun bo aq=>?_);have k:=a.call aq;refine BW 1 Z<|B9 Z (Af Z Zs Z B6.e) Z<|B9 Z (Ag 2 Z k Z) Z<|BW 1 Z<|A8 h fun ar h=>B9 Z (RV Z ar) Z<|B9 Z (Af Z Zs Z B6.e) Z<|B9 Z (Ag 2 Z k Z) Z<|BW 1 Z<|A8 h fun au h=>B9 Z (RV Z au) Z<|BM (fun bp av=>?_);have aw:=k.call av;refine Ax h fun bq ax h=>?_
  refine BD Z Z (O9 (a0:=(a0.2.2.2.2.2.1 / 2 ^ (8 * (a0.2.2.2.1 - 1)).toNat)) (a1:=(a0.2.2.2.2.2.2.1 / 2 ^ (8 * (a0.2.2.2.1 - 1)).toNat)) (a2:=(fun _=>false)) (O:=[.box b2 ((JP 256 (fun _=>false))) 154,.box b1 [Zf a0.1,No a0.2.1,e,No a0.2.2.2.1,.bool a0.2.2.2.2.1,No a0.2.2.2.2.2.1,No a0.2.2.2.2.2.2.1,No a0.2.2.2.2.2.2.2.1,No a0.2.2.2.2.2.2.2.2.1,No a0.2.2.2.2.2.2.2.2.2.1,f,g] 53]) hH aw ax) ?_;rintro _ br ⟨rfl,x,bd⟩;refine AQ<|AB<|A3<|Av<|Ah (Az 0 Z (TM Gp.e) x Z)<|LG 1 Z Z Gp.e x Z fun bs y be=>Am<|Ay ?_
  cases h
  refine Eo (.cell Z Zt Z (TM Gp.e) (B0 (i:=1) y Z)) ⟨y.ext,Z⟩
 refine Av<|Ah (Af Z Zs Z B6.e)<|Ah (Ag 2 Z a Z)<|A4 2 Z<|AY h ?_ ?_<;>intro ay h
 ·cases h
 refine Av<|Ah (Af Z Zs Z B6.e)<|Ah (Ag 2 Z a Z)<|A4 2 Z<|AY h ?_ ?_<;>intro az h
 ·cases h
 refine Bs Bool (fun d=>[(1,(Ze b1)),(2,(Ze b2)),(3,(Ze b3)),(63,.bool d)]) (fun d wr=>AZ w [.box b3 ((JP 256 (fun _=>false))) 154,.box b2 ((JP 256 (fun _=>false))) 154,.box b1 [Zf a0.1,No a0.2.1,e,No a0.2.2.2.1,.bool a0.2.2.2.2.1,No a0.2.2.2.2.2.1,No a0.2.2.2.2.2.2.1,No a0.2.2.2.2.2.2.2.1,No a0.2.2.2.2.2.2.2.2.1,No a0.2.2.2.2.2.2.2.2.2.1,f,g] 53] wr/\(HY a0) d=some r) ?_ ?_
 ·refine Av<|Ah (Af Z Zs Z B6.e)<|Ah (Ag 2 Z a Z)<|A4 2 Z<|AY h ?_ ?_<;>intro a3 h
  ·refine A5<|A7 _ ⟨a,h⟩
  refine A2<|Ah (Af Z Zs Z B6.e)<|Ah (Ag 2 Z a Z)<|Aw 2 Z<|BU 4 74 (.bool ((decide (a0.2.1=5))&&(decide (0<a0.2.2.2.1)))) (fun z=>?_) ?_
  ·refine Bl (s:=70) Z (fun b=>?_) (fun b=>?_)
   ·refine Aa b<|Ah (Af Z Zs Z B6.e)<|Aa b<|Ah (Ag 2 Z a Z)<|Aa b<|Ah (Ad Z)<|Ah (Aj b Z)<|z.to 3 (FH b) Z Z
   iterate 3 refine Ac b ?_
   refine Ah (An b Z)<|z.to 3 (FI b) Z Z
  refine Aw 1 Z<|AQ<|A7 _ ⟨a,h⟩
 rintro d bk ⟨l,h⟩;refine Bm h ?_ ?_<;>intro a4 h
 ·cases h
 refine Av<|Ah (Az 2 Z Bp.e l Z)<|Ax h fun bt a5 h=>A9 l (Gu (a0:=a0) _ _ (Al l) (m.mono  Ai) (ah.mono  Ai) (ai.mono  Ai) a5) fun bu bl j bf=>A4 1 Z<|Bm h ?_ ?_<;>intro a6 h
 ·refine A2<|Ah (Af Z Zs Z B6.e)<|Ah (Ag 2 Z j Z)<|A8 h fun aa h=>Ah (JL Z aa Z)<|Lu 0 Z Z j Z (AK aa) fun bv ab bg=>AQ<|AB<|A3<|Av<|Ah (Az 0 Z (TM Gp.e) ab Z)<|LG 1 Z Z Gp.e ab Z fun bw ac bh=>Am<|Ay ?_
  cases h
  refine Eo (.cell Z Zt Z (TM Gp.e) (B0 (i:=1) ac Z)) ⟨ac.ext,Z⟩
 refine A5<|AB<|A3<|Av<|Ah (Az 0 Z (TM Gp.e) j Z)<|LG 1 Z Z Gp.e j Z fun bx ad bi=>Am<|Ay ?_
 cases h
 refine Eo (.cell Z Zt Z (TM Gp.e) (B0 (i:=1) ad Z)) ⟨ad.ext,Z⟩
def I4(a:Int)(b:Nat->Bool):Option (((Nat->Bool)×Int)⊕(Bool)):=
 Bi (BX (a+1)) (some (Sum.inl (b,(a+1))))
def EI(a0:ZJ)(a1:List (Nat->Bool))(b:Int):(Nat->Bool)×Int->Option (((Nat->Bool)×Int)⊕(((Nat->Bool)×Int)⊕(Bool))):=fun⟨c,a⟩=>
 if a<256 then Bi (0<=a/\a<256) (if((a1.getD ((a0.2.2.2.2.2.2.2.2.2.2.2.getD b.toNat Qqf).toNat) Qqf) a.toNat)then Bi (0<=a/\a<256) (if(c a.toNat)then none else Bi (0<=a/\a<256) (Bi (0<=a/\a<256) (Bi (BX (a+1)) (some (Sum.inl ((JO c a.toNat (bif (c a.toNat)then true else((a1.getD ((a0.2.2.2.2.2.2.2.2.2.2.2.getD b.toNat Qqf).toNat) Qqf) a.toNat))),(a+1)))))))else Bi (0<=a/\a<256) (Bi (0<=a/\a<256) (Bi (BX (a+1)) (some (Sum.inl ((JO c a.toNat (bif (c a.toNat)then true else((a1.getD ((a0.2.2.2.2.2.2.2.2.2.2.2.getD b.toNat Qqf).toNat) Qqf) a.toNat))),(a+1)))))))else QqD Sum.inr ((I4 b) c)
def KA(a0:ZJ)(a1:List (Nat->Bool))(a:Int)(s:(Nat->Bool)×Int):Option (((Nat->Bool)×Int)⊕(Bool)):=Go.L.run (EI a0 a1 a) s
def Gv:Option Bool:=
 some false
def FZ(a0:ZJ)(a1:List (Nat->Bool)):(Nat->Bool)×Int->Option (((Nat->Bool)×Int)⊕(Bool)):=fun⟨b,a⟩=>
 if a<(a0.2.2.2.2.2.2.2.2.2.2.2.length:Int)then Bi (0<=a/\a<(a0.2.2.2.2.2.2.2.2.2.2.2.length:Int)) (Bi (0<=a0.2.2.2.2.2.2.2.2.2.2.2.getD a.toNat Qqf/\a0.2.2.2.2.2.2.2.2.2.2.2.getD a.toNat Qqf<(a1.length:Int)) ((KA a0 a1 a) (b,0)))else QqD Sum.inr Gv
def Gw(a0:ZJ)(a1:List (Nat->Bool))(s:(Nat->Bool)×Int):Option Bool:=Go.L.run (FZ a0 a1) s
def Ii(a0:ZJ)(a1:List (Nat->Bool)):Option Bool:=
 if a0.2.1=9 then Bi (0<=a0.2.2.2.2.2.2.2.2.2.1/\a0.2.2.2.2.2.2.2.2.2.1<(a1.length:Int)) (Bi (0<=a0.2.2.2.2.2.2.2.1/\a0.2.2.2.2.2.2.2.1<256) (some (((a1.getD a0.2.2.2.2.2.2.2.2.2.1.toNat Qqf) a0.2.2.2.2.2.2.2.1.toNat))))else(if a0.2.1=8 then(Gw a0 a1) ((fun _=>false),0)else Gv)
theorem Nr{a0:ZJ}{a1:List (Nat->Bool)}{g j c k:Value}(_h0_0:AD .byte H g (a0.2.2.1))(_h0_1:AD .st H j (a0.2.2.2.2.2.2.2.2.2.2.1))(am:AD (.int .i64) H c (a0.2.2.2.2.2.2.2.2.2.2.2))(an:AD (.bb 256) H k a1){r:Bool}(h:Ii a0 a1=some r):
  Zy 130 [.agg #[Zf a0.1,No a0.2.1,g,No a0.2.2.2.1,.bool a0.2.2.2.2.1,No a0.2.2.2.2.2.1,No a0.2.2.2.2.2.2.1,No a0.2.2.2.2.2.2.2.1,No a0.2.2.2.2.2.2.2.2.1,No a0.2.2.2.2.2.2.2.2.2.1,j,c],k] w (fun v w'=>v=.bool r):=by
 refine AL 55 [(0,.agg #[Zf a0.1,No a0.2.1,g,No a0.2.2.2.1,.bool a0.2.2.2.2.1,No a0.2.2.2.2.2.1,No a0.2.2.2.2.2.2.1,No a0.2.2.2.2.2.2.2.1,No a0.2.2.2.2.2.2.2.2.1,No a0.2.2.2.2.2.2.2.2.2.1,j,c]),(1,k)] func130 Z fun hL=>Av<|C1 (t:=53) Z Z hL fun w1 b1 aa bl _=>A4 1 Z<|Bs Unit (fun(_:Unit)=>[]) (fun(_:Unit) wr=>AZ w [.box b1 [Zf a0.1,No a0.2.1,g,No a0.2.2.2.1,.bool a0.2.2.2.2.1,No a0.2.2.2.2.2.1,No a0.2.2.2.2.2.2.1,No a0.2.2.2.2.2.2.2.1,No a0.2.2.2.2.2.2.2.2.1,No a0.2.2.2.2.2.2.2.2.2.1,j,c] 53] wr/\Gv=some r) ?_ ?_
 ·refine Av<|Ah (Af Z Zs Z B6.e)<|Ah (Ag 0 Z aa Z)<|Am<|AA<|AI 2 Z<|AY h ?_ ?_<;>intro ar h
  ·refine Dq (ZX 0 9 (.tail 9)) mixed V (fun bm au=>?_);have o:=aa.call au;refine BW 1 Z<|B9 Z (Af Z Zs Z B6.e) Z<|B9 Z (Ag 0 Z o Z) Z<|B9 Z (Af Z Zs Z B6.e) Z<|B9 Z (Ag 0 Z o Z) Z<|A8 h fun ab h=>DJ Z Z Z Zu an a0.2.2.2.2.2.2.2.2.2.1.toNat (Dw ab) (AK ab) Z ?_;rintro bn _ rfl ac;refine A8 h fun ad h=>B9 Z (ME ad Z ac.1) Z<|B9 Z (R2 ac (AK ad) (hH.trans o.arg)) Z<|BW 1 Z<|BM (fun bo av=>?_);have aw:=o.call av;refine Am<|Ay<|A1<|BC ?_
   cases h
   refine Ak Z ⟨aw.ext,Z⟩
  refine AI 2 Z<|AY h ?_ ?_<;>intro ax h
  ·refine Av<|AG Gp.e Z aa ?_;intro bp l u ao _;rw[Px]at u ao;refine Am<|Av<|Ah (Af Z Zs Z D0.e)<|Ah (Ag 1 Z u Z)<|Ah (AX am)<|A4 1 Z<|AA ?_;obtain⟨z,h⟩:=Bf h;refine BB ((Nat->Bool)×Int×Nat) (fun⟨m,a,n⟩=>[(1,k),(5,(Ze l)),(25,c),(26,No (a0.2.2.2.2.2.2.2.2.2.2.2.length:Int)),(27,No a)]) (fun⟨m,a,n⟩ wr=>AZ w [.box l ((JP 256 m)) 154,.box b1 [Zf a0.1,No a0.2.1,g,No a0.2.2.2.1,.bool a0.2.2.2.2.1,No a0.2.2.2.2.2.1,No a0.2.2.2.2.2.2.1,No a0.2.2.2.2.2.2.2.1,No a0.2.2.2.2.2.2.2.2.1,No a0.2.2.2.2.2.2.2.2.2.1,j,c] 53] wr/\FX (FZ a0 a1) n (m,a)=some r) (fun⟨m,a,n⟩=>n) ((fun _=>false),0,z) Z ⟨u,h⟩ ?_;rintro⟨m,a,nn227⟩ bh ⟨p,h⟩;obtain⟨z,ap,rfl,h,ae⟩:=Bd h;refine AI 1 Z<|AN<|AY h ?_ ?_<;>intro ay h
   ·refine A5<|A3<|Bs (Nat->Bool) (fun s=>[(1,k),(5,(Ze l)),(25,c),(26,No (a0.2.2.2.2.2.2.2.2.2.2.2.length:Int)),(27,No a)]) (fun s wr=>AZ w [.box l ((JP 256 s)) 154,.box b1 [Zf a0.1,No a0.2.1,g,No a0.2.2.2.1,.bool a0.2.2.2.2.1,No a0.2.2.2.2.2.1,No a0.2.2.2.2.2.2.1,No a0.2.2.2.2.2.2.2.1,No a0.2.2.2.2.2.2.2.2.1,No a0.2.2.2.2.2.2.2.2.2.1,j,c] 53] wr/\(I4 a) s=some ap) ?_ ?_
    ·refine AA<|Av<|A8 h fun af h=>Bb am a.toNat (Dw af) (AK af) ?_;rintro bq _ rfl az;refine Ah (AV az (hH.trans p.arg))<|A4 1 Z<|BN 2 Z<|A8 h fun ag h=>Bb an ((a0.2.2.2.2.2.2.2.2.2.2.2.getD a.toNat Qqf).toNat) (Dw ag) (AK ag) ?_;rintro br _ rfl a2;refine Ah (Cq (hz:=⟨(TM Gp.e)⟩) a2 (hH.trans p.arg))<|A4 1 Z<|AA ?_;obtain⟨x,h⟩:=Bf h
     refine BB ((Nat->Bool)×Int×Nat) (fun⟨d,b,n⟩=>[(1,k),(5,(Ze l)),(25,c),(26,No (a0.2.2.2.2.2.2.2.2.2.2.2.length:Int)),(27,No a),(34,.agg (JP 256 (a1.getD ((a0.2.2.2.2.2.2.2.2.2.2.2.getD a.toNat Qqf).toNat) Qqf)).toArray),(35,No b)]) (fun⟨d,b,n⟩ wr=>AZ w [.box l ((JP 256 d)) 154,.box b1 [Zf a0.1,No a0.2.1,g,No a0.2.2.2.1,.bool a0.2.2.2.2.1,No a0.2.2.2.2.2.1,No a0.2.2.2.2.2.2.1,No a0.2.2.2.2.2.2.2.1,No a0.2.2.2.2.2.2.2.2.1,No a0.2.2.2.2.2.2.2.2.2.1,j,c] 53] wr/\FX (EI a0 a1 a) n (d,b)=some ap) (fun⟨d,b,n⟩=>n) (m,0,x) Z ⟨p,h⟩ ?_;rintro⟨d,b,nn322⟩ bi ⟨f,h⟩;obtain⟨x,bs,rfl,h,y⟩:=Bd h;refine AI 1 Z<|AN<|AY h ?_ ?_<;>intro a3 h
     ·refine A5<|A3<|AN<|AA<|BN 1 Z<|A8 h fun a4 h=>Ah (Pz Z a4 Z)<|A4 2 Z<|AN<|BN 2 Z<|Bj 40 h ?_ ?_<;>intro e h
      ·refine Aa e<|Ah (Ad Z)<|Aa e<|A8 h fun ah h=>Ah (JL Z ah Z)<|Aa e<|Ah (Py 0 Z f Z (AK ah))<|Ah (Aj e Z)<|Am<|Bm h ?_ ?_<;>intro a5 h
       ·cases h
       refine A5<|A3<|A2<|Aw 2 Z<|A8 h fun ai h=>Ah (JL Z ai Z)<|Ah (Py 0 Z f Z (AK ai))<|Aw 1 Z<|L3 1 4 Z Z Z Z Z Z Z<|A8 h fun aj h=>Ah (JL Z aj Z)<|Lu 0 Z Z f Z (AK aj) fun bt a6 bf=>AQ<|AB<|A3<|A2<|A8 h fun a7 h=>Ah (AH a7)<|Aw 1 Z<|AQ ?_;have h:=Ct.again h y;refine AS (_,_,_) ⟨a6,h⟩
      iterate 3 refine Ac e ?_
      refine Ah (An e Z)<|Am<|Ht<|A5<|A3<|A2<|Aw 2 Z<|A8 h fun ak h=>Ah (JL Z ak Z)<|Ah (Py 0 Z f Z (AK ak))<|Aw 1 Z<|L3 1 4 Z Z Z Z Z Z Z<|A8 h fun al h=>Ah (JL Z al Z)<|Lu 0 Z Z f Z (AK al) fun bu a8 bg=>AQ<|AB<|A3<|A2<|A8 h fun a9 h=>Ah (AH a9)<|Aw 1 Z<|AQ ?_;have h:=Ct.again h y;refine AS (_,_,_) ⟨a8,h⟩
     refine BA<|AP<|AJ ?_;have h:=Ct.out h y;refine Bu<|AB<|A7 _ ⟨f,h⟩
    rintro s bj ⟨ba,h⟩;refine A2<|A8 h fun bc h=>Ah (AH bc)<|Aw 1 Z<|AQ ?_;have h:=Ct.again h ae;refine AS (_,_,_) ⟨ba,h⟩
   refine BA<|AP<|AJ ?_;have h:=Ct.out h ae;refine Bu<|AB ?_;have bd:=p.AM (i:=0) Z;refine A7 () ⟨bd,h⟩
  refine A5<|AB<|A7 () ⟨aa,h⟩
 rintro _ bk ⟨be,h⟩;refine AI 1 Z<|Ay ?_
 cases h
 refine Ak Z ⟨be.ext,Z⟩
def Js(a:List (Nat->Bool)):Option ((List (Nat->Bool))):=
 some a
def Jt(a:Int)(b:List (Nat->Bool)):Option (((List (Nat->Bool))×Int)⊕((List (Nat->Bool)))):=
 Bi (BX (a+1)) (some (Sum.inl (b,(a+1))))
def Ju(a:Int)(b:List (Nat->Bool)):Option (((List (Nat->Bool))×Int)⊕(((List (Nat->Bool))×Int)⊕((List (Nat->Bool))))):=
 Bi (BX (a+1)) (some (Sum.inl (b,(a+1))))
def Jv(a:Int)(b:List (Nat->Bool)):Option (((List (Nat->Bool))×Int)⊕(((List (Nat->Bool))×Int)⊕(((List (Nat->Bool))×Int)⊕((List (Nat->Bool)))))):=
 Bi (BX (a+1)) (some (Sum.inl (b,(a+1))))
def Ff(e:List (Nat->Bool))(b d:Int)(f:QqX):(List (Nat->Bool))×Int->Option (((List (Nat->Bool))×Int)⊕(((List (Nat->Bool))×Int)⊕(((List (Nat->Bool))×Int)⊕(((List (Nat->Bool))×Int)⊕((List (Nat->Bool))))))):=fun⟨c,a⟩=>
 if a<256 then Bi (0<=a/\a<256) (Bi (0<=b/\b<(c.length:Int)) (Bi (0<=a/\a<256) (if((c.getD b.toNat Qqf) a.toNat)then Bi (0<=b/\b<(c.length:Int)) (Bi (0<=a/\a<256) (Bi (BX (a+1)) (some (Sum.inl ((c.set b.toNat (JO (c.getD b.toNat Qqf) a.toNat true)),(a+1))))))else Bi (0<=b/\b<(c.length:Int)) (Bi (0<=a/\a<256) (Bi (BX (a+1)) (some (Sum.inl ((c.set b.toNat (JO (c.getD b.toNat Qqf) a.toNat ((e.getD ((f.getD d.toNat Qqf).toNat) Qqf) a.toNat))),(a+1)))))))))else QqD Sum.inr ((Jv d) c)
def KV(c:List (Nat->Bool))(a b:Int)(d:QqX)(s:(List (Nat->Bool))×Int):Option (((List (Nat->Bool))×Int)⊕(((List (Nat->Bool))×Int)⊕(((List (Nat->Bool))×Int)⊕((List (Nat->Bool)))))):=Go.L.run (Ff c a b d) s
def GL(d:Int)(b:QqX):(List (Nat->Bool))×Int->Option (((List (Nat->Bool))×Int)⊕(((List (Nat->Bool))×Int)⊕(((List (Nat->Bool))×Int)⊕((List (Nat->Bool)))))):=fun⟨c,a⟩=>
 if a<(b.length:Int)then Bi (0<=a/\a<(b.length:Int)) (Bi (0<=b.getD a.toNat Qqf/\b.getD a.toNat Qqf<(c.length:Int)) ((KV c d a b) (c,0)))else QqD Sum.inr ((Ju d) c)
def H2(a:Int)(b:QqX)(s:(List (Nat->Bool))×Int):Option (((List (Nat->Bool))×Int)⊕(((List (Nat->Bool))×Int)⊕((List (Nat->Bool))))):=Go.L.run (GL a b) s
def GM(a0:(List ZJ))(b:Int):(List (Nat->Bool))×Int->Option (((List (Nat->Bool))×Int)⊕(((List (Nat->Bool))×Int)⊕((List (Nat->Bool))))):=fun⟨c,a⟩=>
 if a<(a0.length:Int)then Bi (0<=a/\a<(a0.length:Int)) (QqB (Dt (a0.getD a.toNat Qqf)) (fun d=>(H2 a d) (c,0)))else QqD Sum.inr ((Jt b) c)
def H3(a0:(List ZJ))(a:Int)(s:(List (Nat->Bool))×Int):Option (((List (Nat->Bool))×Int)⊕((List (Nat->Bool)))):=Go.L.run (GM a0 a) s
def GN(a0:(List ZJ)):(List (Nat->Bool))×Int->Option (((List (Nat->Bool))×Int)⊕((List (Nat->Bool)))):=fun⟨b,a⟩=>
 if a<(a0.length:Int)then(H3 a0 a) (b,0)else QqD Sum.inr (Js b)
def H4(a0:(List ZJ))(s:(List (Nat->Bool))×Int):Option ((List (Nat->Bool))):=Go.L.run (GN a0) s
def Jw(a0:(List ZJ))(a:List (Nat->Bool)):Option ((List (Nat->Bool))):=
 (H4 a0) (a,0)
def GO(a0:(List ZJ)):(List (Nat->Bool))×Int->Option (((List (Nat->Bool))×Int)⊕((List (Nat->Bool)))):=fun⟨b,a⟩=>
 if a<(a0.length:Int)then Bi (0<=a/\a<(a0.length:Int)) (QqB (Jr (a0.getD a.toNat Qqf)) (fun c=>Bi (Go.E.Gg 256 (b.length+([c]).length)) (Bi (BX (a+1)) (some (Sum.inl ((b++[c]),(a+1)))))))else QqD Sum.inr ((Jw a0) b)
def H5(a0:(List ZJ))(s:(List (Nat->Bool))×Int):Option ((List (Nat->Bool))):=Go.L.run (GO a0) s
def HZ(a0:(List ZJ)):Option ((List (Nat->Bool))):=
 (H5 a0) (([]:List (Nat->Bool)),0)
theorem Lv{a0:(List ZJ)}{f:Value}(a2:AD ZR H f a0){r:(List (Nat->Bool))}(h:HZ a0=some r):
  Zy 98 [.agg #[f]] w (fun v w'=>∃u0,v=u0/\CE 154 (.bb 256) H w w' u0 r):=by
 refine AL 72 [(0,.agg #[f])] func98 Z fun hL=>Av<|C1 (t:=25) Z Z hL fun w1 b1 d1 es _=>A4 1 Z<|BN 1 Z ?_;obtain⟨dm,et,d2⟩:=CH (.bb 256) H 154 d1;refine Am<|Bs ((List (Nat->Bool))×Value×QqK) (fun⟨bf,e,aq⟩=>[(1,(Ze b1)),(3,e)]) (fun⟨bf,e,aq⟩ wr=>DK w [.row e 154 256 (bf).length aq,.box b1 [f] 25] wr fun Oz=>A6 (.bb 256) (gz H w wr Oz) bf aq/\(Jw a0) bf=some r) ?_ ?_
 ·refine Av<|Ah (Af Z Zv Z Hg.e)<|Ah (Ag 1 Z dm Z)<|Ah (AX a2)<|A4 1 Z<|AA ?_;obtain⟨cn,h⟩:=Bf h;refine BB ((List (Nat->Bool))×Int×Value×QqK×Nat) (fun⟨ar,aa,ax,al,n⟩=>[(1,(Ze b1)),(3,ax),(13,f),(14,No (a0.length:Int)),(15,No aa)]) (fun⟨ar,aa,ax,al,n⟩ wr=>DK w [.row ax 154 256 (ar).length al,.box b1 [f] 25] wr fun Oz=>A6 (.bb 256) (gz H w wr Oz) ar al/\FX (GO a0) n (ar,aa)=some r) (fun⟨ar,aa,ax,al,n⟩=>n) (([]:List (Nat->Bool)),0,Zd,[],cn) Z ⟨dm,d2,h⟩ ?_;rintro⟨ar,aa,ax,al,nn53⟩ eu ⟨b7,az,h⟩;obtain⟨cn,ey,rfl,h,co⟩:=Bd h;refine AI 1 Z<|AN<|AY h ?_ ?_<;>intro dn h
  ·refine A5<|A3<|AN<|AA<|Av<|A8 h fun cp h=>Bb a2 aa.toNat (Dw cp) (AK cp) ?_;rintro ez _ ⟨_,_,rfl,rfl,⟨_,_,rfl,rfl,⟨_,_,rfl,⟨e57v2,rfl,e57h2⟩,⟨_,_,rfl,rfl,⟨_,_,rfl,rfl,⟨_,_,rfl,rfl,⟨_,_,rfl,rfl,⟨_,_,rfl,rfl,⟨_,_,rfl,rfl,⟨_,_,rfl,rfl,⟨_,_,rfl,⟨e57v10,rfl,e57h10⟩,⟨e57v11,rfl,e57h11⟩⟩⟩⟩⟩⟩⟩⟩⟩⟩⟩⟩ dp;refine Ah (Cq dp (hH.trans b7.arg))<|AG Bp.e Z b7 fun e0 e1 dq dh _=>Ar 0 Z dq Z (a:=(Be Z (Be Z (Be e57h2.one (TL 7 Z (Be e57h10.one (Be e57h11.one Gr))))))) fun e2 b8 di=>Am<|A2<|Aw 1 Z<|Ah (Az 0 Z Bp.e b8 Z)<|Ax h fun cc dr h=>A9 b8 (PU (a0:=(a0.getD aa.toNat Qqf)) _ _ (Al b8) (e57h2.mono  Ai) (e57h10.mono  Ai) (e57h11.mono  Ai) dr) fun e3 ev ds dj=>Br [cc] (r:=(.bb 256)) (hr:=(fun _=>U0 _ _)) (Bw 1) ds (T3 _ 256 cc) fun e4 e5 ew dt dk du=>A8 h fun dv h=>?_;have az:=az.mono (Ab (dh.trans (di.trans (dj.trans dk))))
   refine Ca (r:=(.bb 256)) 1 ar [cc] Z Zu dt Z az du dv fun d3 e6 dw dx eb b9=>Aw 1 Z<|AQ<|AB<|A3<|A2<|A8 h fun dy h=>Ah (AH dy)<|Aw 1 Z<|AQ ?_;have dz:=dx.AM (i:=0) Z;have h:=Ct.again h co;have b9:=b9.mono (Ab (Ae (i:=0) Z));refine AS (_,_,_,_,_) ⟨dz,b9,h⟩
  refine BA<|AP<|AJ ?_;have h:=Ct.out h co;refine Bu<|A7 (_,_,_) ⟨b7,az,h⟩
 rintro⟨bf,e,aq⟩ ex ⟨cq,dl,h⟩;refine Bs ((List (Nat->Bool))×QqK) (fun⟨a3,au⟩=>[(3,e)]) (fun⟨a3,au⟩ wr=>DK w [.row e 154 256 (a3).length au,.box b1 [f] 25] wr fun Oz=>A6 (.bb 256) (gz H w wr Oz) a3 au/\Js a3=some r) ?_ ?_
 ·refine Av<|Ah (Af Z Zv Z Hg.e)<|Ah (Ag 1 Z cq Z)<|Ah (AX a2)<|A4 1 Z<|AA ?_;obtain⟨bl,h⟩:=Bf h;refine BB ((List (Nat->Bool))×Int×QqK×Nat) (fun⟨ae,d,x,n⟩=>[(1,(Ze b1)),(3,e),(27,No (a0.length:Int)),(28,No d)]) (fun⟨ae,d,x,n⟩ wr=>DK w [.row e 154 256 (ae).length x,.box b1 [f] 25] wr fun Oz=>A6 (.bb 256) (gz H w wr Oz) ae x/\FX (GN a0) n (ae,d)=some r) (fun⟨ae,d,x,n⟩=>n) (bf,0,aq,bl) Z ⟨cq,dl,h⟩ ?_;rintro⟨ae,d,x,nn1071⟩ d4 ⟨a4,bg,h⟩;obtain⟨bl,cd,rfl,h,bp⟩:=Bd h;refine AI 1 Z<|AN<|AY h ?_ ?_<;>intro cr h
  ·refine A5<|A3<|Bs ((List (Nat->Bool))×QqK) (fun⟨am,ag⟩=>[(1,(Ze b1)),(3,e),(27,No (a0.length:Int)),(28,No d)]) (fun⟨am,ag⟩ wr=>DK w [.row e 154 256 (am).length ag,.box b1 [f] 25] wr fun Oz=>A6 (.bb 256) (gz H w wr Oz) am ag/\(Jt d) am=some cd) ?_ ?_
   ·refine AA<|Av<|Ah (Af Z Zv Z Hg.e)<|Ah (Ag 1 Z a4 Z)<|Ah (AX a2)<|A4 1 Z<|AA ?_;obtain⟨bm,h⟩:=Bf h;refine BB ((List (Nat->Bool))×Int×QqK×Nat) (fun⟨af,a,y,n⟩=>[(1,(Ze b1)),(3,e),(27,No (a0.length:Int)),(28,No d),(31,f),(32,No (a0.length:Int)),(33,No a)]) (fun⟨af,a,y,n⟩ wr=>DK w [.row e 154 256 (af).length y,.box b1 [f] 25] wr fun Oz=>A6 (.bb 256) (gz H w wr Oz) af y/\FX (GM a0 d) n (af,a)=some cd) (fun⟨af,a,y,n⟩=>n) (ae,0,x,bm) Z ⟨a4,bg,h⟩ ?_;rintro⟨af,a,y,nn1566⟩ d5 ⟨a5,an,h⟩;obtain⟨bm,ce,rfl,h,bq⟩:=Bd h;refine AI 1 Z<|AN<|AY h ?_ ?_<;>intro cs h
    ·refine A5<|A3<|Bs ((List (Nat->Bool))×QqK) (fun⟨ao,ah⟩=>[(1,(Ze b1)),(3,e),(27,No (a0.length:Int)),(28,No d),(31,f),(32,No (a0.length:Int)),(33,No a)]) (fun⟨ao,ah⟩ wr=>DK w [.row e 154 256 (ao).length ah,.box b1 [f] 25] wr fun Oz=>A6 (.bb 256) (gz H w wr Oz) ao ah/\(Ju a) ao=some ce) ?_ ?_
     ·refine AA<|BN 1 Z<|A8 h fun br h=>Bb a2 a.toNat (Dw br) (AK br) ?_;rintro ec _ ⟨_,_,rfl,rfl,⟨_,_,rfl,rfl,⟨_,_,rfl,⟨e1728v2,rfl,e1728h2⟩,⟨_,_,rfl,rfl,⟨_,_,rfl,rfl,⟨_,_,rfl,rfl,⟨_,_,rfl,rfl,⟨_,_,rfl,rfl,⟨_,_,rfl,rfl,⟨_,_,rfl,rfl,⟨_,_,rfl,⟨e1728v10,rfl,e1728h10⟩,⟨e1728v11,rfl,e1728h11⟩⟩⟩⟩⟩⟩⟩⟩⟩⟩⟩⟩ ct;refine Ah (Cq ct (hH.trans a5.arg))<|AG Bp.e Z a5 fun ed bn cu ch _=>Aw 1 Z<|Ar 0 Z cu Z (a:=(Be Z (Be Z (Be e1728h2.one (TL 7 Z (Be e1728h10.one (Be e1728h11.one Gr))))))) fun ee av ci=>Am<|Av<|Ah (Az 0 Z Bp.e av Z)<|Ax h fun j cv h=>Bh av (Jq (a0:=(a0.getD a.toNat Qqf)) _ _ (Al av) (e1728h2.mono  Ai) (e1728h10.mono  Ai) (e1728h11.mono  Ai) cv) ?_;rintro ab ef ⟨_,rfl,ca⟩ cw cx cj;have a6:=ca.mono (B8 av cw);refine Ah (AX a6)<|A4 1 Z<|AA ?_;obtain⟨bo,h⟩:=Bf h;have an:=an.mono (Ab (ch.trans (ci.trans cj)))
      refine BB ((List (Nat->Bool))×Int×QqK×Nat) (fun⟨k,b,z,n⟩=>[(1,(Ze b1)),(3,e),(6,No a),(27,No (a0.length:Int)),(28,No d),(31,f),(32,No (a0.length:Int)),(33,No a),(39,ab),(40,No (j.length:Int)),(41,No b)]) (fun⟨k,b,z,n⟩ wr=>DK w [.box bn [.string ⟨((a0.getD a.toNat Qqf).1).toArray⟩,No ((a0.getD a.toNat Qqf).2.1),e1728v2,No ((a0.getD a.toNat Qqf).2.2.2.1),.bool ((a0.getD a.toNat Qqf).2.2.2.2.1),No ((a0.getD a.toNat Qqf).2.2.2.2.2.1),No ((a0.getD a.toNat Qqf).2.2.2.2.2.2.1),No ((a0.getD a.toNat Qqf).2.2.2.2.2.2.2.1),No ((a0.getD a.toNat Qqf).2.2.2.2.2.2.2.2.1),No ((a0.getD a.toNat Qqf).2.2.2.2.2.2.2.2.2.1),e1728v10,e1728v11] 53,.row e 154 256 (k).length z,.box b1 [f] 25] wr fun Oz=>AD (.int .i64) (gz H w wr Oz) ab j/\A6 (.bb 256) (gz H w wr Oz) k z/\FX (GL a j) n (k,b)=some ce) (fun⟨k,b,z,n⟩=>n) (af,0,y,bo) Z ⟨cx,a6,an,h⟩ ?_;rintro⟨k,b,z,nn1809⟩ d6 ⟨aw,a7,ai,h⟩
      obtain⟨bo,cf,rfl,h,bs⟩:=Bd h;refine AI 1 Z<|AN<|AY h ?_ ?_<;>intro cy h
      ·refine A5<|A3<|Bs ((List (Nat->Bool))×QqK) (fun⟨ap,aj⟩=>[(1,(Ze b1)),(3,e),(6,No a),(27,No (a0.length:Int)),(28,No d),(31,f),(32,No (a0.length:Int)),(33,No a),(39,ab),(40,No (j.length:Int)),(41,No b)]) (fun⟨ap,aj⟩ wr=>DK w [.box bn [.string ⟨((a0.getD a.toNat Qqf).1).toArray⟩,No ((a0.getD a.toNat Qqf).2.1),e1728v2,No ((a0.getD a.toNat Qqf).2.2.2.1),.bool ((a0.getD a.toNat Qqf).2.2.2.2.1),No ((a0.getD a.toNat Qqf).2.2.2.2.2.1),No ((a0.getD a.toNat Qqf).2.2.2.2.2.2.1),No ((a0.getD a.toNat Qqf).2.2.2.2.2.2.2.1),No ((a0.getD a.toNat Qqf).2.2.2.2.2.2.2.2.1),No ((a0.getD a.toNat Qqf).2.2.2.2.2.2.2.2.2.1),e1728v10,e1728v11] 53,.row e 154 256 (ap).length aj,.box b1 [f] 25] wr fun Oz=>AD (.int .i64) (gz H w wr Oz) ab j/\A6 (.bb 256) (gz H w wr Oz) ap aj/\(Jv b) ap=some cf) ?_ ?_
       ·refine AA<|Av<|A8 h fun bt h=>Bb a7 b.toNat (Dw bt) (AK bt) ?_;rintro eg _ rfl cz;refine Ah (AV cz (Al aw))<|A4 1 Z<|BN 2 Z<|A8 h fun bu h=>Bb (aw.KM hH (i:=1) Z ai) ((j.getD b.toNat Qqf).toNat) (Dw bu) (AK bu) ?_;rintro eh _ rfl c0;refine Ah (Cq (hz:=⟨(TM Gp.e)⟩) c0 (Le.refl _))<|A4 1 Z<|AA ?_;obtain⟨a1,h⟩:=Bf h
        refine BB ((List (Nat->Bool))×Int×QqK×Nat) (fun⟨u,c,p,n⟩=>[(1,(Ze b1)),(3,e),(6,No a),(27,No (a0.length:Int)),(28,No d),(31,f),(32,No (a0.length:Int)),(33,No a),(39,ab),(40,No (j.length:Int)),(41,No b),(48,.agg (JP 256 (k.getD ((j.getD b.toNat Qqf).toNat) Qqf)).toArray),(49,No c)]) (fun⟨u,c,p,n⟩ wr=>DK w [.box bn [.string ⟨((a0.getD a.toNat Qqf).1).toArray⟩,No ((a0.getD a.toNat Qqf).2.1),e1728v2,No ((a0.getD a.toNat Qqf).2.2.2.1),.bool ((a0.getD a.toNat Qqf).2.2.2.2.1),No ((a0.getD a.toNat Qqf).2.2.2.2.2.1),No ((a0.getD a.toNat Qqf).2.2.2.2.2.2.1),No ((a0.getD a.toNat Qqf).2.2.2.2.2.2.2.1),No ((a0.getD a.toNat Qqf).2.2.2.2.2.2.2.2.1),No ((a0.getD a.toNat Qqf).2.2.2.2.2.2.2.2.2.1),e1728v10,e1728v11] 53,.row e 154 256 (u).length p,.box b1 [f] 25] wr fun Oz=>AD (.int .i64) (gz H w wr Oz) ab j/\A6 (.bb 256) (gz H w wr Oz) u p/\FX (Ff k a b j) n (u,c)=some cf) (fun⟨u,c,p,n⟩=>n) (k,0,z,a1) Z ⟨aw,a7,ai,h⟩ ?_
        rintro⟨u,c,p,nn1919⟩ d7 ⟨a8,o,g,h⟩;obtain⟨a1,ei,rfl,h,a9⟩:=Bd h;refine AI 1 Z<|AN<|AY h ?_ ?_<;>intro c1 h
        ·refine A5<|A3<|AN<|AA<|BN 1 Z<|A8 h fun c2 h=>Ah (Pz Z c2 Z)<|A4 2 Z<|L8 (ZX 0 14 (.tail 14)) mixed V (fun ej bv=>?_);have ac:=a8.call bv;have ay:=Ba a8 bv;refine BW 6 Z<|A8 h fun bw h=>?_;have g:=g.mono (Ab ay);refine DJ Z Z Z Zu (ac.KM hH (i:=1) Z g) a.toNat (Dw bw) (AK bw) Z ?_;rintro ek _ rfl bx;refine A8 h fun bz h=>B9 Z (ME bz Z bx.1) Z<|B9 Z (R2 bx (AK bz) (Le.refl _)) Z<|BW 1 Z<|IP 62 Z (fun ad=>?_) (fun ad=>?_)
         ·have h:=Lo ad h;refine MG Z Z Z Z ad Z<|B9 Z (Aj ad Z) Z<|A8 h fun ba h=>N9 1 Z Z Z Zu Gp.e ac Z a.toNat (Dw ba) (AK ba) Z fun el b0=>A8 h fun b2 h=>B9 Z (ME b2 Z b0.2.2) Z<|BM (fun em b3=>?_);have c3:=ac.call b3;have bh:=Ba ac b3;have g:=g.mono (Ab bh);refine Qp (m:=c.toNat) 1 Z c3 Z g b0 (AK b2) (AK ba) fun en c4 bi bc=>AQ<|AB<|A3<|A2<|A8 h fun c5 h=>Ah (AH c5)<|Aw 1 Z<|AQ ?_;have h:=Ct.again h a9;have o:=o.mono (Ab (ay.trans (bh.trans bi)));have bc:=bc.mono (Ab bi);refine AS (_,_,_,_) ⟨c4,o,bc,h⟩
         have h:=Lp ad h;refine D4 Z (Ad Z) Z Z Z ad Z<|B9 Z (An ad Z) Z<|A8 h fun bd h=>N9 1 Z Z Z Zu Gp.e ac Z a.toNat (Dw bd) (AK bd) Z fun eo b4=>A8 h fun b5 h=>B9 Z (ME b5 Z b4.2.2) Z<|BM (fun ep b6=>?_);have c6:=ac.call b6;have bj:=Ba ac b6;have g:=g.mono (Ab bj);refine Qp (m:=c.toNat) 1 Z c6 Z g b4 (AK b5) (AK bd) fun eq c7 bk be=>AQ<|AB<|A3<|A2<|A8 h fun c8 h=>Ah (AH c8)<|Aw 1 Z<|AQ ?_;have h:=Ct.again h a9;have o:=o.mono (Ab (ay.trans (bj.trans bk)));have be:=be.mono (Ab bk)
         refine AS (_,_,_,_) ⟨c7,o,be,h⟩
        refine BA<|AP<|AJ ?_;have h:=Ct.out h a9;refine Bu<|AB<|A7 (_,_) ⟨a8,o,g,h⟩
       rintro⟨ap,aj⟩ d8 ⟨c9,cb,ck,h⟩;refine A2<|A8 h fun da h=>Ah (AH da)<|Aw 1 Z<|AQ ?_;have h:=Ct.again h bs;refine AS (_,_,_,_) ⟨c9,cb,ck,h⟩
      refine BA<|AP<|AJ ?_;have h:=Ct.out h bs;refine Bu<|AB ?_;have db:=aw.AM (i:=0) Z;have ai:=ai.mono (Ab (Ae (i:=0) Z));refine A7 (_,_) ⟨db,ai,h⟩
     rintro⟨ao,ah⟩ d9 ⟨dc,cl,h⟩;refine A2<|A8 h fun dd h=>Ah (AH dd)<|Aw 1 Z<|AQ ?_;have h:=Ct.again h bq;refine AS (_,_,_,_) ⟨dc,cl,h⟩
    refine BA<|AP<|AJ ?_;have h:=Ct.out h bq;refine Bu<|AB<|A7 (_,_) ⟨a5,an,h⟩
   rintro⟨am,ag⟩ ea ⟨de,cm,h⟩;refine A2<|A8 h fun df h=>Ah (AH df)<|Aw 1 Z<|AQ ?_;have h:=Ct.again h bp;refine AS (_,_,_,_) ⟨de,cm,h⟩
  refine BA<|AP<|AJ ?_;have h:=Ct.out h bp;refine Bu<|A7 (_,_) ⟨a4,bg,h⟩
 rintro⟨a3,au⟩ er ⟨cg,dg,h⟩;refine AI 2 Z<|Ay ?_
 cases h
 refine Ak Z ⟨cg.ext,_,Z,(cg.Hv hH (i:=0) Z dg)⟩
end
end Go.Proofs.YtfgomcdgmihmpaaGreatDoor
end
noncomputable section
namespace Go.Proofs.YtfgomcdgmihmpaaGreatDoor
open Go Go.E Go.RowKit Go.L
abbrev Qq:=QqZ×Int×QqZ×Int×Bool×Int×Int×Int×Int×Int×QqA×QqX
def Ij(m:Nat):Nat->Bool:=fun c=>decide (c<256)&&m.testBit c
def mix(c:Nat)(f g:Nat->Bool):Nat->Bool:=fun x=>if x<c then(f x||g x)else f x
theorem R3(f g:Nat->Bool):mix 0 f g=f:=by
 funext x
 unfold mix;rw[if_neg (Nat.not_lt_zero _)]
theorem SQ(a b:Nat):mix 256 (Ij a) (Ij b)=Ij (a ||| b):=by
 funext x
 unfold mix Ij
 by_cases h:x<256
 ·simp[h,Nat.testBit_or]
 ·simp[h]
theorem NF{c:Nat}{f g:Nat->Bool}{v:Bool}(h:v=(f c||g c)):JO (mix c f g) c v=mix (c+1) f g:=by
 subst h
 funext x
 unfold JO mix
 by_cases e:x=c
 ·subst e;simp
 ·by_cases a:x<c
  ·simp[e,a,show x<c+1 by omega]
  ·simp[e,a,show ¬x<c+1 by omega]
theorem QB{m i:Nat}(h:i<256):JO (Ij m) i true=Ij (m ||| 2 ^ i):=by
 funext x
 unfold JO Ij
 by_cases e:x=i
 ·subst e;simp[h,Nat.testBit_or,Nat.testBit_two_pow]
 ·have:i≠x:=fun h=>e h.symm;simp[e,Nat.testBit_or,Nat.testBit_two_pow,this]
theorem Mo:(fun _=>false)=Ij 0:=by
 funext x
 unfold Ij;simp
def SR:Nat->Nat->Nat->Nat
 | 0,_,m=>m
 | n+1,s,m=>SR n (s+1) (m ||| 2 ^ s)
theorem U1(t:Nat)(ht:t<256):∀(n s m:Nat),s+n=t+1->Ih (t:Int) (Ij m,(s:Int))=some (Ij (SR n s m))
 | 0,s,m,h=>by
  unfold Ih;refine BY ?_;unfold H0;dsimp only;rw[if_neg U]
  rfl
 | n+1,s,m,h=>by
  have ih:=U1 t ht n (s+1) (m ||| 2 ^ s) U;unfold Ih at ih ⊢;rw[BT (s':=(Ij (m ||| 2 ^ s),((s+1:Nat):Int))) ?_,ih]
  ·rfl
  ·unfold H0;dsimp only;have e:((s:Int) % 256)=(s:Int):=by omega
   have a:(s:Int).toNat=s:=Z;rw[if_pos U,Ao,e,Ao,Ao (h:=(by unfold BX;omega)),a,QB U]
   rfl
theorem VT{s t m:Nat}(hs:s<=t)(ht:t<256):LH (s:Int) (t:Int) (Ij m)=some (Ij (SR (t+1 - s) s m)):=U1 t ht _ s m U
theorem Y7{α:Type}[Inhabited α]{l:List α}{k:Nat}{v:α}(h:k<l.length):(l.set k v).getD k Qqf=v:=by simp[h]
theorem Xf{l:List (Nat->Bool)}{k j i:Nat}{x:QqX}(hk:k<l.length)(hx:(x.getD j Qqf).toNat=i)(hj:j<1000):
  KV l (k:Int) (j:Int) x (l,0)=some (.inl (l.set k (mix 256 (l.getD k Qqf) (l.getD i Qqf)),((j+1:Nat):Int))):=by
 have a:l.set k (mix 0 (l.getD k Qqf) (l.getD i Qqf))=l:=by rw[R3];simp[QzX,hk]
 have:=Hu (Ff l (k:Int) (j:Int) x) (fun c=>(l.set k (mix c (l.getD k Qqf) (l.getD i Qqf)),(c:Int))) 256 (some (.inl (l.set k (mix 256 (l.getD k Qqf) (l.getD i Qqf)),((j+1:Nat):Int)))) (fun c hc=>?_) ?_ 0 U
 ·rw[a]at this;exact this
 ·unfold Ff;dsimp only;have e:(k:Int).toNat=k:=Z;have d:(j:Int).toNat=j:=Z;have f:(c:Int).toNat=c:=Z;rw[if_pos U,Ao,e,d,f,hx,Y7 hk,Ao (h:=(by rw[Qxq];omega)),Ao];have hm:mix c (l.getD k Qqf) (l.getD i Qqf) c=(l.getD k Qqf) c:=by unfold mix;rw[if_neg (Nat.lt_irrefl _)]
  rw[hm]
  split
  ·rename_i h;rw[Ao (h:=(by rw[Qxq];omega)),Ao,Ao (h:=(by unfold BX;omega)),List.set_set,NF (by rw[h];rfl)]
   rfl
  ·rename_i h;have h':(l.getD k Qqf) c=false:=by simpa using h
   rw[Ao (h:=(by rw[Qxq];omega)),Ao,Ao (h:=(by unfold BX;omega)),List.set_set,NF (by rw[h'];rfl)]
   rfl
 ·unfold Ff Jv;dsimp only;rw[if_neg U,Ao (h:=(by unfold BX;omega))]
  rfl
def QC(k:Nat):QqX->List Nat->List Nat
 | [],M=>M
 | i::x,M=>QC k x (M.set k (M.getD k 0 ||| M.getD i.toNat 0))
theorem P0(k:Nat):∀(x:QqX) (M:List Nat),(QC k x M).length=M.length
 | [],_=>rfl
 | _::x,M=>by rw[QC,P0 k x];simp
theorem getD_map{M:List Nat}{i:Nat}(h:i<M.length):(M.map Ij).getD i Qqf=Ij (M.getD i 0):=by simp[QzX,h]
theorem W6(k:Nat)(x:QqX)(hx:∀i∈x,0<=i)(b:x.length<1000)(a:k<1000):∀(j:Nat) (M:List Nat),k<M.length->(∀i∈x,i<(M.length:Int))->j<=x.length->
  H2 (k:Int) x (M.map Ij,(j:Int))=some (.inl ((QC k (x.drop j) M).map Ij,((k+1:Nat):Int)))
 | j,M,hk,hi,hj=>by
  by_cases e:j=x.length
  ·subst e;unfold H2;rw[List.drop_length,QC];refine BY ?_;unfold GL Ju;dsimp only;rw[if_neg U,Ao (h:=(by unfold BX;omega))]
   rfl
  ·have hlt:j<x.length:=by omega
   have hm:x.getD j Qqf=x[j]:=by simp[QzX,hlt]
   have hmem:=List.getElem_mem hlt;have h2:=hi _ hmem;have h3:=hx _ hmem;have ih:=W6 k x hx b a (j+1) (M.set k (M.getD k 0 ||| M.getD x[j].toNat 0)) (by rw[Qxq];exact hk) (by rw[Qxq];exact hi) U;rw[Qzc hlt,QC];unfold H2 at ih ⊢;rw[BT (s':=((M.set k (M.getD k 0 ||| M.getD x[j].toNat 0)).map Ij,((j+1:Nat):Int))) ?_,ih];unfold GL;dsimp only;have c:(j:Int).toNat=j:=Z;rw[if_pos U,Ao,c,hm,Ao (h:=(by rw[Qq9];omega)),Xf (i:=x[j].toNat) (by rw[Qq9];exact hk) (by rw[hm]) U,getD_map hk,getD_map U,SQ,<- List.map_set]
termination_by j=>x.length - j
def Mp(B:List QqX):Nat->List Nat->List Nat
 | 0,M=>M
 | n+1,M=>Mp B n (QC (B.length - (n+1)) (B.getD (B.length - (n+1)) []) M)
theorem P1(B:List QqX):∀(n:Nat) (M:List Nat),(Mp B n M).length=M.length
 | 0,_=>rfl
 | n+1,M=>by rw[Mp,P1 B n,P0]
section
variable {F:List Qq}{B:List QqX} (hl:B.length=F.length) (hF:F.length<1000) (hB:∀k,k<F.length->Dt (F.getD k Qqf)=some (B.getD k []))
 (hx:∀k,k<F.length->(∀i∈B.getD k [],0<=i/\i<(F.length:Int))/\(B.getD k []).length<1000)
include hl hF hB hx
theorem W7(s:Nat)(hs:s<1000):∀(n:Nat) (M:List Nat),n<=F.length->M.length=F.length->
  H3 F (s:Int) (M.map Ij,((F.length - n:Nat):Int))=some (.inl ((Mp B n M).map Ij,((s+1:Nat):Int)))
 | 0,M,hn,hM=>by
  unfold H3;refine BY ?_;unfold GM Jt;dsimp only;rw[if_neg U,Ao (h:=(by unfold BX;omega))]
  rfl
 | n+1,M,hn,hM=>by
  have hk:F.length - (n+1)<F.length:=by omega
  obtain⟨a,h2⟩:=hx _ hk;have ih:=W7 s hs n (QC (F.length - (n+1)) (B.getD (F.length - (n+1)) []) M) U (by rw[P0];exact hM);rw[Mp,hl];unfold H3 at ih ⊢;have en:((F.length - n:Nat):Int)=((F.length - (n+1)+1:Nat):Int):=by omega
  rw[en]at ih;rw[BT (s':=((QC (F.length - (n+1)) (B.getD (F.length - (n+1)) []) M).map Ij,((F.length - (n+1)+1:Nat):Int))) ?_,ih];unfold GM;dsimp only;have b:((F.length - (n+1):Nat):Int).toNat=F.length - (n+1):=Z;rw[if_pos U,Ao,b,hB _ hk,QqC];have:=W6 (F.length - (n+1)) (B.getD (F.length - (n+1)) []) (fun i hi=>(a i hi).1) h2 U 0 M U (fun i hi=>by rw[hM];exact(a i hi).2) (Nat.zero_le _);rw[List.drop_zero]at this;exact this
def rounds(B:List QqX):Nat->List Nat->List Nat
 | 0,M=>M
 | n+1,M=>rounds B n (Mp B B.length M)
theorem W8:∀(n:Nat) (M:List Nat),n<=F.length->M.length=F.length->H4 F (M.map Ij,((F.length - n:Nat):Int))=some ((rounds B n M).map Ij)
 | 0,M,hn,hM=>by
  unfold H4;refine BY ?_;unfold GN Js;dsimp only;rw[if_neg U]
  rfl
 | n+1,M,hn,hM=>by
  have ih:=W8 n (Mp B B.length M) U (by rw[P1];exact hM);rw[rounds];unfold H4 at ih ⊢;have en:((F.length - n:Nat):Int)=((F.length - (n+1)+1:Nat):Int):=by omega
  rw[en]at ih;rw[BT (s':=((Mp B B.length M).map Ij,((F.length - (n+1)+1:Nat):Int))) ?_,ih];unfold GN;dsimp only;have:=W7 hl hF hB hx (F.length - (n+1)) U F.length M (Qq0 _) hM;rw[Nat.sub_self]at this;rw[if_pos U,hl];exact this
theorem T4{M:List Nat}(hM:M.length=F.length)(ho:∀k,k<F.length->Jr (F.getD k Qqf)=some (Ij (M.getD k 0))):HZ F=some ((rounds B F.length M).map Ij):=by
 have key:∀n,n<=F.length->H5 F ((M.take (F.length - n)).map Ij,((F.length - n:Nat):Int))=some ((rounds B F.length M).map Ij):=by
  intro n
  induction n with
  | zero=>
   intro _;unfold H5;refine BY ?_;unfold GO Jw;dsimp only;have:=W8 hl hF hB hx F.length M (Qq0 _) hM;rw[Nat.sub_self]at this;rw[if_neg U,Nat.sub_zero,<- hM,List.take_length,hM];rw[show(0:Int)=((0:Nat):Int)from Z,this]
  | succ n ih=>
   intro hn;have ih:=ih U;have hk:F.length - (n+1)<F.length:=by omega
   have en:F.length - n=F.length - (n+1)+1:=by omega
   rw[en]at ih;unfold H5 at ih ⊢
   have et:(M.take (F.length - (n+1)+1)).map Ij=(M.take (F.length - (n+1))).map Ij++[Ij (M.getD (F.length - (n+1)) 0)]:=by
    rw[List.take_succ_eq_append_getElem U,List.map_append];simp[QzX,show F.length - (n+1)<M.length by omega]
   rw[et]at ih;rw[BT (s':=((M.take (F.length - (n+1))).map Ij++[Ij (M.getD (F.length - (n+1)) 0)],((F.length - (n+1)+1:Nat):Int))) ?_,ih];unfold GO;dsimp only;have a:((F.length - (n+1):Nat):Int).toNat=F.length - (n+1):=Z
   rw[if_pos U,Ao,a,ho _ hk,QqC,Ao (h:=(by
    unfold Gg;rw[Qq9,Qz9];simp only[List.length_singleton];omega)),Ao (h:=(by unfold BX;omega))]
   rfl
 have:=key F.length (Qq0 _);rw[Nat.sub_self]at this;exact this
end
end Go.Proofs.YtfgomcdgmihmpaaGreatDoor
end
