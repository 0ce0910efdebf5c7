/- Texts of a claim, merged. -/
import Derived.Test.YtnmkjjgmnbmmnaaGreatDoorLa1
import Derived.Lib.OthersKept
import Derived.Lib.SliceRun
import Derived.Test.YtnmkjjgmnbmmnaaGreatDoorRows
import Derived.KernelRfl
import Derived.Laws.Cover4
import Derived.Maps.RangeRun
open _root_.Go.Proofs.Tryz renaming underlying22→Aag,underlying27→Aaj,underlying50→Aak,underlying38→Aam,underlying31→Aan,underlying137→Aaq,underlying138→Aar,underlying25→Aas
open Option renaming bind->Qq8,bind_some->Qq9,map->Qzq
open List renaming length_append->Qzk,replicate->Qzw,drop_eq_getElem_cons->Qz1,length_map->Qzf,getD_eq_getElem?_getD->Qz7,length_take->QzA,take_of_length_le->Qz3,length_set->Qz4,range->QzE,append_nil->Qxv
open HAppend renaming hAppend->Qzu
open Nat renaming le_refl->Qzx,blt->Qzz,mul_one->Qzy,zero_add->Qzd,add_mul->QzZ,beq->QzC,zero_mul->Qxx
open BitVec renaming ofInt->Qze
open Int renaming eq_ofNat_of_zero_le->QzD,toNat_of_nonneg->QzK
open ByteArray renaming size->Qxk
open Array renaming replicate->Qxw
open Bool renaming not_false->Qxu
set_option linter.unusedVariables false
set_option linter.unusedSimpArgs false
set_option linter.unusedSectionVars false
noncomputable section
namespace Go.L
inductive Pv where
 | mk (kind number:Int) (bytes:Qq3) (names:Qq7) (parts:List Pv)
instance:Inhabited Pv:=⟨.mk 0 0 [] [] []⟩
abbrev Z9:Type:=Int×Int×Qq3×Qq7×List Pv
def Pv.f:Pv->Z9
 | .mk k n b ns ps=>(k,n,b,ns,ps)
end Go.L
namespace Go.E
open Go Go.L
variable {α β:Type}
def Rp.via(r:Rp β)(f:α->β):Rp α:=⟨r.sz,fun H x c=>r.rel H (f x) c,fun h=>r.len h,fun hs h=>r.mono hs h,fun h=>r.one h⟩
def Rp.no(α:Type)(n:Nat):Rp α:=⟨n,fun _ _ _=>False,fun h=>h.elim,fun _ h=>h,fun h=>h.elim⟩
theorem AL.XV{r s:Rp α}{H:PH}{v:Value}{l:List α}(hz:r.sz=s.sz)(h:AL r H v l)(hrel:∀x∈l,∀c,r.rel H x c->s.rel H x c):AL s H v l:=by
 obtain⟨a,cap,h1,h2,h3,b,d⟩:=h.ex;refine⟨a,cap,h1,h2,h3,b,fun A hA hl=>?_⟩;obtain⟨e,f⟩:=d A hA hl;refine⟨e,fun i x hx=>?_⟩;obtain⟨c,hc,hcell⟩:=f i x hx;exact⟨c,hrel x (List.mem_of_getElem? hx) c hc,fun j u hu=>by rw[<- hz];exact hcell j u hu⟩
def Rp.fields(r:Rp Pv):Rp Z9:=.pair (.int .i64) (.pair (.int .i64) (.pair (.vec .byte) (.pair (.vec .st) (.vec r))))
def Rp.Ln:Nat->Rp Pv
 | 0=>.no Pv 5
 | d+1=>(Rp.fields (Rp.Ln d)).via Pv.f
theorem Rp.Nl:∀d,(Rp.Ln d).sz=5
 | 0=>rfl
 | _+1=>rfl
theorem Rp.QQ{r s:Rp Pv}{H:PH}{x:Z9}{c:Qq5}(hz:r.sz=s.sz)(hrel:∀y∈x.2.2.2.2,∀c,r.rel H y c->s.rel H y c)(h:(Rp.fields r).rel H x c):(Rp.fields s).rel H x c:=by
 obtain⟨c1,c2,a,h1,c3,c4,b,h2,c5,c6,d,h3,c7,c8,e,f,v,g,i⟩:=h;exact⟨c1,c2,a,h1,c3,c4,b,h2,c5,c6,d,h3,c7,c8,e,f,v,g,i.XV hz hrel⟩
theorem Rp.PY{H:PH}:∀(d:Nat) (x:Pv) (c:Qq5),(Rp.Ln d).rel H x c->(Rp.Ln (d+1)).rel H x c
 | 0,_,_,h=>h.elim
 | d+1,x,c,h=>Rp.QQ (r:=Rp.Ln d) (s:=Rp.Ln (d+1)) (by rw[Rp.Nl,Rp.Nl]) (fun y _ c h=>Rp.PY d y c h) h
theorem Rp.Sj{H:PH}{d e:Nat}(h:d<=e){x:Pv}{c:Qq5}(hx:(Rp.Ln d).rel H x c):(Rp.Ln e).rel H x c:=by
 induction h with
 | refl=>exact hx
 | step _ ih=>exact Rp.PY _ _ _ ih
def Rp.tree:Rp Pv:=⟨5,fun H x c=>∃d,(Rp.Ln d).rel H x c,fun h=>by obtain⟨d,h⟩:=h;rw[(Rp.Ln d).len h,Rp.Nl],fun hs h=>by obtain⟨d,h⟩:=h;exact⟨d,(Rp.Ln d).mono hs h⟩,fun h=>by obtain⟨d,h⟩:=h;exact(Rp.Ln d).one h⟩
theorem Rp.Ex{H:PH}{x:Pv}{c:Qq5}(h:Rp.tree.rel H x c):(Rp.fields Rp.tree).rel H x.f c:=by
 obtain⟨d,h⟩:=h
 cases d with
 | zero=>exact h.elim
 | succ d=>exact Rp.QQ (r:=Rp.Ln d) (s:=Rp.tree) (Rp.Nl d) (fun y _ c h=>⟨d,h⟩) h
theorem AL.bound{H:PH}{v:Value}{l:List Pv}(h:AL Rp.tree H v l):∃d,AL (Rp.Ln d) H v l:=by
 obtain⟨a,cap,h1,h2,h3,b,f⟩:=h.ex
 cases a with
 | none=>exact⟨0,none,cap,h1,h2,h3,b,fun A hA=>by cases hA⟩
 | some A=>
  have key:∀n,∃d,∀i x,i<n->l≠[]->l[i]? = some x->∃c,(Rp.Ln d).rel H x c/\∀j u,c[j]? = some u->I6 H (A.add (i * 5+j))=some u:=by
   intro n
   induction n with
   | zero=>exact⟨0,fun i x hi=>absurd hi (Nat.not_lt_zero i)⟩
   | succ n ih=>
    obtain⟨d,hd⟩:=ih
    by_cases hl:l=[]
    ·exact⟨0,fun i x _ hn=>absurd hl hn⟩
    cases hx:l[n]? with
    | none=>
     refine⟨d,fun i x hi hn he=>?_⟩
     rcases Nat.lt_succ_iff_lt_or_eq.1 hi with hi | rfl
     ·exact hd i x hi hn he
     ·rw[hx]at he
      cases he
    | some y=>
     obtain⟨c,⟨e,hc⟩,hcell⟩:=(f A Z hl).2 n y hx;refine⟨max d e,fun i x hi hn he=>?_⟩
     rcases Nat.lt_succ_iff_lt_or_eq.1 hi with hi | rfl
     ·obtain⟨c',g,k⟩:=hd i x hi hn he;exact⟨c',Rp.Sj (Nat.le_max_left ..) g,k⟩
     ·rw[hx]at he
      cases he
      exact⟨c,Rp.Sj (Nat.le_max_right ..) hc,hcell⟩
  obtain⟨d,hd⟩:=key l.length;refine⟨d,some A,cap,h1,h2,h3,b,fun B hB hl=>?_⟩
  cases hB
  refine⟨(f A Z hl).1,fun i x hx=>?_⟩;rw[Rp.Nl];exact hd i x (List.getElem?_eq_some_iff.1 hx).1 hl hx
theorem Rp.Fa{H:PH}{x:Pv}{c:Qq5}(h:(Rp.fields Rp.tree).rel H x.f c):Rp.tree.rel H x c:=by
 obtain⟨c1,c2,a,h1,c3,c4,b,h2,c5,c6,e,h3,c7,c8,g,i,v,j,k⟩:=h;obtain⟨d,hd⟩:=k.bound;exact⟨d+1,c1,c2,a,h1,c3,c4,b,h2,c5,c6,e,h3,c7,c8,g,i,v,j,hd⟩
end Go.E
namespace Go.E
open Go Go.RowKit
def YY(h:Qq3×Int×Int×Qq3):Value:=.agg #[.string ⟨h.1.toArray⟩,.int .i64 h.2.1,.int .i64 h.2.2.1,.string ⟨h.2.2.2.toArray⟩]
section
variable {P:Program}{L:Env}{w:World}{t t' ty:TypeId}{x y:Operand}
theorem Rx{v:Nat}(h:v<2 ^ 64):IntKind.u64.wrap (v:Int)=(v:Int):=by
 simp only[IntKind.wrap];simp[IntKind.bits,IntKind.signed] <;> omega
theorem Ry[Dr]{op:BinOp}{c:Nat}{p q:Int}[hx:Qqq (ev L x) (some (.int .u64 p))][hy:Qqq (ev L y) (some (.int .u64 q))](ho:UC op p.toNat q.toNat=some c)(h:(0<=p/\p<2 ^ 64)/\(0<=q/\q<2 ^ 64)):Bu P L w (.binOp op t x y t') ty (.int .u64 (c:Int)):=by
 intro w' _ ρ hρ dst pos af g;obtain⟨a,rfl⟩:=QzD h.1.1;obtain⟨b,rfl⟩:=QzD h.2.1;rw[Int.toNat_natCast,Int.toNat_natCast]at ho;have ha:a<2 ^ 64:=by omega
 have hb:b<2 ^ 64:=by omega
 have ea:(Qze 64 (a:Int)).toNat=a:=by simp;omega
 have eb:(Qze 64 (b:Int)).toNat=b:=by simp;omega
 cases op <;> simp only[UC,Option.some.injEq,reduceCtorEq]at ho <;> subst ho
 ·have e:(Op.intBits .and .u64 (a:Int) (b:Int)).run P w'=.ok (.int .u64 ((a &&& b:Nat):Int)) w':=by
   show Result.ok (Value.int .u64 (IntKind.u64.wrap ((Qze 64 (a:Int) &&& Qze 64 (b:Int)).toNat:Int))) w'=_
   rw[BitVec.toNat_and,ea,eb,Rx (Nat.and_lt_two_pow _ hb)]
  simp only[execOp,hρ x _ hx.e,hρ y _ hy.e,eqGuard,binOp,Sem.run_bind,ne_eq,not_true_eq_false,if_false,Qxu,if_true,Sem.run_pure,Result.andThen_ok,e]
 ·have e:(Op.intBits .or .u64 (a:Int) (b:Int)).run P w'=.ok (.int .u64 ((a ||| b:Nat):Int)) w':=by
   show Result.ok (Value.int .u64 (IntKind.u64.wrap ((Qze 64 (a:Int) ||| Qze 64 (b:Int)).toNat:Int))) w'=_
   rw[BitVec.toNat_or,ea,eb,Rx (Nat.or_lt_two_pow ha hb)]
  simp only[execOp,hρ x _ hx.e,hρ y _ hy.e,eqGuard,binOp,Sem.run_bind,ne_eq,not_true_eq_false,if_false,Qxu,if_true,Sem.run_pure,Result.andThen_ok,e]
 ·have e:(Op.intBits .xor .u64 (a:Int) (b:Int)).run P w'=.ok (.int .u64 ((a ^^^ b:Nat):Int)) w':=by
   show Result.ok (Value.int .u64 (IntKind.u64.wrap ((Qze 64 (a:Int) ^^^ Qze 64 (b:Int)).toNat:Int))) w'=_
   rw[BitVec.toNat_xor,ea,eb,Rx (Nat.xor_lt_two_pow ha hb)]
  simp only[execOp,hρ x _ hx.e,hρ y _ hy.e,eqGuard,binOp,Sem.run_bind,ne_eq,not_true_eq_false,if_false,Qxu,if_true,Sem.run_pure,Result.andThen_ok,e]
end
end Go.E
end
noncomputable section
namespace Go.E
open Go Go.RowKit
section
variable {P:Program}{L:Env}{w:World}{t ty:TypeId}{x a b:Operand}{l:Qq3}{k k':IntKind}{i j:Int}
theorem M6(l:Qq3)(a b:Nat):(⟨l.toArray⟩:ByteArray).extract a b=⟨((l.drop a).take (b - a)).toArray⟩:=by
 apply ByteArray.ext;rw[ByteArray.data_extract];simp[List.extract_eq_take_drop]
theorem US[Dr]{lo hi:Option Operand}(hx:ev L x=some (.string ⟨l.toArray⟩))(ht:P.underlying t=some .string)(a b:Nat)(ha:YH L lo a)(hb:Xr L hi b l.length)(h1:a<=b)(h2:b<=l.length):
  Bu P L w (.slice t x lo hi none) ty (.string ⟨((l.drop a).take (b - a)).toArray⟩):=by
 intro w' _ ρ hρ dst pos af g;have hs:(ByteArray.mk l.toArray).size=l.length:=by simp[Qxk]
 have f:(a:Int)<=(b:Int):=by omega
 have i:(b:Int)<=(l.length:Int):=by omega
 have j:(a:Int)<=(l.length:Int):=by omega
 cases lo with
 | none=>
  simp only[YH]at ha;subst ha
  cases hi with
  | none=>
   simp only[Xr]at hb;subst hb;simp[execOp,hρ x _ hx,Instr.sliceAt,run_underlying ht,Instr.slice,Instr.sliceBounds,hs,M6]
  | some c=>
   obtain⟨e,hb⟩:=hb;simp[execOp,hρ x _ hx,hρ c _ hb,Instr.sliceAt,run_underlying ht,Instr.slice,Instr.sliceBounds,Instr.sliceBound,asIntOf,hs,h2,M6]
 | some d=>
  obtain⟨k,ha⟩:=ha
  cases hi with
  | none=>
   simp only[Xr]at hb;subst hb;simp[execOp,hρ x _ hx,hρ d _ ha,Instr.sliceAt,run_underlying ht,Instr.slice,Instr.sliceBounds,Instr.sliceBound,asIntOf,hs,h1,M6]
  | some c=>
   obtain⟨e,hb⟩:=hb;simp[execOp,hρ x _ hx,hρ d _ ha,hρ c _ hb,Instr.sliceAt,run_underlying ht,Instr.slice,Instr.sliceBounds,Instr.sliceBound,asIntOf,hs,h1,h2,M6]
theorem UT[Dr][hx:Qqq (ev L x) (some (.string ⟨l.toArray⟩))][ha:Qqq (ev L a) (some (.int k i))][hb:Qqq (ev L b) (some (.int k' j))][ht:Qqq (P.underlying t) (some .string)](hc:0<=i/\i<=j/\j<=(l.length:Int)):
  Bu P L w (.slice t x (some a) (some b) none) ty (.string ⟨((l.drop i.toNat).take (j.toNat - i.toNat)).toArray⟩):=
 US hx.e ht.e i.toNat j.toNat ⟨k,by rw[QzK U];exact ha.e⟩ ⟨k',by rw[QzK U];exact hb.e⟩ U U
theorem UU[Dr][hx:Qqq (ev L x) (some (.string ⟨l.toArray⟩))][ha:Qqq (ev L a) (some (.int k i))][ht:Qqq (P.underlying t) (some .string)](hc:0<=i/\i<=(l.length:Int)):
  Bu P L w (.slice t x (some a) none none) ty (.string ⟨(l.drop i.toNat).toArray⟩):=by
 have:=US (P:=P) (w:=w) (ty:=ty) hx.e ht.e i.toNat l.length (lo:=some a) (hi:=none) ⟨k,by rw[QzK U];exact ha.e⟩ Z U U
 rwa [Qz3 Qqc]at this
theorem XW[Dr][hx:Qqq (ev L x) (some (.string ⟨l.toArray⟩))][hb:Qqq (ev L b) (some (.int k' j))][ht:Qqq (P.underlying t) (some .string)](hc:0<=j/\j<=(l.length:Int)):
  Bu P L w (.slice t x none (some b) none) ty (.string ⟨(l.take j.toNat).toArray⟩):=by
 have:=US (P:=P) (w:=w) (ty:=ty) hx.e ht.e 0 j.toNat (lo:=none) (hi:=some b) Z ⟨k',by rw[QzK U];exact hb.e⟩ U U
 simpa using this
end
section
variable {P:Program}{n:Sz}{Q:Exit->Act->World->Prop}{L:Env}{w w0:World}{O:List BN}{lop:List Oper}{ix:Nat}{tr:Tr}
 {d:Nat}{ty:TypeId}{pos:String}{af:Array Edge}{α:Type}{r:Rp α}{x a b:Operand}{v:Value}{t t' e:TypeId}{H:PH}{l:List α}{k k':IntKind}{i j:Int}{zz:Value}{bt:Nat}{jg sg:Nat}{want bb:Bool}{oj:Oper}
end
section
variable {P:Program}{n:Sz}{ops:Array Oper}{Q:Exit->Act->World->Prop}{L:Env}{w w0:World}{O:List BN}{l:List Oper}{i:Nat}{t:Tr}{rest:List Oper}
 {d:Nat}{ty:TypeId}{pos:String}{af:Array Edge}{f:FuncId}{args:List Operand}{vs:Qq5}{at_:Array TypeId}{fo:Operand}
theorem Nn[Dr]{R:Value->World->Prop}[hf:Qqq (ev L fo) (some (.func (.func f) #[] #[]))][ha:Qqq (RJ L args) (some vs)][hn:Qqq (Qzz d n.n) true](hL:AW w0 O w)(hok:Ok P f vs w (fun v w'=>Ext w w'/\R v w'))
  (h:∀v w',R v w'->Ext w w'->AW w0 O w'->Le (fz w O) (fz w' O)->S P n ops Q rest ((d,v)::L) w'):S P n ops Q (⟨some d,.call ⟨.value fo,args.toArray,at_⟩,ty,pos,af,none⟩::rest) L w:=
 BU (cap:=[]) (R:=fun v w'=>Ext w w'/\R v w') hf.e ha.e (hn:=⟨hn.e⟩) (by rw[Qxv];exact hok) fun v w' hh=>h v w' hh.2 hh.1 (hL.call hh.1) (Bd hL hh.1)
end
end Go.E
namespace Go.E
open Go
theorem PZ(place:Nat->Option (Nat×Nat)):∀(l m:List (Nat×Value)) (cells:Array Value),l.map (fun p=>(p.1,p.2.cells))=m.map (fun p=>(p.1,p.2.cells))->Instr.fill place cells l=Instr.fill place cells m
 | [],[],_,_=>rfl
 | [],_::_,_,h=>by cases h
 | _::_,[],_,h=>by cases h
 | (i,v)::l,(j,u)::m,cells,h=>by
  simp only[List.map_cons,List.cons.injEq,Prod.mk.injEq]at h;obtain⟨⟨rfl,h1⟩,h2⟩:=h;unfold Instr.fill;rw[h1]
  split
  ·rfl
  ·split
   ·rfl
   ·exact PZ place l m _ h2
theorem Sk{P:Program}{t:TypeId}{n:Nat}{ps qs:Array (Nat×Value)}{w:World}(h:ps.toList.map (fun p=>(p.1,p.2.cells))=qs.toList.map (fun p=>(p.1,p.2.cells))):(Instr.buildSlice t n ps).run P w=(Instr.buildSlice t n qs).run P w:=by
 unfold Instr.buildSlice;simp only[PZ _ _ _ _ h]
theorem Mp{v:Value}(h:v.oneCell'=true):v.cells=(Value.agg #[v]).cells:=by
 cases v <;> first | rfl | cases h
end Go.E
namespace Go.E
open Go Go.RowKit
section
variable {P:Program}{n:Sz}{ops:Array Oper}{Q:Exit->Act->World->Prop}{L:Env}{w w0:World}{O:List BN}{rest:List Oper}
 {ty:TypeId}{pos:String}{af:Array Edge}{α:Type}{r:Rp α}{x y:Operand}{u v:Value}{t e:TypeId}{H:PH}
end
end Go.E
end
noncomputable section
namespace Go.L
def EC(r:Int):Qq3:=(Go.Utf8.encode r).data.toList
def Q9(l:Qq3)(p:Nat):Nat×Nat:=Go.Utf8.decode ⟨l.toArray⟩ p
end Go.L
namespace Go.E
open Go Go.RowKit
section
variable {P:Program}{n:Sz}{ops:Array Oper}{Q:Exit->Act->World->Prop}{L:Env}{w w0:World}{O:List BN}{rest:List Oper}{d:Nat}{ty t t':TypeId}{pos:String}{af:Array Edge}{x y x':Operand}{l:Qq3}
theorem YZ[Dr]{a:Int}(hx:ev L x=some (.int .i32 a))[ht:Qqq (P.underlying t) (some (.int .i32))][ht':Qqq (P.underlying t') (some .string)]:Bu P L w (.convert t t' x) ty (.string ⟨(Go.L.EC a).toArray⟩):=by
 intro w' _ ρ hρ dst pos af g;have e:(⟨(Go.L.EC a).toArray⟩:ByteArray)=Utf8.encode a:=by unfold Go.L.EC;rw[Array.toArray_toList]
 rw[e];simp[execOp,hρ x _ hx,convert,run_underlying ht.e,run_underlying ht'.e,Conv.intToString]
theorem UW[Dr](hx:ev L x=some (.string ⟨l.toArray⟩))[ht:Qqq (P.underlying t) (some .string)][hn:Qqq (Qzz d n.n) true](hL:AW w0 O w)
  (h:∀w' b,AW w0 (.obj b (.stringIter ⟨l.toArray⟩ 0)::O) w'->Le (fz w O) (fz w' (.obj b (.stringIter ⟨l.toArray⟩ 0)::O))->S P n ops Q rest ((d,.pointer (some ⟨b,0,none⟩))::L) w'):S P n ops Q (⟨some d,.range t x,ty,pos,af,none⟩::rest) L w:=by
 have hb:∀b,(BN.obj w.heap.size (.stringIter ⟨l.toArray⟩ 0)).block=some b->w.heap.size<=b:=fun b e=>by cases e;exact Qzx _
 refine E3 (v:=.pointer (some ⟨w.heap.size,0,none⟩)) (w':=w.alloc (.stringIter ⟨l.toArray⟩ 0)) hn.e (fun ρ hρ=>?_) (h _ _ (hL.new (Ej w _) (World.alloc_heap_new w _) hb) (PG hL (Ej w _) hb));simp[execOp,Instr.range,run_underlying ht.e,hρ x _ hx,newObj,Sem.run]
theorem Ws[Dr](i:Nat){b p:Nat}(hx:ev L x=some (.pointer (some ⟨b,0,none⟩)))[hn:Qqq (Qzz d n.n) true](hL:AW w0 O w)(hi:D5 O i=some (.obj b (.stringIter ⟨l.toArray⟩ p)))
  (h1:p<l.length->∀w',AW w0 (Di O i (.obj b (.stringIter ⟨l.toArray⟩ (p+(Go.L.Q9 l p).2)))) w'->Le (fz w O) (fz w' (Di O i (.obj b (.stringIter ⟨l.toArray⟩ (p+(Go.L.Q9 l p).2)))))->S P n ops Q rest ((d,.tuple #[.bool true,.int .i64 (p:Int),.int .i32 ((Go.L.Q9 l p).1:Int)])::L) w')
  (h2 : ¬p<l.length->S P n ops Q rest ((d,.tuple #[.bool false])::L) w):S P n ops Q (⟨some d,.next x true,ty,pos,af,none⟩::rest) L w:=by
 have hb:w.heap[b]? = some (.stringIter ⟨l.toArray⟩ p):=hL.at hi;have hs:(ByteArray.mk l.toArray).size=l.length:=by simp[Qxk]
 by_cases hp:p<l.length
 ·have hr:=Lib.run_next_any_at (P:=P) w b ⟨l.toArray⟩ p ty hb (by rw[hs];exact hp);have hput:=hL.putAt (.stringIter ⟨l.toArray⟩ (p+(Go.L.Q9 l p).2)) hi;refine E3 (v:=.tuple #[.bool true,.int .i64 (p:Int),.int .i32 ((Go.L.Q9 l p).1:Int)]) (w':=_) hn.e (fun ρ hρ=>?_) (h1 hp _ hput.1 hput.2);have e:w.iterAt b ⟨l.toArray⟩ (p+(Utf8.decode ⟨l.toArray⟩ p).2)=w.putObj b (.stringIter ⟨l.toArray⟩ (p+(Go.L.Q9 l p).2)):=Z;rw[e]at hr;simp[execOp,hρ x _ hx,hr,Go.L.Q9]
 ·have hr:=Lib.run_next_end_at (P:=P) w b ⟨l.toArray⟩ p ty hb (by rw[hs];exact hp);refine E3 (v:=.tuple #[.bool false]) (w':=w) hn.e (fun ρ hρ=>?_) (h2 hp);simp[execOp,hρ x _ hx,hr]
end
section
variable {κ:Type}{enc:κ->Value}{k:κ}
end
section
variable {κ α:Type} [DecidableEq κ] {k:κ}{l:List (κ×List α)}
end
section
variable {P:Program}{n:Sz}{ops:Array Oper}{Q:Exit->Act->World->Prop}{L:Env}{w w0:World}{O:List BN}{rest:List Oper}{d:Nat}{ty ty' t mt kt et e:TypeId}{pos pos':String}{af af':Array Edge}{x y x' m':Operand}
 {κ α:Type} [DecidableEq κ] {enc:κ->Value}{cw:α->Qq5}{sz:Nat}{l:List (κ×List α)}{vs:Qq5}{k:κ}{H:PH}{A:List BN}
end
end Go.E
end
noncomputable section
namespace Go.E
open Go Go.RowKit
def Wt(v v':Value)(lo:Nat):Prop:=∃a m cap,v=.slice a m cap/\lo<=m/\m<=cap/\v'=.slice (if cap=lo then a else a.map (·.add lo)) (m - lo) (cap - lo)
theorem Wt.vec{α:Type}{r:Rp α}{H:PH}{v v':Value}{lo:Nat}{l:List α}(h:Wt v v' lo)(hv:AL r H v l)(hr:r.sz=1):AL r H v' (l.drop lo):=by
 obtain⟨a,m,cap,rfl,h1,h2,rfl⟩:=h;obtain⟨a',cap',he⟩:=hv.header;have hm:m=l.length:=by cases he;rfl
 subst hm;obtain⟨a2,c,f,hs⟩:=hv.sub lo l.length h1 (Qzx _)
 cases f
 rw[hr,Qzy,Qz3 Qqc]at hs;exact hs
section
variable {P:Program}{n:Sz}{ops:Array Oper}{Q:Exit->Act->World->Prop}{L:Env}{w w0:World}{O:List BN}{rest:List Oper}{d:Nat}
 {ty:TypeId}{pos:String}{af:Array Edge}{α:Type}{r:Rp α}{x a b:Operand}{v:Value}{t e:TypeId}{H:PH}{k:IntKind}{lo:Int}{m:Nat}{zz:Value}{bt:Nat}{xs:Qq5}
theorem XX[Dr](i:Nat)(hx:ev L x=some v)[ha:Qqq (ev L a) (some (.int k lo))](ht:P.underlying t=some (.slice e))[hz:Qqx P e zz 1 bt](hL:AW w0 O w)(hi:D5 O i=some (.row v e 1 m xs))(hc:0<=lo/\lo<=(m:Int))[hn:Qqq (Qzz d n.n) true]
  (h:∀v',Wt v v' lo.toNat->S P n ops Q rest ((d,v')::L) w):S P n ops Q (⟨some d,.slice t x (some a) none none,ty,pos,af,none⟩::rest) L w:=by
 have hown:w.ownsRow 0 e 1 v m xs:=hL.at hi;obtain⟨inf,b,f,c,j⟩:=hz.e.parts;obtain⟨q,rfl⟩:=QzD hc.1;have hq:q<=m:=by omega
 have hqi:(q:Int)<=(m:Int):=hc.2
 have key:∃A cap,v=.slice A m cap/\m<=cap:=by
  rcases hown.2 with ⟨rfl,rfl⟩ | ⟨g,cp,cur,rfl,hbg,hg,hnc,hcm,hcs,htake⟩
  ·exact⟨none,0,Z,Qzx _⟩
  ·exact⟨_,cp,Z,hnc⟩
 obtain⟨A,cap,rfl,hmc⟩:=key;refine Ag (fun w' _ ρ hρ dst pos af g=>?_) (hn:=⟨hn.e⟩) (h _ ⟨A,m,cap,Z,hq,hmc,Z⟩);simp[execOp,hρ x _ hx,hρ a _ ha.e,Instr.sliceAt,run_underlying ht,Instr.slice,Instr.sliceBounds,Instr.sliceBound,asIntOf,sizeOf,typeInfo,b,c,hqi,hq]
theorem XY[Dr](i:Nat){j:Int}{l:List α}(hx:ev L x=some v)[hb:Qqq (ev L b) (some (.int k j))](ht:P.underlying t=some (.slice e))[hz:Qqx P e zz 1 bt][hr:Qqq r.sz 1](hH:Le H (hp w0))(hL:AW w0 O w)(hi:D5 O i=some (.row v e 1 l.length xs))(he:A5 r (gz H w0 w O) l xs)(hc:0<=j/\j<=(l.length:Int))[hn:Qqq (Qzz d n.n) true]
  (h:∀v' xs',AW w0 (Di O i (.row v' e 1 (l.take j.toNat).length xs')) w->Le (fz w O) (fz w (Di O i (.row v' e 1 (l.take j.toNat).length xs')))->A5 r (gz H w0 w (Di O i (.row v' e 1 (l.take j.toNat).length xs'))) (l.take j.toNat) xs'->S P n ops Q rest ((d,v')::L) w):S P n ops Q (⟨some d,.slice t x none (some b) none,ty,pos,af,none⟩::rest) L w:=by
 have hown:w.ownsRow 0 e 1 v l.length xs:=hL.at hi;obtain⟨inf,m,s,o,z⟩:=hz.e.parts;obtain⟨q,rfl⟩:=QzD hc.1;have hq:q<=l.length:=by omega
 rw[Int.toNat_natCast]at h;have hlt:(l.take q).length=q:=by rw[QzA];omega
 have hel:∀(l:List α) (xs:Qq5) (G:PH),A5 r G l xs->A5 r G (l.take q) (xs.take q):=by
  intro l xs G he
  have hgen:∀(q:Nat),A5 r G (l.take q) (xs.take q):=by
   induction he with
   | nil=>intro q;simp;exact .nil
   | @cons y l c cs hy hl ih=>
    intro q;have a:c.length=1:=by rw[r.len hy,hr.e]
    obtain⟨u,rfl⟩:=List.length_eq_one_iff.1 a
    cases q with
    | zero=>simp;exact .nil
    | succ q=>exact .cons hy (ih q)
  exact hgen q
 have key:∃A cap,v=.slice A l.length cap/\l.length<=cap/\(∀b,(BN.row (.slice A q cap) e 1 q (xs.take q)).block=some b->(BN.row v e 1 l.length xs).block=some b)/\(BN.row (.slice A q cap) e 1 q (xs.take q)).ok w/\(A.map (·.add 0)=A):=by
  rcases hown.2 with ⟨rfl,p⟩ | ⟨g,cp,cur,rfl,hbg,hg,hnc,hcm,hcs,htake⟩
  ·have f:q=0:=by omega
   subst f;refine⟨none,0,by rw[p],by omega,fun b h=>h,⟨by simp,.inl ⟨Z,Z⟩⟩,Z⟩
  ·refine⟨_,cp,Z,hnc,fun b h=>h,⟨?_,.inr ⟨g,cp,cur,Z,hbg,hg,by omega,hcm,hcs,?_⟩⟩,Z⟩
   ·rw[QzA,hown.1];omega
   ·rw[<- htake,List.take_take,Qzy,Qzy,Nat.min_eq_left hq]
 obtain⟨A,cap,rfl,hmc,hbl,hok,hA⟩:=key;have hqc:(q:Int)<=(cap:Int):=by omega
 have hqc':q<=cap:=by omega
 have h1:=hL.LU hi (Qzx _) (World.grownBy.refl _ _) hok (fun b e=>.inl (hbl b e));have h2:=Hv (r':=.row (.slice A q cap) e 1 q (xs.take q)) hL hi (World.grownBy.refl _ _) (fun b e=>.inl (hbl b e));have h':=h (.slice A q cap) (xs.take q);rw[hlt]at h';refine Ag (fun w' _ ρ hρ dst pos af g=>?_) (hn:=⟨hn.e⟩) (h' h1 h2 ((hel l xs _ he).mono (Ac h2)));simp[execOp,hρ x _ hx,hρ b _ hb.e,Instr.sliceAt,run_underlying ht,Instr.slice,Instr.sliceBounds,Instr.sliceBound,asIntOf,sizeOf,typeInfo,m,o,hqc,hqc',hA]
theorem UX[Dr](i:Nat){v':Value}{q:Nat}{l:List α}{z:α}[hx:Qqq (ev L x) (some v')](hs:Wt v v' q)(ht:P.underlying t=some (.slice e))[hz:Qqx P e zz 1 bt][hr:Qqq r.sz 1][hzc:Qqq zz.cells (#[zz])][h1:Qqq zz.oneCell' true](hH:Le H (hp w0))(hL:AW w0 O w)(hi:D5 O i=some (.row v e 1 l.length xs))(he:A5 r (gz H w0 w O) l xs)(hrz:∀G,r.rel G z [zz])
  (h:∀w' xs',AW w0 (Di O i (.row v e 1 (l.take q++Qzw (l.length - q) z).length xs')) w'->Le (fz w O) (fz w' (Di O i (.row v e 1 (l.take q++Qzw (l.length - q) z).length xs')))->A5 r (gz H w0 w' (Di O i (.row v e 1 (l.take q++Qzw (l.length - q) z).length xs'))) (l.take q++Qzw (l.length - q) z) xs'->S P n ops Q rest L w') :
  S P n ops Q (⟨none,.call ⟨.builtin .clear,#[x],#[t]⟩,ty,pos,af,none⟩::rest) L w:=by
 have hx:=hx.e
 have hown:w.ownsRow 0 e 1 v l.length xs:=hL.at hi;obtain⟨inf,i1,i2,i3,i4⟩:=hz.e.parts;have hxl:xs.length=l.length:=by rw[hown.1,Qzy]
 have s:∀(G:PH) (l:List α) (xs:Qq5),A5 r G l xs->∀q,A5 r G (l.take q++Qzw (l.length - q) z) (xs.take q++Qzw (l.length - q) zz):=by
  intro G l xs he
  have hrep:∀k,A5 r G (Qzw k z) (Qzw k zz):=by
   intro k
   induction k with
   | zero=>exact .nil
   | succ k ih=>exact .cons (hrz G) ih
  induction he with
  | nil=>intro q;simp;exact .nil
  | @cons y l c cs hy hl ih=>
   intro q;have ab:c.length=1:=by rw[r.len hy,hr.e]
   obtain⟨u,rfl⟩:=List.length_eq_one_iff.1 ab
   cases q with
   | zero=>simpa using hrep (l.length+1)
   | succ q=>
    have:=ih q;simp only[List.take_succ_cons,List.cons_append,List.length_cons,Nat.add_sub_add_right];exact .cons hy this
 have hel:∀G,A5 r G l xs->A5 r G (l.take q++Qzw (l.length - q) z) (xs.take q++Qzw (l.length - q) zz):=fun G he=>s G l xs he q;have hle:(l.take q++Qzw (l.length - q) z).length=l.length:=by simp;omega
 rw[hle]at h;obtain⟨a,m,cap,hv,hq,hmc,rfl⟩:=hs
 by_cases o:l.length - q=0
 ·have hm:m=l.length:=by
   rcases hown.2 with ⟨p,h0⟩ | ⟨g,cp,cur,d,_⟩
   ·rw[p]at hv;cases hv;exact h0.symm
   ·rw[d]at hv;cases hv;rfl
  subst hm;have e0:l.take q++Qzw (l.length - q) z=l:=by rw[o,List.replicate_zero,Qxv,Qz3 U]
  rw[e0]at h
  have hrun:(Builtin.clear_ #[t] ty #[.slice (if cap=q then a else a.map (·.add q)) (l.length - q) (cap - q)]).run P w=.ok (.tuple #[]) w:=by
   rw[o];generalize (if cap=q then a else a.map (·.add q))=A'
   cases A' <;> simp[Builtin.clear_,run_underlying ht]
  refine RL (v:=.tuple #[]) (w':=w) (fun ρ hρ=>by simp[execOp,resolve,invoke,builtin,hρ x _ hx,hrun]) ?_;have t1:=hL.LU hi (Qzx _) (World.grownBy.refl _ _) (hL.at hi) (fun b e=>.inl e);have f:=Hv (r':=.row v e 1 l.length xs) hL hi (World.grownBy.refl _ _) (fun b e=>.inl e);exact h w xs t1 f (he.mono (Ac f))
 ·rcases hown.2 with ⟨p,h0⟩ | ⟨g,cp,cur,d,hbg,hg,hnc,hcm,hcs,htake⟩
  ·omega
  ·rw[d]at hv
   cases hv
   have hcur:cur.size=cap:=by rw[hcs,Qzy]
   have hqc : ¬cap=q:=by omega
   rw[if_neg hqc]at hx
   have hcell:∀j,j<l.length - q->(w.cell? ⟨g,q+j,none⟩).isSome=true:=fun j hj=>by
    have:q+j<cur.size:=by omega
    simp[World.cell?,hg,this]
   have hfr:∀j,j<l.length - q->w.frozen? ⟨g,q+j,none⟩=false:=fun j hj=>by simp[World.frozen?,hg]
   have hzero:∀w,(zeroValue e).run P w=.ok zz w:=fun w=>by simp[zeroValue,typeInfo,i1,i2]
   have hst:=run_storeCells_at P g q e (Qzw (l.length - q) zz) 0 cur w hg (by simp;omega) (by intro u hu;rw[List.eq_of_mem_replicate hu];exact h1.e);simp only[Nat.add_zero,List.length_replicate]at hst;obtain⟨C,hC⟩:∃C,C=(cur.toList.take q++Qzw (l.length - q) zz++cur.toList.drop (q+(l.length - q))).toArray:=⟨_,Z⟩;rw[<- hC]at hst
   have hrun:(Builtin.clear_ #[t] ty #[.slice (some ⟨g,q,none⟩) (l.length - q) (cap - q)]).run P w=.ok (.tuple #[]) (w.setRow g C):=by
    have h2:=Lib.run_clear_slice (P:=P) w t e ty zz ht hzero hzc.e h1.e g q (l.length - q) (cap - q) U hcell hfr;have h3:=run_storeCells_cells (P:=P) g q (Qzw (l.length - q) zz) 0 w (by simpa using hcell) (by simpa using hfr) (by intro u hu;rw[List.eq_of_mem_replicate hu];exact h1.e);simp only[Nat.add_zero]at h3;rw[hst]at h3;rw[h2]
    injection h3 with _ h4
    rw[h4]
   have hgr:=Lk w g C;have hh:=Mn w g cur C e hg
   have hok:BN.ok (w.setRow g C) (.row v e 1 l.length (xs.take q++Qzw (l.length - q) zz)):=by
    subst d;refine⟨by simp;omega,.inr ⟨g,cap,C,Z,hbg,hh,hnc,hcm,by rw[hC];simp;omega,?_⟩⟩;rw[hC,List.toList_toArray,<- htake,Qzy,List.take_take,Nat.min_eq_left hq,List.take_append];have ad:(cur.toList.take q++Qzw (l.length - q) zz).length=l.length:=by simp;omega
    rw[Qz3 U,ad,Nat.sub_self,List.take_zero,Qxv]
   have hgr':w.grownBy (w.setRow g C) (BN.row v e 1 l.length xs).block:=by subst d;exact hgr
   have hdr:w.drawn<=(w.setRow g C).drawn:=Qzx _;have t1:=hL.LU hi hdr hgr' hok (fun b e=>.inl e);have f:=Hv (r':=.row v e 1 l.length (xs.take q++Qzw (l.length - q) zz)) hL hi hgr' (fun b e=>.inl e);have hx':ev L x=some (.slice (some ⟨g,q,none⟩) (l.length - q) (cap - q)):=by rw[hx];simp[Addr.add];exact fun e=>e.symm
   refine RL (v:=.tuple #[]) (w':=w.setRow g C) (fun ρ hρ=>by simp[execOp,resolve,invoke,builtin,hρ x _ hx',hrun])<|h _ _ t1 f ((hel _ he).mono (Ac f))
end
instance ZL:Dr:=⟨false⟩
theorem Ext.off{w w':World}(h:Below w.heap.size w w'):Ext w w':=⟨h,fun o=>absurd o Qqb⟩
structure Cb (P:Program) (a:World) (H:PH) (f:FuncId) (cap:Qq5) {σ:Type} (J:σ->List BN->PH->Prop) (step:σ->Qq3×Int×Int×Qq3->Option σ):Prop where
 mono:∀{s:σ}{R:List BN}{G G':PH},Le G G'->J s R G->J s R G'
 ok:∀{w:World}{O R:List BN}{s s':σ}{x:Qq3×Int×Int×Qq3},AW a (Qzu O R) w->J s R (gz H a w (Qzu O R))->step s x=some s'->
  Ok P f (YY x::cap) w (fun v w'=>v=.tuple #[]/\∃R':List BN,AW a (Qzu O R') w'/\Le (fz w (Qzu O R)) (fz w' (Qzu O R'))/\J s' R' (gz H a w' (Qzu O R')))
section
variable {P:Program}{n:Sz}{ops:Array Oper}{Q:Exit->Act->World->Prop}{L:Env}{w w0:World}{O:List BN}{rest:List Oper}{d:Nat}{ty t t':TypeId}{pos:String}{af:Array Edge}{x y:Operand}{v:Value}{e:TypeId}{pv:Value}
theorem Lo{b m e:Nat}{a:Int}{k:IntKind}{zz:Value}{bt len:Nat}(hx:ev L x=some (.pointer (some ⟨b,0,none⟩)))[hy:Qqq (ev L y) (some (.int k a))][ht:Qqq (P.underlying t) (some (.array len e))][he:Qqx P e zz 1 bt][hl:Qqq (Qzz 1 len) true](hm:0<=a/\a<(len:Int))(hmm:a.toNat=m):Bu P L w (.indexAddr t x y) ty (.pointer (some ⟨b,m,none⟩)):=by
 have hl:=hl.e
 intro w' _ ρ hρ dst pos af g;obtain⟨inf,c,f,d,i⟩:=he.e.parts;have hl' : ¬len<=1:=by simp only[Nat.blt_eq]at hl;omega
 have i3':inf.size=1:=by rw[d]
 simp[execOp,hρ x _ hx,hρ y _ hy.e,Instr.indexAt,asIntOf,run_underlying ht.e,Instr.sureAddr,sizeOf,typeInfo,c,i3',hm,hmm,Addr.add];intro h;exact h.symm
theorem Uc{p:Prop}(b:Bool)(h1:b=true->p)(h2:b=false->p):p:=by
 cases b
 ·exact h2 Z
 ·exact h1 Z
theorem Ek{id:Nat}{l:List Oper}{m:Nat}(hq:GR Q)(Inv:World->World->Prop)(hm:P.follows .mixedOrders=true)(hl:l.length=m)(h:GR Q->∀w',Ext w w'->Nw (Inv w') P n l Q m (MY m []) L w'):W P n (.region id l.toArray true) Q L w:=UP Inv hm hl (h hq)
theorem Gz{Inv:World->Prop}{l:List Oper}{fuel:Nat}{listed:Array Bool}(hI:Inv w)(h:Inv w->Nw Inv P n l Q fuel listed L w):Nw Inv P n l Q fuel listed L w:=h hI
theorem AB{Inv:World->Prop}{l:List Oper}{fuel i m:Nat}{done:List Nat}(hI:Inv w)(h:Inv w->Nw Inv P n l Q fuel (MY m done) L w):S P n l.toArray (X0 Inv P l Q fuel i (MY m done)) [] L w:=XU hI (h hI)
def Qa(K L:Env):Bool:=K.all fun x=>(gt L x.1).isNone
theorem UY{L:Env}{s:Nat}{u:Value}(hu:gt L s=some u):∀K:Env,Qa K L=true->gt (K++L) s=some u
 | [],_=>hu
 | (a,z)::K,h=>by
  simp only[Qa,List.all_cons,Bool.and_eq_true]at h;have ih:=UY hu K h.2
  have hne:QzC a s=false:=by
   cases hb:QzC a s with
   | false=>rfl
   | true=>
    have:=Nat.eq_of_beq_eq_true hb;rw[this,hu]at h;exact absurd h.1 Qqc
  show(bif QzC a s then some z else gt (K++L) s)=some u
  rw[hne];exact ih
theorem Fr.strip{a:Act}{L':Env}{v':Value}(k:Nat)(fr:Fr n a ((d,v')::L'))(hv:v=v')(hl:L'.drop k=L)(hk:Qa (L'.take k) L=true):Fr n a ((d,v)::L):=by
 subst hv;refine⟨fr.size,fr.defers,fun s u hs=>fr.get s u ?_⟩;have e:L'=L'.take k++L:=by rw[<- hl,List.take_append_drop]
 rw[e];have hs':(bif QzC d s then some v else gt L s)=some u:=hs
 show(bif QzC d s then some v else gt (L'.take k++L) s)=some u
 cases hb:QzC d s with
 | true=>rw[hb]at hs';exact hs'
 | false=>rw[hb]at hs';exact UY hs' _ hk
theorem BS{l:List Oper}(m d:Nat)(v:Value)(hb:S P n ops Q (l.drop m) ((d,v)::L) w->S P n ops Q l L w)(h:S P n ops Q (l.drop m) ((d,v)::L) w):S P n ops Q l L w:=hb h
theorem S.to{l:List Oper}{L':Env}{v':Value}(hm:S P n ops Q l ((d,v)::L) w)(k:Nat)(hv:v=v')(hl:L'.drop k=L)(hk:Qa (L'.take k) L=true):S P n ops Q l ((d,v')::L') w:=fun a fr=>hm a (fr.strip k hv hl hk)
def ZA:Nat->Tr->Tr
 | 0,t=>t
 | m+1,.q _ t=>ZA m t
 | _+1,t=>t
theorem Za{l:List Oper}{t:Tr}(m d:Nat)(v:Value)(hb:D P n l Q (ZA m t) ((d,v)::L) w->D P n l Q t L w)(h:D P n l Q (ZA m t) ((d,v)::L) w):D P n l Q t L w:=hb h
theorem D.to{l:List Oper}{t:Tr}{L':Env}{v':Value}(hm:D P n l Q t ((d,v)::L) w)(k:Nat)(hv:v=v')(hl:L'.drop k=L)(hk:Qa (L'.take k) L=true):D P n l Q t ((d,v')::L') w:=fun a fr=>hm a (fr.strip k hv hl hk)
section
variable {b c e:Bool}
theorem FU(h:b=true):Value.bool (b&&c)=.bool c:=by rw[h];rfl
theorem FV(h:b=false):Value.bool (b&&c)=.bool false:=by rw[h];rfl
theorem GS(h:b=true):Value.bool (b||c)=.bool true:=by rw[h];rfl
theorem GU(h:b=false):Value.bool (b||c)=.bool c:=by rw[h];rfl
end
end
end Go.E
end
noncomputable section
namespace Go.Proofs.YtnmkjjgmnbmmnaaGreatDoor
open Go Go.E Go.RowKit
theorem mixed:Tryz.prog.follows .mixedOrders=true:=by kernel_rfl
theorem Qqqm{α:Sort _}{a b:α}(h:a=b):Qqq a b:=⟨h⟩
abbrev uQ3:=Qqqm Tryz.underlying3
abbrev uQ4:=Qqqm Tryz.underlying4
abbrev uQ5:=Qqqm Tryz.underlying5
abbrev uQ9:=Qqqm Tryz.underlying9
abbrev uQ20:=Qqqm Tryz.underlying20
abbrev uQ21:=Qqqm Tryz.underlying21
abbrev uQ22:=Qqqm Tryz.underlying22
abbrev uQ23:=Qqqm Tryz.underlying23
abbrev uQ25:=Qqqm Tryz.underlying25
abbrev uQ27:=Qqqm Tryz.underlying27
abbrev uQ31:=Qqqm Tryz.underlying31
abbrev uQ32:=Qqqm Tryz.underlying32
abbrev uQ34:=Qqqm Tryz.underlying34
abbrev uQ38:=Qqqm Tryz.underlying38
abbrev uQ46:=Qqqm Tryz.underlying46
abbrev uQ50:=Qqqm Tryz.underlying50
abbrev uQ56:=Qqqm Tryz.underlying56
abbrev uQ57:=Qqqm Tryz.underlying57
abbrev uQ60:=Qqqm Tryz.underlying60
abbrev uQ68:=Qqqm Tryz.underlying68
abbrev uQ70:=Qqqm Tryz.underlying70
abbrev uQ75:=Qqqm Tryz.underlying75
abbrev uQ77:=Qqqm Tryz.underlying77
abbrev uQ82:=Qqqm Tryz.underlying82
abbrev uQ105:=Qqqm Tryz.underlying105
abbrev uQ113:=Qqqm Tryz.underlying113
abbrev uQ121:=Qqqm Tryz.underlying121
abbrev uQ129:=Qqqm Tryz.underlying129
abbrev uQ137:=Qqqm Tryz.underlying137
abbrev uQ138:=Qqqm Tryz.underlying138
abbrev uQ144:=Qqqm Tryz.underlying144
abbrev uQ170:=Qqqm Tryz.underlying170
abbrev uQ180:=Qqqm Tryz.underlying180
abbrev uQ219:=Qqqm Tryz.underlying219
abbrev uQ220:=Qqqm Tryz.underlying220
abbrev uQ246:=Qqqm Tryz.underlying246
abbrev uQ248:=Qqqm Tryz.underlying248
abbrev uQ250:=Qqqm Tryz.underlying250
attribute [instance] uQ3 uQ4 uQ5 uQ9 uQ20 uQ21 uQ22 uQ23 uQ25 uQ27 uQ31 uQ32 uQ34 uQ38 uQ46 uQ50 uQ56 uQ57 uQ60 uQ68 uQ70 uQ75 uQ77 uQ82 uQ105 uQ113 uQ121 uQ129 uQ137 uQ138 uQ144 uQ170 uQ180 uQ219 uQ220 uQ246 uQ248 uQ250
instance B4:Qqx Tryz.prog 3 (.int .i64 0) 1 8:=⟨by unfold Zr;kernel_rfl⟩
instance Fv:Qqx Tryz.prog 4 (.bool false) 1 1:=⟨by unfold Zr;kernel_rfl⟩
instance G0:Qqx Tryz.prog 5 (.int .u8 0) 1 1:=⟨by unfold Zr;kernel_rfl⟩
instance LH:Qqx Tryz.prog 9 (.string .empty) 1 16:=⟨by unfold Zr;kernel_rfl⟩
instance CC:Qqx Tryz.prog 22 (.slice none 0 0) 1 24:=⟨by unfold Zr;kernel_rfl⟩
instance Ho:Qqx Tryz.prog 23 (.slice none 0 0) 1 24:=⟨by unfold Zr;kernel_rfl⟩
instance HQ:Qqx Tryz.prog 25 (.agg #[.slice none 0 0]) 1 24:=⟨by unfold Zr;kernel_rfl⟩
instance BB:Qqx Tryz.prog 27 (.agg #[.int .i64 0,.int .i64 0]) 2 16:=⟨by unfold Zr;kernel_rfl⟩
instance Cx:Qqx Tryz.prog 31 (.slice none 0 0) 1 24:=⟨by unfold Zr;kernel_rfl⟩
instance Ig:Qqx Tryz.prog 32 (.slice none 0 0) 1 24:=⟨by unfold Zr;kernel_rfl⟩
instance B5:Qqx Tryz.prog 34 (.agg #[.int .i64 0,.int .i64 0,.slice none 0 0,.slice none 0 0,.slice none 0 0]) 5 88:=⟨by unfold Zr;kernel_rfl⟩
instance E4:Qqx Tryz.prog 38 (.slice none 0 0) 1 24:=⟨by unfold Zr;kernel_rfl⟩
instance Bl:Qqx Tryz.prog 50 (.agg #[.string .empty,.int .i64 0,.slice none 0 0,.int .i64 0,.bool false,.int .i64 0,.int .i64 0,.int .i64 0,.int .i64 0,.int .i64 0,.slice none 0 0,.slice none 0 0]) 12 152:=⟨by unfold Zr;kernel_rfl⟩
instance ZB:Qqx Tryz.prog 57 (.slice none 0 0) 1 24:=⟨by unfold Zr;kernel_rfl⟩
instance UZ:Qqx Tryz.prog 68 (.slice none 0 0) 1 24:=⟨by unfold Zr;kernel_rfl⟩
instance Jv:Qqx Tryz.prog 70 (.agg #[.int .i64 0,.slice none 0 0]) 2 32:=⟨by unfold Zr;kernel_rfl⟩
instance T2:Qqx Tryz.prog 105 (.nilFunc) 1 8:=⟨by unfold Zr;kernel_rfl⟩
instance Hp:Qqx Tryz.prog 137 (.agg (Qxw 256 (.bool false))) 256 256:=⟨by unfold Zr;kernel_rfl⟩
instance Lp:Qqx Tryz.prog 144 (.agg #[.int .u8 0,.int .u8 0,.int .u8 0]) 3 3:=⟨by unfold Zr;kernel_rfl⟩
instance X1:Qqx Tryz.prog 170 (.slice none 0 0) 1 24:=⟨by unfold Zr;kernel_rfl⟩
instance Zb:Qqx Tryz.prog 180 (.slice none 0 0) 1 24:=⟨by unfold Zr;kernel_rfl⟩
theorem Dx(w:World):(Instr.build 27 #[]).run Tryz.prog w=.ok (.agg #[.int .i64 0,.int .i64 0]) w:=by kernel_rfl
theorem QR(a:Int)(b:Int)(w:World):(Instr.build 27 #[(0,.int .i64 a),(1,.int .i64 b)]).run Tryz.prog w=.ok (.agg #[.int .i64 a,.int .i64 b]) w:=by kernel_rfl
theorem T3(w:World):(Instr.build 34 #[]).run Tryz.prog w=.ok (.agg #[.int .i64 0,.int .i64 0,.slice none 0 0,.slice none 0 0,.slice none 0 0]) w:=by kernel_rfl
theorem Wu(a:Int)(w:World):(Instr.build 34 #[(0,.int .i64 a)]).run Tryz.prog w=.ok (.agg #[.int .i64 a,.int .i64 0,.slice none 0 0,.slice none 0 0,.slice none 0 0]) w:=by kernel_rfl
theorem QS(a:Int)(b:Int)(w:World):(Instr.build 34 #[(0,.int .i64 a),(1,.int .i64 b)]).run Tryz.prog w=.ok (.agg #[.int .i64 a,.int .i64 b,.slice none 0 0,.slice none 0 0,.slice none 0 0]) w:=by kernel_rfl
theorem LY(c:Int)(d:Int)(a:Value)(h2:a.oneCell'=true)(b:Value)(h3:b.oneCell'=true)(w:World):(Instr.build 34 #[(0,.int .i64 c),(1,.int .i64 d),(2,a),(3,b)]).run Tryz.prog w=.ok (.agg #[.int .i64 c,.int .i64 d,a,b,.slice none 0 0]) w:=by cases a <;> first | (simp[Value.oneCell']at h2;done) | cases b <;> first | (simp[Value.oneCell']at h3;done) | kernel_rfl
theorem QT(b:Int)(a:Value)(h2:a.oneCell'=true)(w:World):(Instr.build 34 #[(0,.int .i64 b),(2,a)]).run Tryz.prog w=.ok (.agg #[.int .i64 b,.int .i64 0,a,.slice none 0 0,.slice none 0 0]) w:=by cases a <;> first | (simp[Value.oneCell']at h2;done) | kernel_rfl
theorem Sl(c:Int)(a:Value)(h3:a.oneCell'=true)(b:Value)(d:b.oneCell'=true)(w:World):(Instr.build 34 #[(0,.int .i64 c),(3,a),(4,b)]).run Tryz.prog w=.ok (.agg #[.int .i64 c,.int .i64 0,.slice none 0 0,a,b]) w:=by cases a <;> first | (simp[Value.oneCell']at h3;done) | cases b <;> first | (simp[Value.oneCell']at d;done) | kernel_rfl
theorem Ud(b:Int)(a:Value)(c:a.oneCell'=true)(w:World):(Instr.build 34 #[(0,.int .i64 b),(4,a)]).run Tryz.prog w=.ok (.agg #[.int .i64 b,.int .i64 0,.slice none 0 0,.slice none 0 0,a]) w:=by cases a <;> first | (simp[Value.oneCell']at c;done) | kernel_rfl
theorem Wv(a:Value)(b:a.oneCell'=true)(w:World):(Instr.build 50 #[(0,a)]).run Tryz.prog w=.ok (.agg #[a,.int .i64 0,.slice none 0 0,.int .i64 0,.bool false,.int .i64 0,.int .i64 0,.int .i64 0,.int .i64 0,.int .i64 0,.slice none 0 0,.slice none 0 0]) w:=by cases a <;> first | (simp[Value.oneCell']at b;done) | kernel_rfl
theorem Sm(a:Value)(b:Value)(h1:b.oneCell'=true)(c:Value)(h2:c.oneCell'=true)(w:World):(Instr.build 60 #[(0,.agg #[a]),(1,b),(2,c)]).run Tryz.prog w=.ok (.agg #[a,b,c,.int .i64 0]) w:=by cases b <;> first | (simp[Value.oneCell']at h1;done) | cases c <;> first | (simp[Value.oneCell']at h2;done) | kernel_rfl
theorem Ox(w:World):(Instr.build 70 #[]).run Tryz.prog w=.ok (.agg #[.int .i64 0,.slice none 0 0]) w:=by kernel_rfl
theorem Ww(a:Value)(w:World):(Instr.build 77 #[(0,.agg #[a])]).run Tryz.prog w=.ok (.agg #[a,.slice none 0 0,.int .i64 0]) w:=by kernel_rfl
theorem Wx(a:Value)(b:a.oneCell'=true)(w:World):(Instr.build 82 #[(0,a)]).run Tryz.prog w=.ok (.agg #[a,.bool false,.slice none 0 0]) w:=by cases a <;> first | (simp[Value.oneCell']at b;done) | kernel_rfl
theorem Qb(a b c d:Int)(w:World):(Instr.build 220 #[(0,.int .i64 a),(1,.int .i64 b),(2,.int .i64 c),(3,.int .i64 d)]).run Tryz.prog w=.ok (.agg #[.int .i64 a,.int .i64 b,.int .i64 c,.int .i64 d]) w:=by kernel_rfl
theorem Wy(w:World):(Instr.buildSlice 22 0 #[]).run Tryz.prog w=.ok (.slice (some ⟨w.heap.size,0,none⟩) 0 0) (w.alloc (.cells #[] 5)):=by kernel_rfl
theorem Kh(a:Int)(w:World):(Instr.buildSlice 22 1 #[(0,.int .u8 a)]).run Tryz.prog w=.ok (.slice (some ⟨w.heap.size,0,none⟩) 1 1) (w.alloc (.cells #[.int .u8 a] 5)):=by kernel_rfl
theorem Wz(a:Int)(b:Int)(w:World):(Instr.buildSlice 22 2 #[(0,.int .u8 a),(1,.int .u8 b)]).run Tryz.prog w=.ok (.slice (some ⟨w.heap.size,0,none⟩) 2 2) (w.alloc (.cells #[.int .u8 a,.int .u8 b] 5)):=by kernel_rfl
theorem W0(a:Int)(b:Int)(c:Int)(w:World):(Instr.buildSlice 22 3 #[(0,.int .u8 a),(1,.int .u8 b),(2,.int .u8 c)]).run Tryz.prog w=.ok (.slice (some ⟨w.heap.size,0,none⟩) 3 3) (w.alloc (.cells #[.int .u8 a,.int .u8 b,.int .u8 c] 5)):=by kernel_rfl
theorem W2(a:Int)(b:Int)(c:Int)(d:Int)(w:World):(Instr.buildSlice 22 4 #[(0,.int .u8 a),(1,.int .u8 b),(2,.int .u8 c),(3,.int .u8 d)]).run Tryz.prog w=.ok (.slice (some ⟨w.heap.size,0,none⟩) 4 4) (w.alloc (.cells #[.int .u8 a,.int .u8 b,.int .u8 c,.int .u8 d] 5)):=by kernel_rfl
theorem Va(c:Int)(d:Int)(e:Int)(f:Int)(g:Int)(h:Int)(i:Int)(j:Int)(k:Int)(l:Int)(a:Int)(b:Int)(w:World):(Instr.buildSlice 22 12 #[(0,.int .u8 c),(1,.int .u8 d),(2,.int .u8 e),(3,.int .u8 f),(4,.int .u8 g),(5,.int .u8 h),(6,.int .u8 i),(7,.int .u8 j),(8,.int .u8 k),(9,.int .u8 l),(10,.int .u8 a),(11,.int .u8 b)]).run Tryz.prog w=.ok (.slice (some ⟨w.heap.size,0,none⟩) 12 12) (w.alloc (.cells #[.int .u8 c,.int .u8 d,.int .u8 e,.int .u8 f,.int .u8 g,.int .u8 h,.int .u8 i,.int .u8 j,.int .u8 k,.int .u8 l,.int .u8 a,.int .u8 b] 5)):=by kernel_rfl
theorem W3(c d e f g h i j k l a b:Value)(w:World):(Instr.buildSlice 23 1 #[(0,.agg #[c,d,e,f,g,h,i,j,k,l,a,b])]).run Tryz.prog w=.ok (.slice (some ⟨w.heap.size,0,none⟩) 1 1) (w.alloc (.cells #[c,d,e,f,g,h,i,j,k,l,a,b] 50)):=by kernel_rfl
theorem W4(w:World):(Instr.buildSlice 31 0 #[]).run Tryz.prog w=.ok (.slice (some ⟨w.heap.size,0,none⟩) 0 0) (w.alloc (.cells #[] 9)):=by kernel_rfl
theorem M7(a:Value)(b:a.oneCell'=true)(w:World):(Instr.buildSlice 31 1 #[(0,a)]).run Tryz.prog w=.ok (.slice (some ⟨w.heap.size,0,none⟩) 1 1) (w.alloc (.cells #[a] 9)):=by cases a <;> first | (simp[Value.oneCell']at b;done) | kernel_rfl
theorem Rz(a:Value)(c:a.oneCell'=true)(b:Value)(h1:b.oneCell'=true)(w:World):(Instr.buildSlice 31 2 #[(0,a),(1,b)]).run Tryz.prog w=.ok (.slice (some ⟨w.heap.size,0,none⟩) 2 2) (w.alloc (.cells #[a,b] 9)):=
 (Sk (qs:=#[(0,.agg #[a]),(1,.agg #[b])]) (by show([(0,a.cells),(1,b.cells)]:List (Nat×Array Value))=[(0,(Value.agg #[a]).cells),(1,(Value.agg #[b]).cells)];rw[Mp c,Mp h1])).trans V
theorem W5(a:Value)(d:a.oneCell'=true)(b:Value)(h1:b.oneCell'=true)(c:Value)(h2:c.oneCell'=true)(w:World):(Instr.buildSlice 31 3 #[(0,a),(1,b),(2,c)]).run Tryz.prog w=.ok (.slice (some ⟨w.heap.size,0,none⟩) 3 3) (w.alloc (.cells #[a,b,c] 9)):=
 (Sk (qs:=#[(0,.agg #[a]),(1,.agg #[b]),(2,.agg #[c])]) (by show([(0,a.cells),(1,b.cells),(2,c.cells)]:List (Nat×Array Value))=[(0,(Value.agg #[a]).cells),(1,(Value.agg #[b]).cells),(2,(Value.agg #[c]).cells)];rw[Mp d,Mp h1,Mp h2])).trans V
theorem N8(a b c d e:Value)(w:World):(Instr.buildSlice 32 1 #[(0,.agg #[a,b,c,d,e])]).run Tryz.prog w=.ok (.slice (some ⟨w.heap.size,0,none⟩) 1 1) (w.alloc (.cells #[a,b,c,d,e] 34)):=by kernel_rfl
theorem W6(a b c d e:Value)(f g h i j:Value)(w:World):(Instr.buildSlice 32 2 #[(0,.agg #[a,b,c,d,e]),(1,.agg #[f,g,h,i,j])]).run Tryz.prog w=.ok (.slice (some ⟨w.heap.size,0,none⟩) 2 2) (w.alloc (.cells #[a,b,c,d,e,f,g,h,i,j] 34)):=by kernel_rfl
theorem W7(a b c d e:Value)(f g h i j:Value)(k l m n o:Value)(w:World):(Instr.buildSlice 32 3 #[(0,.agg #[a,b,c,d,e]),(1,.agg #[f,g,h,i,j]),(2,.agg #[k,l,m,n,o])]).run Tryz.prog w=.ok (.slice (some ⟨w.heap.size,0,none⟩) 3 3) (w.alloc (.cells #[a,b,c,d,e,f,g,h,i,j,k,l,m,n,o] 34)):=by kernel_rfl
theorem W8(w:World):(Instr.buildSlice 38 0 #[]).run Tryz.prog w=.ok (.slice (some ⟨w.heap.size,0,none⟩) 0 0) (w.alloc (.cells #[] 3)):=by kernel_rfl
theorem LI(a:Int)(w:World):(Instr.buildSlice 38 1 #[(0,.int .i64 a)]).run Tryz.prog w=.ok (.slice (some ⟨w.heap.size,0,none⟩) 1 1) (w.alloc (.cells #[.int .i64 a] 3)):=by kernel_rfl
theorem Oy(a:Int)(b:Int)(w:World):(Instr.buildSlice 38 2 #[(0,.int .i64 a),(1,.int .i64 b)]).run Tryz.prog w=.ok (.slice (some ⟨w.heap.size,0,none⟩) 2 2) (w.alloc (.cells #[.int .i64 a,.int .i64 b] 3)):=by kernel_rfl
theorem O0(a:Int)(b:Int)(c:Int)(w:World):(Instr.buildSlice 38 3 #[(0,.int .i64 a),(1,.int .i64 b),(2,.int .i64 c)]).run Tryz.prog w=.ok (.slice (some ⟨w.heap.size,0,none⟩) 3 3) (w.alloc (.cells #[.int .i64 a,.int .i64 b,.int .i64 c] 3)):=by kernel_rfl
theorem W9(a:Int)(b:Int)(c:Int)(d:Int)(w:World):(Instr.buildSlice 38 4 #[(0,.int .i64 a),(1,.int .i64 b),(2,.int .i64 c),(3,.int .i64 d)]).run Tryz.prog w=.ok (.slice (some ⟨w.heap.size,0,none⟩) 4 4) (w.alloc (.cells #[.int .i64 a,.int .i64 b,.int .i64 c,.int .i64 d] 3)):=by kernel_rfl
theorem WA(a:Value)(b:a.oneCell'=true)(w:World):(Instr.buildSlice 46 1 #[(0,a)]).run Tryz.prog w=.ok (.slice (some ⟨w.heap.size,0,none⟩) 1 1) (w.alloc (.cells #[a] 31)):=by cases a <;> first | (simp[Value.oneCell']at b;done) | kernel_rfl
theorem WB(a:Value)(b:a.oneCell'=true)(w:World):(Instr.buildSlice 57 1 #[(0,a)]).run Tryz.prog w=.ok (.slice (some ⟨w.heap.size,0,none⟩) 1 1) (w.alloc (.cells #[a] 38)):=by cases a <;> first | (simp[Value.oneCell']at b;done) | kernel_rfl
theorem Vb(a:Value)(b:a.oneCell'=true)(w:World):(Instr.buildSlice 180 1 #[(0,a)]).run Tryz.prog w=.ok (.slice (some ⟨w.heap.size,0,none⟩) 1 1) (w.alloc (.cells #[a] 22)):=by cases a <;> first | (simp[Value.oneCell']at b;done) | kernel_rfl
theorem Mq:Tryz.prog.eqGuardType Tryz.prog.depth 27=false:=by kernel_rfl
theorem OK(a b c e:Int)(w:World):(Op.equalIn 10000 27 (.agg #[.int .i64 a,.int .i64 b]) (.agg #[.int .i64 c,.int .i64 e])).run Tryz.prog w=.ok (decide (a=c/\b=e)) w:=
 XN (by kernel_rfl) (by kernel_rfl) (by kernel_rfl : (Tryz.prog.fieldsOf 27).toList = [{ name := "Code", type := 3, offset := 0, embedded := false, tag := "", pkgPath := "", byteOffset := 0 }, { name := "Index", type := 3, offset := 1, embedded := false, tag := "", pkgPath := "", byteOffset := 8 }]) ⟨by decide, rfl⟩ ⟨by decide, rfl⟩ Tryz.underlying3 Tryz.underlying3 a b c e w
end Go.Proofs.YtnmkjjgmnbmmnaaGreatDoor
end
noncomputable section
namespace Go.Proofs.YtnmkjjgmnbmmnaaGreatDoor
open Go Go.E Go.RowKit Go.Shelf
def Jm(H:PH):Prop:=
 (∀w, Le H (hp w) -> Lib.TabIs Tryz.prog w "internal/strconv.uint64pow10" .u64 Lib.pow10Tab) /\
 (∃t p,I6 H ⟨Tryz.MZ.g 15,0,none⟩=some (.iface t p))/\(∃t p,I6 H ⟨Tryz.MZ.g 16,0,none⟩=some (.iface t p))/\
 (∀w, Le H (hp w) -> Lib.TabIs Tryz.prog w "strings.asciiSpace" .u8 Lib.asciiSpaceTab)
theorem Jm.mono{H H':PH}(h:Jm H)(hs:Le H H'):Jm H':=by
 obtain⟨h1,⟨t,p,h3⟩,⟨t',p',a⟩,b⟩:=h;exact⟨fun w hw=>h1 w (hs.trans hw),⟨t,p,JO hs h3⟩,⟨t',p',JO hs a⟩,fun w hw=>b w (hs.trans hw)⟩
end Go.Proofs.YtnmkjjgmnbmmnaaGreatDoor
end
noncomputable section
namespace Go.E
open Go Go.RowKit
section
variable {P:Program}{n:Sz}{ops:Array Oper}{Q:Exit->Act->World->Prop}{L:Env}{w:World}{rest:List Oper}{d:Nat}{dst:Option Tmp}{ty:TypeId}{pos:String}{af:Array Edge}{pv:Value}
theorem Qc{g:FuncId}{fn:Func}{cap:Qq5}{u u':FrameMode}{rv:Value}{k id a:Nat}{ty1:TypeId}{pos1:String}{af1:Array Edge}{at_:Array TypeId}{y:Code}{R:World->Prop}(L:Env)
  (hf : P.funcs[g]? = some fn) (hname : (fn.name == "runtime.NumGoroutine") = false)
  (hb:fn.body=some (.seq (.region id #[⟨some a,.call ⟨.builtin .recover,#[],at_⟩,ty1,pos1,af1,none⟩] false) y)) (hk:fn.ntmps=k) (hkl:Nat.ble cap.length k=true) (hL:Mz 0 cap=L)
  (f:Qzz a k=true) (hrec:UK pv u u' rv)
  (h:W P ⟨k,[]⟩ y (Ml P fn (fun _ w'=>R w')) ((a,rv)::L) w):YX P g cap u u' w R:=by
 refine⟨⟨fn,_,hf,hname,hb⟩,callsD_of_wpS hf hb fun c0 cs hu=>?_⟩;have fr0:=Rw (k:=k) hkl hL;rw[<- hk]at fr0;refine wpS_seq (wpS_region ?_)
 have i:∀ρ:Operand->Value,(execOp ρ ⟨some a,.call ⟨.builtin .recover,#[],at_⟩,ty1,pos1,af1,none⟩).run P w=.ok .recover w:=fun ρ=>by
  simp[execOp,resolve,invoke,builtin]
 have fr1:Fr ⟨k,[]⟩ ((⟨cap.toArray++Qxw (fn.ntmps - cap.toArray.size) undef,[]⟩:Act).put (some a) rv) ((a,rv)::L):=by rw[hk]at fr0 ⊢;exact fr0.put f
 have hw:=h _ fr1
 have hlast:∀c0':Frame,c0'.mode=u'->({c0 with mode:=u'}:Frame)=c0'->y.wpS P (bodyPostS P fn c0 cs fun e j w'=>(∃v,e=.returned v)/\j=u'/\R w')
   ((⟨cap.toArray++Qxw (fn.ntmps - cap.toArray.size) undef,[]⟩:Act).put (some a) rv) (c0'::cs) w:=by
  intro c0' _ he;refine wpS_of_wp (wp_mono hw fun e a' w' q=>?_)
  cases e with
  | normal=>obtain⟨q1,v,b,u,m,d⟩:=q;exact⟨q1,u',by rw[he],v,b,⟨v,Z⟩,Z,d⟩
  | ret=>obtain⟨q1,v,b,u,m,d⟩:=q;exact⟨q1,u',by rw[he],v,b,⟨v,Z⟩,Z,d⟩
  | panic c=>obtain⟨_,v,q,_⟩:=q;cases q
  | exit id=>exact q.elim
  | goto l=>exact q.elim
  | outgrown=>obtain⟨v,q,_⟩:=q;cases q
 have hr:QzE (#[⟨some a,.call ⟨.builtin .recover,#[],at_⟩,ty1,pos1,af1,none⟩]:Array Oper).size=[0]:=Z;rw[hr];simp only[wpOpsS,List.getElem?_toArray,List.getElem?_cons_zero,Region.wanted,if_true,i]
 cases hrec with
 | no=>
  have:recoverD (c0::cs)=none:=by simp[recoverD,hu]
  simp only[this,Oper.upon];exact hlast c0 hu (by rw[<- hu])
 | yes=>
  have:recoverD (c0::cs)=some (pv,{c0 with mode:=.panicking (XP pv)}::cs):=by simp[recoverD,hu]
  simp only[this,Oper.upon];exact hlast {c0 with mode:=.panicking (XP pv)} Z Z
theorem Vc{t t':TypeId}{x:Operand}{w:World}{ms:Array (String×TypeId)}[hx:Qqq (ev L x) (some .nilIface)][ht:Qqq (P.underlying t) (some (.interface ms))]:Bu P L w (.binOp .eql t x (.const .nilIface) t') ty (.bool true):=fun w' _ ρ hρ _ _ _ _=>by
 have hy:ρ (.const .nilIface)=.nilIface:=hρ _ _ Z;simp[execOp,hρ x _ hx.e,hy,eqGuard,binOp,UI ht.e .nilIface (.inl Z)]
end
section
variable [Dr] {α:Type}{r:Rp α}{H H':PH}{v:Value}{o:Option α}{x:α}{p:Addr}{c:Qq5}
def RH(r:Rp α)(H:PH)(v:Value):Option α->Prop
 | none=>v=.pointer none
 | some x=>∃p c,v=.pointer (some p)/\r.rel H x c/\CJ H p c
omit [Dr] in
theorem RH.nil(r:Rp α)(H:PH):RH r H (.pointer none) none:=Z
omit [Dr] in
theorem RH.mk(h:r.rel H x c)(hp:CJ H p c):RH r H (.pointer (some p)) (some x):=⟨p,c,Z,h,hp⟩
omit [Dr] in
theorem RH.mono(h:RH r H v o)(hs:Le H H'):RH r H' v o:=by
 cases o with
 | none=>exact h
 | some x=>obtain⟨p,c,h1,h2,h3⟩:=h;exact⟨p,c,h1,r.mono hs h2,h3.mono hs⟩
omit [Dr] in
theorem RH.get[Inhabited α](h:RH r H v o)(k:o.isSome=true):∃p c,v=.pointer (some p)/\r.rel H (o.getD Qq1) c/\CJ H p c:=by
 cases o with
 | none=>cases k
 | some x=>exact h
omit [Dr] in
theorem Ue{H:PH}{b:Nat}{cs:Qq5}{t:TypeId}(h:H b=some (.cells cs.toArray t (0,0))):CJ H ⟨b,0,none⟩ cs:=
 ⟨Z,fun j u hu=>by
  simp only[Addr.add_lit,Qzd,I6,h]
  simpa using hu⟩
theorem N9{w a:World}{O:List BN}(ib:Nat){b:Nat}{cs:Qq5}{t:TypeId}(hL:AW a O w)(hib:D5 O ib=some (.box b cs t)):
  AW a (Mm O ib) w/\Le (fz w O) (fz w (Mm O ib))/\CJ (gz H a w (Mm O ib)) ⟨b,0,none⟩ cs:=by
 have hb:w.heap[b]? = some (.cells cs.toArray t (0,0)):=hL.at hib;refine⟨hL.AR hib,Ah (w:=w) hib,Ue (t:=t) ?_⟩;have hge:=hL.own _ ((Ff hib).mem_iff.2 (.head _)) b Z;have c:fz w (Mm O ib) b=w.heap[b]?:=PL hib Z hL.Wc;refine Ou b _ ?_;unfold nf;rw[if_pos hge,c];exact hb
end
section
variable [Dr] {P:Program}{κ β:Type} [DecidableEq κ] {kt t et:TypeId}{enc:κ->Value}{k:κ}{ev':β->Value}{l:List (κ×β)}
omit [Dr] in
def Vd(enc:κ->Value)(ev':β->Value)(H:PH)(v:Value)(l:List (κ×β)):Prop:=
 ∃b,v=.map (some b)/\H b=some (.map (mE enc 0 (l.map Prod.fst) (l.map fun x=>ev' x.2)).toArray l.length)
omit [Dr] [DecidableEq κ] in
theorem Vd.mono{H H':PH}{v:Value}(h:Vd enc ev' H v l)(hs:Le H H'):Vd enc ev' H' v l:=by
 obtain⟨b,h1,h2⟩:=h;exact⟨b,h1,hs _ _ h2⟩
omit [DecidableEq κ] in
end
theorem Uw(n:Nat){l:Qq5}(h:(l.take n).map Value.oneCell'=(l.take n).map fun _=>true)(k:∀u∈l.drop n,u.oneCell'=true):∀u∈l,u.oneCell'=true:=fun u hu=>by
 rw[<- List.take_append_drop n l]at hu
 rcases List.mem_append.1 hu with hu | hu
 ·exact BT h u hu
 ·exact k u hu
section
variable {P:Program}{n:Sz}{ops:Array Oper}{Q:Exit->Act->World->Prop}{L:Env}{w w0:World}{O:List BN}{rest:List Oper}{d:Nat}{ty t kt et:TypeId}{pos:String}{af:Array Edge}{x:Operand}{κ:Type}{enc:κ->Value}{keys:List κ}{vs:Qq5}{m N:Nat}
end
end Go.E
end
noncomputable section
namespace Go.L
inductive Qv where
 | mk (kind:Int) (words:Qq7) (pattern data:Qq3) (low high:Int) (subs:List Qv)
instance:Inhabited Qv:=⟨.mk 0 [] [] [] 0 0 []⟩
abbrev ZV:Type:=Int×Qq7×Qq3×Qq3×Int×Int×List Qv
def Qv.f:Qv->ZV
 | .mk k ws p d l h ss=>(k,ws,p,d,l,h,ss)
end Go.L
end
noncomputable section
namespace Go
abbrev No:Int->Value:=Value.int .i64
abbrev Aaa:Value:=.slice none 0 0
abbrev Aac(b:Nat):Value:=.pointer (some ⟨b,0,none⟩)
abbrev Aad(l:Qq3):Value:=.string ⟨l.toArray⟩
abbrev Aae:=Qq3
abbrev Aaf:Qq5:=[.int .i64 0,.slice none 0 0,.string ⟨([]:Qq3).toArray⟩,.slice none 0 0,.int .i64 0,.int .i64 0,.slice none 0 0]
end Go
namespace Go
abbrev AaE:=Aae×Int×Aae×Int×Bool×Int×Int×Int×Int×Int×(List Aae)×Qq4
end Go
namespace Go.Proofs.YtnmkjjgmnbmmnaaGreatDoor
open Go Go.E Go.RowKit Go.L
set_option maxHeartbeats 1000000
set_option maxRecDepth 10000
open _root_.Go.Proofs.Tryz
def NY(a0:Aae)(a1:Aae):Option Bool:=
 some (decide (a0=a1))
abbrev Qqv[Dr](f:FuncId)(a:Qq5)(w:World)(R:Value->World->Prop):=Ok prog f a w (fun v w'=>Ext w w'/\R v w')
section
variable(w:World)(H:PH)(hH:Le H (hp w)) include hH
theorem QA{a0 a1:Aae}{a b:Value}(c:AL .byte H a a0)(d:AL .byte H b a1){r:Bool}(h:NY a0 a1=some r):
  Qqv 10 [a,b] w (fun v w'=>v=.bool r):=by
 refine AG 10 [(0,a),(1,b)] func10 Z fun hL=>AI 1 Z<|B1 1 Z<|Ag (Tu c (hH.trans hL.arg))<|Ar 1 Z<|Ag (Tu d (hH.trans hL.arg))<|Ag (Ll Z Z)<|A1 1 Z<|Au ?_
 cases h
 refine Aj Z ⟨hL.ext,Z⟩
def Ki(a0 a1:Int):Option (Qq6):=
 some ((a0,a1))
theorem Mr{a0 a1:Int}{r:Qq6}(h:Ki a0 a1=some r):
  Qqv 24 [No a0,No a1] w (fun v w'=>v=.agg #[No r.1,No r.2]):=by
 refine AG 8 [(0,No a0),(1,No a1)] func24 Z fun hL=>Aq<|AZ BB.e Z hL fun e f b c _=>Al<|B1 2 Z<|Ag (B7 (fun _=>QR _ _ _))<|A7 0 Z b Z fun g a d=>Al<|Au ?_
 cases h
 refine DO (.cell Z Aaj Z BB.e (Bo (i:=0) a Z)) ⟨a.ext,Z⟩
def LJ(a0 a1:Int):Option (Qq6):=
 some ((a0,a1))
theorem Lq{a0 a1:Int}{r:Qq6}(h:LJ a0 a1=some r):
  Qqv 62 [No a0,No a1] w (fun v w'=>v=.agg #[No r.1,No r.2]):=by
 refine AG 8 [(0,No a0),(1,No a1)] func62 Z fun hL=>Aq<|AZ BB.e Z hL fun e f b c _=>Al<|B1 2 Z<|Ag (B7 (fun _=>QR _ _ _))<|A7 0 Z b Z fun g a d=>Al<|Au ?_
 cases h
 refine DO (.cell Z Aaj Z BB.e (Bo (i:=0) a Z)) ⟨a.ext,Z⟩
def Hw(a0 a1 a2:Int):Option Bool:=
 some (decide ((a1<=a0)/\(a0<=a2)))
theorem Ih{a0 a1 a2:Int}{r:Bool}(h:Hw a0 a1 a2=some r):
  Qqv 132 [No a0,No a1,No a2] w (fun v w'=>v=.bool r):=by
 refine AG 15 [(0,No a0),(1,No a1),(2,No a2)] func132 Z fun hL=>AI 1 Z<|B1 4 Z<|RN 3 3 Z Z Z Z Z Z<|A1 1 Z<|Au ?_
 cases h
 refine Aj Z ⟨hL.ext,Z⟩
def GV(a0:AaE):Option Int:=
 some (a0.2.2.2.2.2.1)
theorem MV{a0:AaE}{a b c:Value}(_h0_0:AL .byte H a (a0.2.2.1))(_h0_1:AL .st H b (a0.2.2.2.2.2.2.2.2.2.2.1))(_h0_2:AL (.int .i64) H c (a0.2.2.2.2.2.2.2.2.2.2.2)){r:Int}(h:GV a0=some r):
  Qqv 170 [.agg #[Aad a0.1,No a0.2.1,a,No a0.2.2.2.1,.bool a0.2.2.2.2.1,No a0.2.2.2.2.2.1,No a0.2.2.2.2.2.2.1,No a0.2.2.2.2.2.2.2.1,No a0.2.2.2.2.2.2.2.2.1,No a0.2.2.2.2.2.2.2.2.2.1,b,c]] w (fun v w'=>v=No r):=by
 refine AG 5 [(0,.agg #[Aad a0.1,No a0.2.1,a,No a0.2.2.2.1,.bool a0.2.2.2.2.1,No a0.2.2.2.2.2.1,No a0.2.2.2.2.2.2.1,No a0.2.2.2.2.2.2.2.1,No a0.2.2.2.2.2.2.2.2.1,No a0.2.2.2.2.2.2.2.2.2.1,b,c])] func170 Z fun hL=>Aq<|Cj (t:=50) Z Z hL fun f g d e _=>A1 1 Z<|Aq<|Ag (Af Z Aak Z B4.e)<|Ag (Ae 0 Z d Z)<|A1 1 Z<|Au ?_
 cases h
 refine Aj Z ⟨d.ext,Z⟩
def D7:Option Int:=
 some ((-1))
def Cr(a0:Qq4)(a1:Int):Int->Option ((Int)⊕(Int)):=fun a=>
 if a<(a0.length:Int)then Bb (0<=a/\a<(a0.length:Int)) (if a1=a0.getD a.toNat Qq1 then Qzq Sum.inr (some a)else Bb (BH (a+1)) (some (Sum.inl (a+1))))else Qzq Sum.inr D7
def Cy(a0:Qq4)(a1 s:Int):Option Int:=Go.L.run (Cr a0 a1) s
def ED(a0:Qq4)(a1:Int):Option Int:=
 (Cy a0 a1) (0:Int)
theorem Ms{a0:Qq4}{a1:Int}{b:Value}(e:AL (.int .i64) H b a0){r:Int}(h:ED a0 a1=some r):
  Qqv 94 [b,No a1] w (fun v w'=>v=No r):=by
 refine AG 19 [(0,b),(1,No a1)] func94 Z fun hL=>AI 1 Z<|Bm Unit (fun(_:Unit)=>[]) (fun(_:Unit) wr=>AW w [] wr/\D7=some r) ?_ ?_
 ·refine B1 1 Z<|Ag (AT e)<|A1 1 Z<|A8 ?_;obtain⟨f,h⟩:=Bc h;refine Bz (Int×Nat) (fun⟨a,n⟩=>[(0,b),(1,No a1),(7,No (a0.length:Int)),(8,No a)]) (fun⟨a,n⟩ wr=>AW w [] wr/\FW (Cr a0 a1) n a=some r) (fun⟨a,n⟩=>n) (0,f) Z ⟨hL,h⟩ ?_;rintro⟨a,nn36⟩ o ⟨c,h⟩;obtain⟨f,q,rfl,h,d⟩:=Ba h;refine AI 1 Z<|AM<|AS h ?_ ?_<;>intro i h
  ·refine A4<|A2<|AM<|A8<|AI 2 Z<|B1 3 Z<|A3 h fun g h=>Bf e a.toNat (CT g) (AD g) ?_;rintro s _ rfl j;refine Ag (AX j (hH.trans c.arg))<|A1 1 Z<|AS h ?_ ?_<;>intro k h
   ·refine AI 2 Z<|Au<|Ay<|AE<|BM ?_;have h:=BW.out h d;refine Ay<|Bp ?_
    cases h
    refine Aj Z ⟨c.ext,Z⟩
   refine A4<|A9<|A2<|Az<|A3 h fun l h=>Ag (AA l)<|Ar 1 Z<|AP ?_;have h:=BW.again h d;refine AN (_,_) ⟨c,h⟩
  refine Bq<|AK<|AF ?_;have h:=BW.out h d;refine Bj<|AH () ⟨c,h⟩
 rintro _ p ⟨m,h⟩;refine AI 1 Z<|Au ?_
 cases h
 refine Aj Z ⟨m.ext,Z⟩
def Cf(a0:Qq4)(a1:Int):Option Bool:=
 Qq8 (ED a0 a1) (fun a=>some (decide (0<=a)))
theorem Fz{a0:Qq4}{a1:Int}{a:Value}(b:AL (.int .i64) H a a0){r:Bool}(h:Cf a0 a1=some r):
  Qqv 60 [a,No a1] w (fun v w'=>v=.bool r):=by
 refine AG 9 [(0,a),(1,No a1)] func60 Z fun hL=>AI 1 Z<|B1 2 Z<|Av h fun g c h=>A6 hL (Ms _ _ (Ao hL) (b.mono  Ai) c) fun i f d e=>A1 2 Z<|Au ?_
 cases h
 refine Aj Z ⟨d.ext,Z⟩
def Dl:Option Int:=
 some ((-1))
def CW(a0:List Aae)(a1:Aae):Int->Option ((Int)⊕(Int)):=fun a=>
 if a<(a0.length:Int)then Bb (0<=a/\a<(a0.length:Int)) (if a1=a0.getD a.toNat Qq1 then Qzq Sum.inr (some a)else Bb (BH (a+1)) (some (Sum.inl (a+1))))else Qzq Sum.inr Dl
def EE(a0:List Aae)(a1:Aae)(s:Int):Option Int:=Go.L.run (CW a0 a1) s
def CQ(a0:List Aae)(a1:Aae):Option Int:=
 (EE a0 a1) (0:Int)
theorem GM{a0:List Aae}{a1:Aae}{b:Value}(e:AL .st H b a0){r:Int}(h:CQ a0 a1=some r):
  Qqv 33 [b,Aad a1] w (fun v w'=>v=No r):=by
 refine AG 19 [(0,b),(1,(Aad a1))] func33 Z fun hL=>AI 1 Z<|Bm Unit (fun(_:Unit)=>[]) (fun(_:Unit) wr=>AW w [] wr/\Dl=some r) ?_ ?_
 ·refine B1 1 Z<|Ag (AT e)<|A1 1 Z<|A8 ?_;obtain⟨f,h⟩:=Bc h;refine Bz (Int×Nat) (fun⟨a,n⟩=>[(0,b),(1,(Aad a1)),(7,No (a0.length:Int)),(8,No a)]) (fun⟨a,n⟩ wr=>AW w [] wr/\FW (CW a0 a1) n a=some r) (fun⟨a,n⟩=>n) (0,f) Z ⟨hL,h⟩ ?_;rintro⟨a,nn36⟩ o ⟨c,h⟩;obtain⟨f,q,rfl,h,d⟩:=Ba h;refine AI 1 Z<|AM<|AS h ?_ ?_<;>intro i h
  ·refine A4<|A2<|AM<|A8<|AI 2 Z<|B1 3 Z<|A3 h fun g h=>Bf e a.toNat (CT g) (AD g) ?_;rintro s _ rfl j;refine Ag (AX j (hH.trans c.arg))<|Ag (Ll Z Z)<|Al<|AS h ?_ ?_<;>intro k h
   ·refine AI 2 Z<|Au<|Ay<|AE<|BM ?_;have h:=BW.out h d;refine Ay<|Bp ?_
    cases h
    refine Aj Z ⟨c.ext,Z⟩
   refine A4<|A9<|A2<|Az<|A3 h fun l h=>Ag (AA l)<|Ar 1 Z<|AP ?_;have h:=BW.again h d;refine AN (_,_) ⟨c,h⟩
  refine Bq<|AK<|AF ?_;have h:=BW.out h d;refine Bj<|AH () ⟨c,h⟩
 rintro _ p ⟨m,h⟩;refine AI 1 Z<|Au ?_
 cases h
 refine Aj Z ⟨m.ext,Z⟩
def Cg(a0:List Aae)(a1:Aae):Option Bool:=
 Qq8 (CQ a0 a1) (fun a=>some (decide (0<=a)))
theorem DR{a0:List Aae}{a1:Aae}{a:Value}(b:AL .st H a a0){r:Bool}(h:Cg a0 a1=some r):
  Qqv 166 [a,Aad a1] w (fun v w'=>v=.bool r):=by
 refine AG 9 [(0,a),(1,(Aad a1))] func166 Z fun hL=>AI 1 Z<|B1 2 Z<|Av h fun g c h=>A6 hL (GM _ _ (Ao hL) (b.mono  Ai) c) fun i f d e=>A1 2 Z<|Au ?_
 cases h
 refine Aj Z ⟨d.ext,Z⟩
def Eo:Option Int:=
 some ((-1))
def DS(a0:List Bool)(a1:Bool):Int->Option ((Int)⊕(Int)):=fun a=>
 if a<(a0.length:Int)then Bb (0<=a/\a<(a0.length:Int)) (if(a1==(a0.getD a.toNat Qq1))then Qzq Sum.inr (some a)else Bb (BH (a+1)) (some (Sum.inl (a+1))))else Qzq Sum.inr Eo
def FY(a0:List Bool)(a1:Bool)(s:Int):Option Int:=Go.L.run (DS a0 a1) s
def DT(a0:List Bool)(a1:Bool):Option Int:=
 (FY a0 a1) (0:Int)
theorem L9{a0:List Bool}{a1:Bool}{b:Value}(e:AL .bool H b a0){r:Int}(h:DT a0 a1=some r):
  Qqv 127 [b,.bool a1] w (fun v w'=>v=No r):=by
 refine AG 19 [(0,b),(1,.bool a1)] func127 Z fun hL=>AI 1 Z<|Bm Unit (fun(_:Unit)=>[]) (fun(_:Unit) wr=>AW w [] wr/\Eo=some r) ?_ ?_
 ·refine B1 1 Z<|Ag (AT e)<|A1 1 Z<|A8 ?_;obtain⟨f,h⟩:=Bc h;refine Bz (Int×Nat) (fun⟨a,n⟩=>[(0,b),(1,.bool a1),(7,No (a0.length:Int)),(8,No a)]) (fun⟨a,n⟩ wr=>AW w [] wr/\FW (DS a0 a1) n a=some r) (fun⟨a,n⟩=>n) (0,f) Z ⟨hL,h⟩ ?_;rintro⟨a,nn36⟩ o ⟨c,h⟩;obtain⟨f,q,rfl,h,d⟩:=Ba h;refine AI 1 Z<|AM<|AS h ?_ ?_<;>intro i h
  ·refine A4<|A2<|AM<|A8<|AI 2 Z<|B1 3 Z<|A3 h fun g h=>Bf e a.toNat (CT g) (AD g) ?_;rintro s _ rfl j;refine Ag (AX j (hH.trans c.arg))<|Ag (YS Z Z)<|Al<|Bi h ?_ ?_<;>intro k h
   ·refine AI 2 Z<|Au<|Ay<|AE<|BM ?_;have h:=BW.out h d;refine Ay<|Bp ?_
    cases h
    refine Aj Z ⟨c.ext,Z⟩
   refine A4<|A9<|A2<|Az<|A3 h fun l h=>Ag (AA l)<|Ar 1 Z<|AP ?_;have h:=BW.again h d;refine AN (_,_) ⟨c,h⟩
  refine Bq<|AK<|AF ?_;have h:=BW.out h d;refine Bj<|AH () ⟨c,h⟩
 rintro _ p ⟨m,h⟩;refine AI 1 Z<|Au ?_
 cases h
 refine Aj Z ⟨m.ext,Z⟩
def Cl(a0:Aae):Option Aae:=
 Bb (Go.E.Gx 1 (([]:Aae).length+a0.length)) (some ((([]:Aae)++a0)))
theorem Ep{a0:Aae}{a:Value}(b:AL .byte H a a0){r:Aae}(h:Cl a0=some r):
  Qqv 63 [a] w (fun v w'=>∃d,v=d/\Cv 5 .byte H w w' d r):=by
 refine AG 8 [(0,a)] func63 Z fun hL=>AI 1 Z<|AM<|B1 1 Z ?_
 rcases SQ b with ⟨rfl,rfl⟩ | hnn
 ·refine Ag SR<|Al<|Fy<|AI 1 Z<|Au ?_;obtain⟨_,h⟩:=HP h;obtain rfl:=Option.some.inj h;refine AE<|Aj Z ⟨hL.ext,_,Z,SU _ hL hH⟩
 refine Ag (SS hnn)<|Al<|Gw<|A4<|A2<|Aq<|NU ([]:Aae) (r:=.byte) (fun _=>Wy _) (Ch 0) hH hL .nil fun s t p e k f=>Ar 1 Z<|A3 h fun g h=>BL (r:=.byte) 0 ([]:Aae) a0 Z Aag e Z f (b.mono  Ai) g fun u x q c o j=>A1 1 Z<|Au ?_
 cases h
 refine Aj Z ⟨c.ext,_,Z,(c.Hn hH (i:=0) Z j)⟩
def Bx(a0:List Aae):Option ((List Aae)):=
 Bb (Go.E.Gx 16 (([]:List Aae).length+a0.length)) (some ((([]:List Aae)++a0)))
theorem Dm{a0:List Aae}{a:Value}(b:AL .st H a a0){r:(List Aae)}(h:Bx a0=some r):
  Qqv 64 [a] w (fun v w'=>∃d,v=d/\Cv 9 .st H w w' d r):=by
 refine AG 8 [(0,a)] func64 Z fun hL=>AI 1 Z<|AM<|B1 1 Z ?_
 rcases SQ b with ⟨rfl,rfl⟩ | hnn
 ·refine Ag SR<|Al<|Fy<|AI 1 Z<|Au ?_;obtain⟨_,h⟩:=HP h;obtain rfl:=Option.some.inj h;refine AE<|Aj Z ⟨hL.ext,_,Z,SU _ hL hH⟩
 refine Ag (SS hnn)<|Al<|Gw<|A4<|A2<|Aq<|NU ([]:List Aae) (r:=.st) (fun _=>W4 _) (Ch 0) hH hL .nil fun s t p e k f=>Ar 1 Z<|A3 h fun g h=>BL (r:=.st) 0 ([]:List Aae) a0 Z Aan e Z f (b.mono  Ai) g fun u x q c o j=>A1 1 Z<|Au ?_
 cases h
 refine Aj Z ⟨c.ext,_,Z,(c.Hn hH (i:=0) Z j)⟩
def Gg(a0:Qq4):Option (Qq4):=
 Bb (Go.E.Gx 8 (([]:Qq4).length+a0.length)) (some ((([]:Qq4)++a0)))
theorem Mt{a0:Qq4}{a:Value}(b:AL (.int .i64) H a a0){r:Qq4}(h:Gg a0=some r):
  Qqv 167 [a] w (fun v w'=>∃d,v=d/\Cv 3 (.int .i64) H w w' d r):=by
 refine AG 8 [(0,a)] func167 Z fun hL=>AI 1 Z<|AM<|B1 1 Z ?_
 rcases SQ b with ⟨rfl,rfl⟩ | hnn
 ·refine Ag SR<|Al<|Fy<|AI 1 Z<|Au ?_;obtain⟨_,h⟩:=HP h;obtain rfl:=Option.some.inj h;refine AE<|Aj Z ⟨hL.ext,_,Z,SU _ hL hH⟩
 refine Ag (SS hnn)<|Al<|Gw<|A4<|A2<|Aq<|NU ([]:Qq4) (r:=(.int .i64)) (fun _=>W8 _) (Ch 0) hH hL .nil fun s t p e k f=>Ar 1 Z<|A3 h fun g h=>BL (r:=(.int .i64)) 0 ([]:Qq4) a0 Z Aam e Z f (b.mono  Ai) g fun u x q c o j=>A1 1 Z<|Au ?_
 cases h
 refine Aj Z ⟨c.ext,_,Z,(c.Hn hH (i:=0) Z j)⟩
def Dn:Option Bool:=
 some true
def CX(a0:List Aae)(a1:List Aae):Int->Option ((Int)⊕(Bool)):=fun a=>
 if a<(a0.length:Int)then Bb (0<=a/\a<(a0.length:Int)) (Bb (0<=a/\a<(a1.length:Int)) (if a0.getD a.toNat Qq1=a1.getD a.toNat Qq1 then Bb (BH (a+1)) (some (Sum.inl (a+1)))else Qzq Sum.inr (some false)))else Qzq Sum.inr Dn
def EF(a0:List Aae)(a1:List Aae)(s:Int):Option Bool:=Go.L.run (CX a0 a1) s
def BD(a0:List Aae)(a1:List Aae):Option Bool:=
 if(a0.length:Int)=(a1.length:Int)then(EF a0 a1) (0:Int)else some false
theorem Kv{a0 a1:List Aae}{b c:Value}(d:AL .st H b a0)(g:AL .st H c a1){r:Bool}(h:BD a0 a1=some r):
  Qqv 110 [b,c] w (fun v w'=>v=.bool r):=by
 refine AG 26 [(0,b),(1,c)] func110 Z fun hL=>AI 1 Z<|AM<|B1 1 Z<|Ag (AT d)<|Ar 1 Z<|Ag (AT g)<|A1 1 Z<|DP h ?_ ?_<;>intro aa h
 ·refine AI 1 Z<|Au<|AE ?_
  cases h
  refine Aj Z ⟨hL.ext,Z⟩
 refine A4<|A2<|Bm Unit (fun(_:Unit)=>[]) (fun(_:Unit) wr=>AW w [] wr/\Dn=some r) ?_ ?_
 ·refine B1 1 Z<|Ag (AT d)<|A1 1 Z<|A8 ?_;obtain⟨i,h⟩:=Bc h;refine Bz (Int×Nat) (fun⟨a,n⟩=>[(0,b),(1,c),(12,No (a0.length:Int)),(13,No a)]) (fun⟨a,n⟩ wr=>AW w [] wr/\FW (CX a0 a1) n a=some r) (fun⟨a,n⟩=>n) (0,i) Z ⟨hL,h⟩ ?_;rintro⟨a,nn57⟩ ab ⟨j,h⟩;obtain⟨i,ad,rfl,h,e⟩:=Ba h;refine AI 1 Z<|AM<|AS h ?_ ?_<;>intro o h
  ·refine A4<|A2<|AM<|A8<|AI 2 Z<|CI (Qqz 0 9 (.tail 9)) mixed V (fun ae p=>?_);have f:=j.call p;refine BJ 2 Z<|A3 h fun k h=>Fl Z Z Z Aan d a.toNat (CT k) (AD k) Z ?_;rintro af _ rfl s;refine B9 Z (AX s (hH.trans f.arg)) Z<|BJ 2 Z<|A3 h fun l h=>Fl Z Z Z Aan g a.toNat (CT l) (AD l) Z ?_;rintro ag _ rfl t;refine B9 Z (AX t (hH.trans f.arg)) Z<|B9 Z (NN Z Z) Z<|B8 (fun ah u=>?_);have m:=f.call u;refine Al<|DP h ?_ ?_<;>intro x h
   ·refine AI 1 Z<|Au<|Ay<|AE<|BM ?_;have h:=BW.out h e;refine Ay<|Bp ?_
    cases h
    refine Aj Z ⟨m.ext,Z⟩
   refine A4<|A9<|A2<|Az<|A3 h fun y h=>Ag (AA y)<|Ar 1 Z<|AP ?_;have h:=BW.again h e;refine AN (_,_) ⟨m,h⟩
  refine Bq<|AK<|AF ?_;have h:=BW.out h e;refine Bj<|AH () ⟨j,h⟩
 rintro _ ac ⟨z,h⟩;refine AI 1 Z<|Au ?_
 cases h
 refine Aj Z ⟨z.ext,Z⟩
def Kw(a0:Aae)(a1:Aae):Option Bool:=
 some (decide (a0=a1))
theorem Np{a0 a1:Aae}{a b:Value}(c:AL .byte H a a0)(d:AL .byte H b a1){r:Bool}(h:Kw a0 a1=some r):
  Qqv 138 [a,b] w (fun v w'=>v=.bool r):=by
 refine AG 10 [(0,a),(1,b)] func138 Z fun hL=>AI 1 Z<|B1 1 Z<|Ag (Tu c (hH.trans hL.arg))<|Ar 1 Z<|Ag (Tu d (hH.trans hL.arg))<|Ag (Ll Z Z)<|A1 1 Z<|Au ?_
 cases h
 refine Aj Z ⟨hL.ext,Z⟩
def KB(a0:Aae)(a1:Aae):Option Bool:=
 if(a1.length:Int)<=(a0.length:Int)then Bb (0<=(a1.length:Int)/\(a1.length:Int)<=(a0.length:Int)) (Qq8 (Kw (a0.take (a1.length:Int).toNat) a1) (fun a=>some a))else some false
theorem NZ{a0 a1:Aae}{b c:Value}(e:AL .byte H b a0)(d:AL .byte H c a1){r:Bool}(h:KB a0 a1=some r):
  Qqv 97 [b,c] w (fun v w'=>v=.bool r):=by
 refine AG 18 [(0,b),(1,c)] func97 Z fun hL=>AI 1 Z<|B1 1 Z<|Ag (AT e)<|Ar 1 Z<|Ag (AT d)<|Ar 2 Z<|AQ 10 h ?_ ?_<;>intro a h
 ·refine Aa a<|Ag (Ad Z)<|Aa a<|Ag (Ad Z)<|Aa a<|Ag (AT d)<|Aa a<|A3 h fun f h=>J1 e f fun m g=>Aa a<|Ag (Ad Z)<|Aa a<|Av h fun o i h=>A6 hL (Np _ _ (Ao hL) (g.mono  Ai) (d.mono  Ai) i) fun p l j k=>Ag (Ak a Z)<|A1 1 Z<|Au ?_
  cases h
  refine Aj Z ⟨j.ext,Z⟩
 iterate 6 refine Ab a ?_
 refine Ag (Am a Z)<|A1 1 Z<|Au ?_
 cases h
 refine Aj Z ⟨hL.ext,Z⟩
def KC(a0:Aae)(a1:Aae):Option (Aae×Bool):=
 Qq8 (KB a0 a1) (fun a=>if !a then some (a0,false)else Bb (0<=(a1.length:Int)/\(a1.length:Int)<=(a0.length:Int)) (some ((a0.drop (a1.length:Int).toNat),true)))
theorem Oa{a0 a1:Aae}{a b:Value}(c:AL .byte H a a0)(d:AL .byte H b a1){r:Aae×Bool}(h:KC a0 a1=some r):
  Qqv 65 [a,b] w (fun v w'=>∃f,v=.tuple #[f,.bool r.2]/\AL .byte (un H (nw w w')) f (r.1)):=by
 refine AG 15 [(0,a),(1,b)] func65 Z fun hL=>AI 2 Z<|AM<|B1 2 Z<|Av h fun o g h=>A6 hL (NZ _ _ (Ao hL) (c.mono  Ai) (d.mono  Ai) g) fun p m e l=>A1 1 Z<|Bi h ?_ ?_<;>intro i h
 ·refine AI 3 Z<|Au<|AE ?_
  cases h
  refine Aj Z ⟨e.ext,_,Z,(c.mono (GP hH))⟩
 refine A4<|A2<|B1 2 Z<|Ag (AT d)<|A3 h fun j h=>DQ c j fun q k=>A1 2 Z<|Au ?_
 cases h
 refine Aj Z ⟨e.ext,_,Z,(k.mono (GP hH))⟩
end
end Go.Proofs.YtnmkjjgmnbmmnaaGreatDoor
end
noncomputable section
namespace Go.L
def KD(f:Nat->Bool)(m:Nat)(b:Bool):Nat->Bool:=fun i=>if i=m then b else f i
end Go.L
namespace Go.E
open Go Go.RowKit Go.L
def Kj(n:Nat)(x:Nat->Bool):Qq5:=(QzE n).map fun i=>Value.bool (x i)
def Rp.bb(n:Nat):Rp (Nat->Bool):=⟨n,fun _ x c=>c=Kj n x,fun h=>by simp[h,Kj],fun _ h=>h,fun h u hu=>by subst h;obtain⟨i,_,rfl⟩:=List.mem_map.1 hu;rfl⟩
theorem H6(n:Nat)(f:Nat->Bool):(Kj n f).length=n:=by simp[Kj]
theorem SZ{n m:Nat}{f:Nat->Bool}(h:m<n):(Kj n f)[m]? = some (.bool (f m)):=by simp[Kj,h]
theorem WC(n:Nat)(f:Nat->Bool):∀u∈Kj n f,u.oneCell'=true:=fun u hu=>by obtain⟨i,_,rfl⟩:=List.mem_map.1 hu;rfl
theorem T4{n m:Nat}{f:Nat->Bool}{b:Bool}:(Kj n f).set m (.bool b)=Kj n (KD f m b):=by
 refine List.ext_getElem? fun i=>?_;rw[List.getElem?_set,H6]
 by_cases hi:i<n
 ·rw[SZ hi,SZ hi]
  by_cases e:m=i
  ·subst e;simp[hi,KD]
  ·rw[if_neg e,show KD f m b i=f i from if_neg (fun h=>e h.symm)]
 ·have h1:(Kj n f)[i]? = none:=by simp[Kj];omega
  have h2:(Kj n (KD f m b))[i]? = none:=by simp[Kj];omega
  rw[h1,h2]
  by_cases e:m=i
  ·rw[if_pos e,if_neg U]
  ·rw[if_neg e]
theorem Qd(n:Nat):(Value.agg (Qxw n (.bool false))).cells.toList=Kj n fun _=>false:=by
 simp[Value.cells,Kj,List.map_const']
theorem Ux{P:Program}{t:TypeId}{zz:Value}{n bt:Nat}{f:Nat->Bool}(h:Zr P t zz n bt):Zr P t zz (Kj n f).length bt:=by rw[H6];exact h
theorem A5.c12{α:Type}{r:Rp α}{H:PH}{x:α}{l:List α}{d e f g i j k m u8 n a b:Value}{cs:Qq5}(h:r.rel H x [d,e,f,g,i,j,k,m,u8,n,a,b])(t:A5 r H l cs):A5 r H (x::l) (d::e::f::g::i::j::k::m::u8::n::a::b::cs):=.cons (c:=[d,e,f,g,i,j,k,m,u8,n,a,b]) h t
theorem Uf(G:PH)(n:Nat)(f:Nat->Bool):A5 (.bb n) G [f] (Kj n f):=by
 have h:A5 (.bb n) G [f] (Kj n f++[]):=.cons Z .nil
 rwa [Qxv]at h
section
variable [Dr] {P:Program}{n:Sz}{ops:Array Oper}{Q:Exit->Act->World->Prop}{L:Env}{w w0:World}{O:List BN}{rest:List Oper}{ty t t' e:TypeId}{pos:String}{af:Array Edge}{x y:Operand}{H:PH}
theorem Qe(i:Nat){b c m:Nat}{f:Nat->Bool}(hx:ev L x=some (.pointer (some ⟨b,m,none⟩)))[ht:Qqq (P.underlying t) (some .bool)](hL:AW w0 O w)(hi:D5 O i=some (.box b (Kj c f) t'))(hm:m<c):Bu P L w (.load t x) ty (.bool (f m)):=by
 have h1:=(Bo hL hi).add m;rw[Addr.add_lit,Qzd,Qz1 (by rw[H6];exact hm)]at h1;have e:(Kj c f)[m]'(by rw[H6];exact hm)=.bool (f m):=by simp[Kj]
 rw[e]at h1;exact AX (hx:=⟨hx⟩) (ht:=⟨ht.e⟩) h1 (Le.refl _)
theorem Ve{p:Addr}{c m:Nat}{f:Nat->Bool}[hx:Qqq (ev L x) (some (.pointer (some (p.add m))))][ht:Qqq (P.underlying t) (some .bool)](hp':CJ H p (Kj c f))(hm:m<c)(hs:Le H (hp w)):Bu P L w (.load t x) ty (.bool (f m)):=by
 have h1:=hp'.add m;rw[Qz1 (by rw[H6];exact hm)]at h1;have e:(Kj c f)[m]'(by rw[H6];exact hm)=.bool (f m):=by simp[Kj]
 rw[e]at h1;exact AX (hx:=⟨hx.e⟩) (ht:=⟨ht.e⟩) h1 hs
theorem OL{p:Addr}{m:Nat}{a:Int}{k:IntKind}{zz:Value}{bt len:Nat}[hx:Qqq (ev L x) (some (.pointer (some p)))][hy:Qqq (ev L y) (some (.int k a))][ht:Qqq (P.underlying t) (some (.array len e))][he:Qqx P e zz 1 bt][hl:Qqq (Qzz 1 len) true](hm:0<=a/\a<(len:Int))(hmm:a.toNat=m)(hsp:p.spot=none):Bu P L w (.indexAddr t x y) ty (.pointer (some (p.add m))):=by
 have hl:=hl.e
 intro w' _ ρ hρ dst pos af g;obtain⟨inf,c,f,d,i⟩:=he.e.parts;have hl' : ¬len<=1:=by simp only[Nat.blt_eq]at hl;omega
 have i3':inf.size=1:=by rw[d]
 obtain⟨b,o,s⟩:=p;simp only at hsp;subst hsp;simp[execOp,hρ x _ hx.e,hρ y _ hy.e,Instr.indexAt,asIntOf,run_underlying ht.e,Instr.sureAddr,sizeOf,typeInfo,c,i3',hm,hmm,Addr.add]
theorem NA(i:Nat){b c m:Nat}{f:Nat->Bool}{v:Bool}{zz:Value}{bt:Nat}(hx:ev L x=some (.pointer (some ⟨b,m,none⟩)))(hy:ev L y=some (.bool v))[hz:Qqx P t zz 1 bt](hL:AW w0 O w)(hi:D5 O i=some (.box b (Kj c f) t'))(hm:m<c)
  (h:∀w',AW w0 (Di O i (.box b (Kj c (KD f m v)) t')) w'->Le (fz w O) (fz w' (Di O i (.box b (Kj c (KD f m v)) t')))->S P n ops Q rest L w'):S P n ops Q (⟨none,.store t x y,ty,pos,af,none⟩::rest) L w:=by
 refine AY i hx hy Z (hz:=⟨hz.e⟩) hL hi (by rw[H6];simpa using hm) ?_;rw[Rn,T4];exact h
theorem M8(i:Nat){b c:Nat}{f f':Nat->Bool}{zz:Value}{bt:Nat}(hx:ev L x=some (.pointer (some ⟨b,0,none⟩)))(hy:ev L y=some (.agg (Kj c f').toArray))(hz:Zr P t zz c bt)(hL:AW w0 O w)(hi:D5 O i=some (.box b (Kj c f) t'))
  (h:∀w',AW w0 (Di O i (.box b (Kj c f') t')) w'->Le (fz w O) (fz w' (Di O i (.box b (Kj c f') t')))->S P n ops Q rest L w'):S P n ops Q (⟨none,.store t x y,ty,pos,af,none⟩::rest) L w:=
 QM i hx hy (vs:=Kj c f') (by simp[Value.cells]) (Ux hz) hL hi (by rw[H6,H6]) (WC _ _) h
theorem QU(i:Nat){c m j:Nat}{v:Bool}{u:Value}{xs:Qq5}{p:Addr}{e':TypeId}{zz:Value}{bt:Nat}{l:List (Nat->Bool)}{G:PH}[hx:Qqq (ev L x) (some (.pointer (some (p.add m))))](hy:ev L y=some (.bool v))[hz:Qqx P t zz 1 bt](hL:AW w0 O w)(hi:D5 O i=some (.row u e' c l.length xs))(he:A5 (.bb c) G l xs)(hp':J0 u (j * c) p)(hm:m<c)(hj:j<l.length)
  (h:∀w',AW w0 (Di O i (.row u e' c (l.set j (KD (l.getD j Qq1) m v)).length (xs.set (j * c+m) (.bool v)))) w'->Le (fz w O) (fz w' (Di O i (.row u e' c (l.set j (KD (l.getD j Qq1) m v)).length (xs.set (j * c+m) (.bool v)))))->A5 (.bb c) G (l.set j (KD (l.getD j Qq1) m v)) (xs.set (j * c+m) (.bool v))->S P n ops Q rest L w'):S P n ops Q (⟨none,.store t x y,ty,pos,af,none⟩::rest) L w:=by
 have key:∀(l:List (Nat->Bool)) (xs:Qq5) (j:Nat),A5 (.bb c) G l xs->j<l.length->j * c+m<xs.length/\A5 (.bb c) G (l.set j (KD (l.getD j Qq1) m v)) (xs.set (j * c+m) (.bool v)):=by
  intro l
  induction l with
  | nil=>intro xs j _ hj;cases hj
  | cons a l ih=>
   intro xs j he hj
   cases he with
   | cons hc he=>
    rename_i cc ys;obtain rfl:cc=Kj c a:=hc
    cases j with
    | zero=>
     refine⟨by rw[Qzk,H6];omega,?_⟩;rw[Qxx,Qzd,List.set_append_left _ _ (by rw[H6];exact hm),T4];exact .cons Z he
    | succ j=>
     obtain⟨h1,h2⟩:=ih ys j he (by simpa using hj);have d:(j+1) * c+m=c+(j * c+m):=by rw[QzZ];omega
     refine⟨by rw[Qzk,H6];omega,?_⟩;rw[d,List.set_append_right _ _ (by rw[H6];omega),H6,Nat.add_sub_cancel_left];exact .cons Z h2
 obtain⟨h1,h2⟩:=key l xs j he hj;refine PO i hx.e hy Z hz.e hL hi (hp'.add m) h1 fun w' a b=>h w' ?_ ?_ h2
 ·rw[Qz4];exact a
 ·rw[Qz4];exact b
omit [Dr] in
theorem Ta{α:Type}[Inhabited α]{r:Rp α}{G:PH}{u:Value}{z:α}{o:Nat}(ho:o<r.sz):∀(l:List α) (xs:Qq5) (j:Nat),A5 r G l xs->j<l.length->(∀c,r.rel G (l.getD j Qq1) c->r.rel G z (c.set o u))->
  j * r.sz+o<xs.length/\A5 r G (l.set j z) (xs.set (j * r.sz+o) u):=by
 intro l
 induction l with
 | nil=>intro xs j _ hj;cases hj
 | cons a l ih=>
  intro xs j he hj hr
  cases he with
  | cons hc he=>
   rename_i c ys;have hlen:c.length=r.sz:=r.len hc
   cases j with
   | zero=>
    refine⟨by rw[Qzk];omega,?_⟩;rw[Qxx,Qzd,List.set_append_left _ _ U];exact .cons (hr c hc) he
   | succ j=>
    obtain⟨h1,h2⟩:=ih ys j he (by simpa using hj) (fun c hc=>hr c (by simpa using hc));have b:(j+1) * r.sz+o=c.length+(j * r.sz+o):=by rw[QzZ];omega
    refine⟨by rw[Qzk];omega,?_⟩;rw[b,List.set_append_right _ _ U,Nat.add_sub_cancel_left];exact .cons hc h2
theorem Ii{α:Type}[Inhabited α](i:Nat)(r:Rp α)(o j:Nat)(z:α){u v:Value}{l:List α}{xs:Qq5}{p:Addr}{e':TypeId}{zz:Value}{bt:Nat}{G:PH}[hx:Qqq (ev L x) (some (.pointer (some (p.add o))))][hy:Qqq (ev L y) (some u)][hv:Qqq u.oneCell' true][hz:Qqx P t zz 1 bt](hL:AW w0 O w)(hi:D5 O i=some (.row v e' r.sz l.length xs))(he:A5 r G l xs)(hp':J0 v (j * r.sz) p)(hj:j<l.length)(hr:∀c,r.rel G (l.getD j Qq1) c->r.rel G z (c.set o u))
  (h:∀w' xs',AW w0 (Di O i (.row v e' r.sz (l.set j z).length xs')) w'->Le (fz w O) (fz w' (Di O i (.row v e' r.sz (l.set j z).length xs')))->A5 r G (l.set j z) xs'->S P n ops Q rest L w')(ho:o<r.sz:=by decide):S P n ops Q (⟨none,.store t x y,ty,pos,af,none⟩::rest) L w:=by
 obtain⟨h1,h2⟩:=Ta (u:=u) ho l xs j he hj hr;refine PO i hx.e hy.e hv.e hz.e hL hi (hp'.add o) h1 fun w' a b=>h w' _ ?_ ?_ h2
 ·rw[Qz4];exact a
 ·rw[Qz4];exact b
theorem Qf{c m:Nat}{a:Int}{k:IntKind}{f:Nat->Bool}{zz:Value}{bt:Nat}(hx:ev L x=some (.agg (Kj c f).toArray))[hy:Qqq (ev L y) (some (.int k a))][ht:Qqq (P.underlying t) (some (.array c e))][he:Qqq (P.underlying e) (some .bool)][hz:Qqx P e zz 1 bt](hm:0<=a/\a<(c:Int))(hmm:a.toNat=m):Bu P L w (.index t x y) ty (.bool (f m)):=by
 intro w' _ ρ hρ dst pos af g;have hmc:m<c:=by omega
 have h1:=SZ (f:=f) hmc;obtain⟨inf,b,i,d,j⟩:=hz.e.parts;have i3':inf.size=1:=by rw[d]
 simp[execOp,hρ x _ hx,hρ y _ hy.e,Instr.index,asIntOf,run_underlying ht.e,run_underlying he.e,hm,hmm,h1,part,isAgg,sizeOf,typeInfo,b,i3']
end
end Go.E
end
noncomputable section
namespace Go.Proofs.YtnmkjjgmnbmmnaaGreatDoor
open Go Go.E Go.RowKit
theorem Vf(f:Nat->Bool)(w:World):(Instr.buildSlice 138 1 #[(0,.agg (Kj 256 f).toArray)]).run Tryz.prog w=.ok (.slice (some ⟨w.heap.size,0,none⟩) 1 1) (w.alloc (.cells (Kj 256 f).toArray 137)):=by kernel_rfl
end Go.Proofs.YtnmkjjgmnbmmnaaGreatDoor
end
noncomputable section
namespace Go
abbrev AaK:=Go.E.Rp.pair Go.E.Rp.st (Go.E.Rp.pair (Go.E.Rp.int .i64) (Go.E.Rp.pair (Go.E.Rp.vec Go.E.Rp.byte) (Go.E.Rp.pair (Go.E.Rp.int .i64) (Go.E.Rp.pair Go.E.Rp.bool (Go.E.Rp.pair (Go.E.Rp.int .i64) (Go.E.Rp.pair (Go.E.Rp.int .i64) (Go.E.Rp.pair (Go.E.Rp.int .i64) (Go.E.Rp.pair (Go.E.Rp.int .i64) (Go.E.Rp.pair (Go.E.Rp.int .i64) (Go.E.Rp.pair (Go.E.Rp.vec Go.E.Rp.st) (Go.E.Rp.vec (Go.E.Rp.int .i64))))))))))))
end Go
namespace Go.Proofs.YtnmkjjgmnbmmnaaGreatDoor
open Go Go.E Go.RowKit Go.L
set_option maxHeartbeats 1000000
set_option maxRecDepth 10000
open _root_.Go.Proofs.Tryz
def Hx(a0:AaE)(a1:Qq4):Option Bool:=
 Qq8 (Cf a1 a0.2.1) (fun a=>some a)
section
variable(w:World)(H:PH)(hH:Le H (hp w)) include hH
theorem Ij(a0:AaE){a1:Qq4}{a b c d:Value}(_h0_0:AL .byte H a (a0.2.2.1))(_h0_1:AL .st H b (a0.2.2.2.2.2.2.2.2.2.2.1))(_h0_2:AL (.int .i64) H c (a0.2.2.2.2.2.2.2.2.2.2.2))(f:AL (.int .i64) H d a1){r:Bool}(h:Hx a0 a1=some r):
  Qqv 84 [.agg #[Aad a0.1,No a0.2.1,a,No a0.2.2.2.1,.bool a0.2.2.2.2.1,No a0.2.2.2.2.2.1,No a0.2.2.2.2.2.2.1,No a0.2.2.2.2.2.2.2.1,No a0.2.2.2.2.2.2.2.2.1,No a0.2.2.2.2.2.2.2.2.2.1,b,c],d] w (fun v w'=>v=.bool r):=by
 refine AG 9 [(0,.agg #[Aad a0.1,No a0.2.1,a,No a0.2.2.2.1,.bool a0.2.2.2.2.1,No a0.2.2.2.2.2.1,No a0.2.2.2.2.2.2.1,No a0.2.2.2.2.2.2.2.1,No a0.2.2.2.2.2.2.2.2.1,No a0.2.2.2.2.2.2.2.2.2.1,b,c]),(1,d)] func84 Z fun hL=>Aq<|Cj (t:=50) Z Z hL fun m o e j _=>A1 1 Z<|B1 1 Z<|Ag (Af Z Aak Z B4.e)<|Ag (Ae 0 Z e Z)<|Av h fun p g h=>A6 e (Fz _ _ (Ao e) (f.mono  Ai) g) fun q l i k=>A1 1 Z<|Au ?_
 cases h
 refine Aj Z ⟨i.ext,Z⟩
def CU(a0:AaE):Option Bool:=
 Qq8 (Hx a0 ([3,5,9])) (fun a=>some a)
theorem GW{a0:AaE}{a b c:Value}(f:AL .byte H a (a0.2.2.1))(g:AL .st H b (a0.2.2.2.2.2.2.2.2.2.2.1))(i:AL (.int .i64) H c (a0.2.2.2.2.2.2.2.2.2.2.2)){r:Bool}(h:CU a0=some r):
  Qqv 37 [.agg #[Aad a0.1,No a0.2.1,a,No a0.2.2.2.1,.bool a0.2.2.2.2.1,No a0.2.2.2.2.2.1,No a0.2.2.2.2.2.2.1,No a0.2.2.2.2.2.2.2.1,No a0.2.2.2.2.2.2.2.2.1,No a0.2.2.2.2.2.2.2.2.2.1,b,c]] w (fun v w'=>v=.bool r):=by
 refine AG 6 [(0,.agg #[Aad a0.1,No a0.2.1,a,No a0.2.2.2.1,.bool a0.2.2.2.2.1,No a0.2.2.2.2.2.1,No a0.2.2.2.2.2.2.1,No a0.2.2.2.2.2.2.2.1,No a0.2.2.2.2.2.2.2.2.1,No a0.2.2.2.2.2.2.2.2.2.1,b,c])] func37 Z fun hL=>Aq<|Cj (t:=50) Z Z hL fun x y d o _=>A1 1 Z<|Aq<|Ag (Ax 0 Z Bl.e d Z)<|BV [3,5,9] (r:=(.int .i64)) (fun _=>O0 _ _ _ _) (hlen:=(Ch 3)) d (.c1 Z (.c1 Z (.c1 Z .nil))) fun z w2 s e p j=>Av h fun x3 k h=>A6 e (Ij _ _ (Ao e) a0 (f.mono  Ai) (g.mono  Ai) (i.mono  Ai) j k) fun w4 u m q=>A1 1 Z<|Au ?_
 cases h
 refine Aj Z ⟨m.ext,Z⟩
def BF(a0:AaE):Option Bool:=
 Qq8 (Hx a0 ([6,10])) (fun a=>some a)
theorem BG{a0:AaE}{a b c:Value}(f:AL .byte H a (a0.2.2.1))(g:AL .st H b (a0.2.2.2.2.2.2.2.2.2.2.1))(i:AL (.int .i64) H c (a0.2.2.2.2.2.2.2.2.2.2.2)){r:Bool}(h:BF a0=some r):
  Qqv 42 [.agg #[Aad a0.1,No a0.2.1,a,No a0.2.2.2.1,.bool a0.2.2.2.2.1,No a0.2.2.2.2.2.1,No a0.2.2.2.2.2.2.1,No a0.2.2.2.2.2.2.2.1,No a0.2.2.2.2.2.2.2.2.1,No a0.2.2.2.2.2.2.2.2.2.1,b,c]] w (fun v w'=>v=.bool r):=by
 refine AG 6 [(0,.agg #[Aad a0.1,No a0.2.1,a,No a0.2.2.2.1,.bool a0.2.2.2.2.1,No a0.2.2.2.2.2.1,No a0.2.2.2.2.2.2.1,No a0.2.2.2.2.2.2.2.1,No a0.2.2.2.2.2.2.2.2.1,No a0.2.2.2.2.2.2.2.2.2.1,b,c])] func42 Z fun hL=>Aq<|Cj (t:=50) Z Z hL fun x y d o _=>A1 1 Z<|Aq<|Ag (Ax 0 Z Bl.e d Z)<|BV [6,10] (r:=(.int .i64)) (fun _=>Oy _ _ _) (hlen:=(Ch 2)) d (.c1 Z (.c1 Z .nil)) fun z w2 s e p j=>Av h fun x3 k h=>A6 e (Ij _ _ (Ao e) a0 (f.mono  Ai) (g.mono  Ai) (i.mono  Ai) j k) fun w4 u m q=>A1 1 Z<|Au ?_
 cases h
 refine Aj Z ⟨m.ext,Z⟩
def Dt(a0:AaE):Option (Qq4):=
 Qq8 (BF a0) (fun a=>if a then some ([a0.2.2.2.2.2.2.2.2.1])else(if a0.2.1=7 then Bb (0<=(1:Int)/\(1:Int)<=(a0.2.2.2.2.2.2.2.2.2.2.2.length:Int)) (some ((a0.2.2.2.2.2.2.2.2.2.2.2.take (1:Int).toNat)))else(if a0.2.1=8 then some (a0.2.2.2.2.2.2.2.2.2.2.2)else(if a0.2.1=9 then none else some ([])))))
theorem JQ{a0:AaE}{b c d:Value}(j:AL .byte H b (a0.2.2.1))(k:AL .st H c (a0.2.2.2.2.2.2.2.2.2.2.1))(e:AL (.int .i64) H d (a0.2.2.2.2.2.2.2.2.2.2.2)){r:Qq4}(h:Dt a0=some r):
  Qqv 134 [.agg #[Aad a0.1,No a0.2.1,b,No a0.2.2.2.1,.bool a0.2.2.2.2.1,No a0.2.2.2.2.2.1,No a0.2.2.2.2.2.2.1,No a0.2.2.2.2.2.2.2.1,No a0.2.2.2.2.2.2.2.2.1,No a0.2.2.2.2.2.2.2.2.2.1,c,d]] w (fun v w'=>∃s,v=s/\AL (.int .i64) (un H (nw w w')) s r):=by
 refine AG 29 [(0,.agg #[Aad a0.1,No a0.2.1,b,No a0.2.2.2.1,.bool a0.2.2.2.2.1,No a0.2.2.2.2.2.1,No a0.2.2.2.2.2.2.1,No a0.2.2.2.2.2.2.2.1,No a0.2.2.2.2.2.2.2.2.1,No a0.2.2.2.2.2.2.2.2.2.1,c,d])] func134 Z fun hL=>Aq<|Cj (t:=50) Z Z hL fun w1 b1 f aa _=>A1 1 Z<|AM<|A8<|Aq<|Ag (Ax 0 Z Bl.e f Z)<|Av h fun x2 u h=>A6 f (BG (a0:=a0) _ _ (Ao f) (j.mono  Ai) (k.mono  Ai) (e.mono  Ai) u) fun w3 ad a ab=>A1 1 Z<|Bi h ?_ ?_<;>intro x h
 ·refine Aq<|Ag (Af Z Aak Z B4.e)<|Ag (Ae 0 Z a Z)<|NU [a0.2.2.2.2.2.2.2.2.1] (r:=(.int .i64)) (fun _=>LI _ _) (Ch 1) hH a (.c1 Z .nil) fun v6 w6 ae g ac y=>A1 1 Z<|Au<|Ay<|AE ?_
  cases h
  refine Aj Z ⟨g.ext,_,Z,((g.Hn hH (i:=0) Z y).vec hH)⟩
 refine Aq<|Ag (Af Z Aak Z B4.e)<|Ag (Ae 0 Z a Z)<|A1 2 Z<|AS h ?_ ?_<;>intro z h
 ·refine Aq<|Ag (Af Z Aak Z E4.e)<|Ag (Ae 0 Z a Z)<|A3 h fun m h=>J1 e m fun af o=>A1 1 Z<|Au<|Ay<|AE ?_
  cases h
  refine Aj Z ⟨a.ext,_,Z,(o.mono (GP hH))⟩
 refine Aq<|Ag (Af Z Aak Z B4.e)<|Ag (Ae 0 Z a Z)<|A1 2 Z<|AS h ?_ ?_<;>intro p h
 ·refine Aq<|Ag (Af Z Aak Z E4.e)<|Ag (Ae 0 Z a Z)<|A1 1 Z<|Au<|Ay<|AE ?_
  cases h
  refine Aj Z ⟨a.ext,_,Z,(e.mono (GP hH))⟩
 refine Aq<|Ag (Af Z Aak Z B4.e)<|Ag (Ae 0 Z a Z)<|A1 2 Z<|AS h ?_ ?_<;>intro q h
 ·cases h
 refine A4<|A9<|A2<|AI 1 Z<|Au ?_
 cases h
 refine Aj Z ⟨a.ext,_,Z,(AL.nil _ _)⟩
end
def Ik(a1:Int):(Nat->Bool)×Int->Option (((Nat->Bool)×Int)⊕((Nat->Bool))):=fun⟨b,a⟩=>
 if a<=a1 then Bb (0<=a/\a<=9223372036854775807/\0<(256:Int)) (Bb (0<=(a % (256:Int))/\(a % (256:Int))<256) (Bb (BH (a+1)) (some (Sum.inl ((KD b ((a % (256:Int)).toNat) true),(a+1))))))else Qzq Sum.inr (some b)
def IT(a1:Int)(s:(Nat->Bool)×Int):Option ((Nat->Bool)):=Go.L.run (Ik a1) s
def J7(a0 a1:Int)(a2:Nat->Bool):Option ((Nat->Bool)):=
 (IT a1) (a2,a0)
theorem MS{i w:World}{H:PH}(_hH:Le H (hp i)){O:List BN}{a0 a1:Int}{a2:Nat->Bool}{ba2:Nat}(hL:AW i (Ha [.box ba2 ((Kj 256 a2)) 137] O) w){r:(Nat->Bool)}(h:J7 a0 a1 a2=some r):
  Ok prog 176 [No a0,No a1,Aac ba2] w (fun v w'=>v=.tuple #[]/\AW i (Ha [.box ba2 (Kj 256 r) 137] O) w'/\Le (fz w (Ha [.box ba2 ((Kj 256 a2)) 137] O)) (fz w' (Ha [.box ba2 (Kj 256 r) 137] O))):=by
 refine BC (n:=15) [(0,No a0),(1,No a1),(2,(Aac ba2))] func176 Z Z Z Z ?_;have hT:=Le.refl (fz w (Ha [.box ba2 ((Kj 256 a2)) 137] O));refine AI 2 Z<|A8 ?_;obtain⟨c,h⟩:=Bc h;refine Bz ((Nat->Bool)×Int×Nat) (fun⟨b,a,n⟩=>[(1,No a1),(2,(Aac ba2)),(5,No a)]) (fun⟨b,a,n⟩ wr=>DE i (Ha [.box ba2 ((Kj 256 b)) 137] O) wr fun Oz=>Le (fz w (Ha [.box ba2 ((Kj 256 a2)) 137] O)) (fz wr Oz)/\FW (Ik a1) n (b,a)=some r) (fun⟨b,a,n⟩=>n) (a2,a0,c) Z ⟨hL,hT,h⟩ ?_;rintro⟨b,a,nn12⟩ o ⟨d,hT,h⟩;obtain⟨c,p,rfl,h,e⟩:=Ba h;refine AM<|AI 3 Z<|AS h ?_ ?_<;>intro k h
 ·refine A4<|A2<|AM<|A8<|Az<|Ar 1 Z<|A3 h fun f h=>Ag (Tt Z Z ⟨f.1,f.2.2⟩)<|A3 h fun g h=>Ag (Lo Z g Z)<|NA 0 Z Z d Z (AD g) fun q l j=>AP<|A9<|A2<|Az<|Ar 1 Z<|A3 h fun m h=>Ag (AA m)<|Ar 1 Z<|AP ?_;have h:=BW.again h e;have hT:=hT.trans j;refine AN (_,_,_) ⟨l,hT,h⟩
 refine Bq<|AK<|AF ?_;have h:=BW.out h e;refine Bj ?_
 cases h
 refine Et ⟨Z,d,hT⟩
def II(a0:AaE)(a:Bool):Option ((Nat->Bool)):=
 if a then Qq8 (J7 (0:Int) (255:Int) (fun _=>false)) (fun b=>some b)else Qq8 (CU a0) (fun c=>if c then none else some ((fun _=>false)))
def JR(a0:AaE):Option ((Nat->Bool)):=
 if a0.2.1=1 then Bb (0<=(0:Int)/\(0:Int)<(a0.2.2.1.length:Int)) (Bb (0<=((a0.2.2.1.getD ((0:Int).toNat) Qq1).toNat:Int)/\((a0.2.2.1.getD ((0:Int).toNat) Qq1).toNat:Int)<256) (some ((KD (fun _=>false) (((a0.2.2.1.getD ((0:Int).toNat) Qq1).toNat:Int).toNat) true))))else(if((decide (a0.2.1=2))&&a0.2.2.2.2.1)then Bb (BH (a0.2.2.2.1 - 1)) (Bb (BH (8 * (a0.2.2.2.1 - 1))) (Bb (0<=(8 * (a0.2.2.2.1 - 1))/\(8 * (a0.2.2.2.1 - 1))<=63) (Bb (0<=(8 * (a0.2.2.2.1 - 1))/\(8 * (a0.2.2.2.1 - 1))<=63) (Qq8 (J7 (a0.2.2.2.2.2.1 / 2 ^ (8 * (a0.2.2.2.1 - 1)).toNat) (a0.2.2.2.2.2.2.1 / 2 ^ (8 * (a0.2.2.2.1 - 1)).toNat) (fun _=>false)) (fun a=>some a)))))else(if a0.2.1=2 then none else(if a0.2.1=3 then none else(if a0.2.1=4 then(II a0) (decide (a0.2.1=4))else(II a0) ((decide (a0.2.1=5))&&(decide (0<a0.2.2.2.1)))))))
section
variable(w:World)(H:PH)(hH:Le H (hp w)) include hH
theorem QB{a0:AaE}{e f g:Value}(l:AL .byte H e (a0.2.2.1))(ai:AL .st H f (a0.2.2.2.2.2.2.2.2.2.2.1))(aj:AL (.int .i64) H g (a0.2.2.2.2.2.2.2.2.2.2.2)){r:(Nat->Bool)}(h:JR a0=some r):
  Qqv 133 [.agg #[Aad a0.1,No a0.2.1,e,No a0.2.2.2.1,.bool a0.2.2.2.2.1,No a0.2.2.2.2.2.1,No a0.2.2.2.2.2.2.1,No a0.2.2.2.2.2.2.2.1,No a0.2.2.2.2.2.2.2.2.1,No a0.2.2.2.2.2.2.2.2.2.1,f,g]] w (fun v w'=>v=.agg (Kj 256 r).toArray):=by
 refine AG 84 [(0,.agg #[Aad a0.1,No a0.2.1,e,No a0.2.2.2.1,.bool a0.2.2.2.2.1,No a0.2.2.2.2.2.1,No a0.2.2.2.2.2.2.1,No a0.2.2.2.2.2.2.2.1,No a0.2.2.2.2.2.2.2.2.1,No a0.2.2.2.2.2.2.2.2.2.1,f,g])] func133 Z fun hL=>Aq<|Cj (t:=50) Z Z hL fun w1 b1 a8 bj _=>AZ Hp.e Z a8 ?_;intro w2 b2 af ak _;rw[Qd]at af ak;refine Al<|Aq<|AZ Hp.e Z af ?_;intro w3 b3 a am _;rw[Qd]at a am;refine Al<|AI 2 Z<|AM<|A8<|Aq<|Ag (Af Z Aak Z B4.e)<|Ag (Ae 2 Z a Z)<|A1 2 Z<|AS h ?_ ?_<;>intro a9 h
 ·refine Az<|Ag (Af Z Aak Z CC.e)<|Ag (Ae 2 Z a Z)<|A3 h fun ag h=>Bf l ((0:Int).toNat) (CT ag) (AD ag) ?_;rintro p6 _ rfl ba;refine Ag (AX ba (hH.trans a.arg))<|A3 h fun ah h=>Ag (Lo Z ah Z)<|NA 0 Z Z a Z (AD ah) fun bm m bb=>AP<|A9<|A2<|Aq<|Ag (Ax 0 Z (Ux Hp.e) m Z)<|M8 1 Z Z Hp.e m Z fun bn o bc=>Al<|Au ?_
  cases h
  refine DO (.cell Z Aaq Z (Ux Hp.e) (Bo (i:=1) o Z)) ⟨o.ext,Z⟩
 refine Aq<|Ag (Af Z Aak Z B4.e)<|Ag (Ae 2 Z a Z)<|Ar 2 Z<|BS 3 23 (.bool ((decide (a0.2.1=2))&&a0.2.2.2.2.1)) (fun p=>?_) ?_
 ·refine Bk (s:=20) Z (fun c=>?_) (fun c=>?_)
  ·refine Aa c<|Ag (Af Z Aak Z Fv.e)<|Aa c<|Ag (Ae 2 Z a Z)<|Ag (Ak c Z)<|p.to 2 (FU c) Z Z
  iterate 2 refine Ab c ?_
  refine Ag (Am c Z)<|p.to 2 (FV c) Z Z
 refine A1 1 Z<|Bi h ?_ ?_<;>intro an h
 ·refine Aq<|Ag (Af Z Aak Z B4.e)<|Ag (Ae 2 Z a Z)<|A3 h fun ao h=>Ag (AA ao)<|A3 h fun ap h=>Ag (AA ap)<|A1 1 Z<|Nf (Qqz 0 9 (.tail 9)) mixed V (fun bo aq=>?_);have k:=a.call aq;refine BJ 1 Z<|B9 Z (Af Z Aak Z B4.e) Z<|B9 Z (Ae 2 Z k Z) Z<|BJ 1 Z<|A3 h fun ar h=>B9 Z (Ru Z ar) Z<|B9 Z (Af Z Aak Z B4.e) Z<|B9 Z (Ae 2 Z k Z) Z<|BJ 1 Z<|A3 h fun au h=>B9 Z (Ru Z au) Z<|B8 (fun bp av=>?_);have aw:=k.call av;refine Av h fun bq ax h=>?_
  refine BU Z Z (MS (a0:=(a0.2.2.2.2.2.1 / 2 ^ (8 * (a0.2.2.2.1 - 1)).toNat)) (a1:=(a0.2.2.2.2.2.2.1 / 2 ^ (8 * (a0.2.2.2.1 - 1)).toNat)) (a2:=(fun _=>false)) (O:=[.box b2 ((Kj 256 (fun _=>false))) 137,.box b1 [Aad a0.1,No a0.2.1,e,No a0.2.2.2.1,.bool a0.2.2.2.2.1,No a0.2.2.2.2.2.1,No a0.2.2.2.2.2.2.1,No a0.2.2.2.2.2.2.2.1,No a0.2.2.2.2.2.2.2.2.1,No a0.2.2.2.2.2.2.2.2.2.1,f,g] 50]) hH aw ax) ?_;rintro _ br ⟨rfl,u,bd⟩;refine AP<|A9<|A2<|Aq<|Ag (Ax 0 Z (Ux Hp.e) u Z)<|M8 1 Z Z Hp.e u Z fun bs x be=>Al<|Au ?_
  cases h
  refine DO (.cell Z Aaq Z (Ux Hp.e) (Bo (i:=1) x Z)) ⟨x.ext,Z⟩
 refine Aq<|Ag (Af Z Aak Z B4.e)<|Ag (Ae 2 Z a Z)<|A1 2 Z<|AS h ?_ ?_<;>intro ay h
 ·cases h
 refine Aq<|Ag (Af Z Aak Z B4.e)<|Ag (Ae 2 Z a Z)<|A1 2 Z<|AS h ?_ ?_<;>intro az h
 ·cases h
 refine Bm Bool (fun d=>[(1,(Aac b1)),(2,(Aac b2)),(3,(Aac b3)),(4,.func (.func 176) #[] #[Aac b3]),(63,.bool d)]) (fun d wr=>AW w [.box b3 ((Kj 256 (fun _=>false))) 137,.box b2 ((Kj 256 (fun _=>false))) 137,.box b1 [Aad a0.1,No a0.2.1,e,No a0.2.2.2.1,.bool a0.2.2.2.2.1,No a0.2.2.2.2.2.1,No a0.2.2.2.2.2.2.1,No a0.2.2.2.2.2.2.2.1,No a0.2.2.2.2.2.2.2.2.1,No a0.2.2.2.2.2.2.2.2.2.1,f,g] 50] wr/\(II a0) d=some r) ?_ ?_
 ·refine Aq<|Ag (Af Z Aak Z B4.e)<|Ag (Ae 2 Z a Z)<|A1 2 Z<|AS h ?_ ?_<;>intro a3 h
  ·refine A4<|AH _ ⟨a,h⟩
  refine Az<|Ag (Af Z Aak Z B4.e)<|Ag (Ae 2 Z a Z)<|Ar 2 Z<|BS 4 74 (.bool ((decide (a0.2.1=5))&&(decide (0<a0.2.2.2.1)))) (fun y=>?_) ?_
  ·refine Bk (s:=70) Z (fun b=>?_) (fun b=>?_)
   ·refine Aa b<|Ag (Af Z Aak Z B4.e)<|Aa b<|Ag (Ae 2 Z a Z)<|Aa b<|Ag (Ad Z)<|Ag (Ak b Z)<|y.to 3 (FU b) Z Z
   iterate 3 refine Ab b ?_
   refine Ag (Am b Z)<|y.to 3 (FV b) Z Z
  refine Ar 1 Z<|AP<|AH _ ⟨a,h⟩
 rintro d bk ⟨j,h⟩;refine Bi h ?_ ?_<;>intro a4 h
 ·refine Az<|Ar 1 Z<|Av h fun bt a5 h=>BU Z Z (MS (a0:=0) (a1:=255) (a2:=(fun _=>false)) (O:=[.box b2 ((Kj 256 (fun _=>false))) 137,.box b1 [Aad a0.1,No a0.2.1,e,No a0.2.2.2.1,.bool a0.2.2.2.2.1,No a0.2.2.2.2.2.1,No a0.2.2.2.2.2.2.1,No a0.2.2.2.2.2.2.2.1,No a0.2.2.2.2.2.2.2.2.1,No a0.2.2.2.2.2.2.2.2.2.1,f,g] 50]) hH j a5) ?_;rintro _ bu ⟨rfl,z,bf⟩;refine AP<|A9<|A2<|Aq<|Ag (Ax 0 Z (Ux Hp.e) z Z)<|M8 1 Z Z Hp.e z Z fun bv aa bg=>Al<|Au ?_
  cases h
  refine DO (.cell Z Aaq Z (Ux Hp.e) (Bo (i:=1) aa Z)) ⟨aa.ext,Z⟩
 refine Aq<|Ag (Ax 2 Z Bl.e j Z)<|Av h fun bw a6 h=>A6 j (GW (a0:=a0) _ _ (Ao j) (l.mono  Ai) (ai.mono  Ai) (aj.mono  Ai) a6) fun bx bl ab bh=>A1 1 Z<|Bi h ?_ ?_<;>intro a7 h
 ·cases h
 refine A4<|A9<|A2<|Aq<|Ag (Ax 0 Z (Ux Hp.e) ab Z)<|M8 1 Z Z Hp.e ab Z fun bz ac bi=>Al<|Au ?_
 cases h
 refine DO (.cell Z Aaq Z (Ux Hp.e) (Bo (i:=1) ac Z)) ⟨ac.ext,Z⟩
def Jn(a:Int)(b:Nat->Bool):Option (((Nat->Bool)×Int)⊕(Bool)):=
 Bb (BH (a+1)) (some (Sum.inl (b,(a+1))))
def Fg(a0:AaE)(a1:List (Nat->Bool))(b:Int):(Nat->Bool)×Int->Option (((Nat->Bool)×Int)⊕(((Nat->Bool)×Int)⊕(Bool))):=fun⟨c,a⟩=>
 if a<256 then Bb (0<=a/\a<256) (if((a1.getD ((a0.2.2.2.2.2.2.2.2.2.2.2.getD b.toNat Qq1).toNat) Qq1) a.toNat)then Bb (0<=a/\a<256) (if(c a.toNat)then none else Bb (0<=a/\a<256) (Bb (0<=a/\a<256) (Bb (BH (a+1)) (some (Sum.inl ((KD c a.toNat (bif (c a.toNat)then true else((a1.getD ((a0.2.2.2.2.2.2.2.2.2.2.2.getD b.toNat Qq1).toNat) Qq1) a.toNat))),(a+1)))))))else Bb (0<=a/\a<256) (Bb (0<=a/\a<256) (Bb (BH (a+1)) (some (Sum.inl ((KD c a.toNat (bif (c a.toNat)then true else((a1.getD ((a0.2.2.2.2.2.2.2.2.2.2.2.getD b.toNat Qq1).toNat) Qq1) a.toNat))),(a+1)))))))else Qzq Sum.inr ((Jn b) c)
def Ls(a0:AaE)(a1:List (Nat->Bool))(a:Int)(s:(Nat->Bool)×Int):Option (((Nat->Bool)×Int)⊕(Bool)):=Go.L.run (Fg a0 a1 a) s
def GX:Option Bool:=
 some false
def G1(a0:AaE)(a1:List (Nat->Bool)):(Nat->Bool)×Int->Option (((Nat->Bool)×Int)⊕(Bool)):=fun⟨b,a⟩=>
 if a<(a0.2.2.2.2.2.2.2.2.2.2.2.length:Int)then Bb (0<=a/\a<(a0.2.2.2.2.2.2.2.2.2.2.2.length:Int)) (Bb (0<=a0.2.2.2.2.2.2.2.2.2.2.2.getD a.toNat Qq1/\a0.2.2.2.2.2.2.2.2.2.2.2.getD a.toNat Qq1<(a1.length:Int)) ((Ls a0 a1 a) (b,0)))else Qzq Sum.inr GX
def GY(a0:AaE)(a1:List (Nat->Bool))(s:(Nat->Bool)×Int):Option Bool:=Go.L.run (G1 a0 a1) s
def IU(a0:AaE)(a1:List (Nat->Bool)):Option Bool:=
 if a0.2.1=9 then none else(if a0.2.1=8 then(GY a0 a1) ((fun _=>false),0)else GX)
theorem Ob{a0:AaE}{a1:List (Nat->Bool)}{g j c k:Value}(_h0_0:AL .byte H g (a0.2.2.1))(_h0_1:AL .st H j (a0.2.2.2.2.2.2.2.2.2.2.1))(ag:AL (.int .i64) H c (a0.2.2.2.2.2.2.2.2.2.2.2))(a5:AL (.bb 256) H k a1){r:Bool}(h:IU a0 a1=some r):
  Qqv 129 [.agg #[Aad a0.1,No a0.2.1,g,No a0.2.2.2.1,.bool a0.2.2.2.2.1,No a0.2.2.2.2.2.1,No a0.2.2.2.2.2.2.1,No a0.2.2.2.2.2.2.2.1,No a0.2.2.2.2.2.2.2.2.1,No a0.2.2.2.2.2.2.2.2.2.1,j,c],k] w (fun v w'=>v=.bool r):=by
 refine AG 55 [(0,.agg #[Aad a0.1,No a0.2.1,g,No a0.2.2.2.1,.bool a0.2.2.2.2.1,No a0.2.2.2.2.2.1,No a0.2.2.2.2.2.2.1,No a0.2.2.2.2.2.2.2.1,No a0.2.2.2.2.2.2.2.2.1,No a0.2.2.2.2.2.2.2.2.2.1,j,c]),(1,k)] func129 Z fun hL=>Aq<|Cj (t:=50) Z Z hL fun w1 b1 ah bd _=>A1 1 Z<|Bm Unit (fun(_:Unit)=>[]) (fun(_:Unit) wr=>AW w [.box b1 [Aad a0.1,No a0.2.1,g,No a0.2.2.2.1,.bool a0.2.2.2.2.1,No a0.2.2.2.2.2.1,No a0.2.2.2.2.2.2.1,No a0.2.2.2.2.2.2.2.1,No a0.2.2.2.2.2.2.2.2.1,No a0.2.2.2.2.2.2.2.2.2.1,j,c] 50] wr/\GX=some r) ?_ ?_
 ·refine Aq<|Ag (Af Z Aak Z B4.e)<|Ag (Ae 0 Z ah Z)<|Al<|A8<|AI 2 Z<|AS h ?_ ?_<;>intro al h
  ·cases h
  refine AI 2 Z<|AS h ?_ ?_<;>intro am h
  ·refine Aq<|AZ Hp.e Z ah ?_;intro be l q ai _;rw[Qd]at q ai;refine Al<|Aq<|Ag (Af Z Aak Z E4.e)<|Ag (Ae 1 Z q Z)<|Ag (AT ag)<|A1 1 Z<|A8 ?_;obtain⟨x,h⟩:=Bc h;refine Bz ((Nat->Bool)×Int×Nat) (fun⟨m,a,n⟩=>[(1,k),(5,(Aac l)),(25,c),(26,No (a0.2.2.2.2.2.2.2.2.2.2.2.length:Int)),(27,No a)]) (fun⟨m,a,n⟩ wr=>AW w [.box l ((Kj 256 m)) 137,.box b1 [Aad a0.1,No a0.2.1,g,No a0.2.2.2.1,.bool a0.2.2.2.2.1,No a0.2.2.2.2.2.1,No a0.2.2.2.2.2.2.1,No a0.2.2.2.2.2.2.2.1,No a0.2.2.2.2.2.2.2.2.1,No a0.2.2.2.2.2.2.2.2.2.1,j,c] 50] wr/\FW (G1 a0 a1) n (m,a)=some r) (fun⟨m,a,n⟩=>n) ((fun _=>false),0,x) Z ⟨q,h⟩ ?_;rintro⟨m,a,nn211⟩ a8 ⟨o,h⟩;obtain⟨x,aj,rfl,h,y⟩:=Ba h;refine AI 1 Z<|AM<|AS h ?_ ?_<;>intro an h
   ·refine A4<|A2<|Bm (Nat->Bool) (fun p=>[(1,k),(5,(Aac l)),(25,c),(26,No (a0.2.2.2.2.2.2.2.2.2.2.2.length:Int)),(27,No a)]) (fun p wr=>AW w [.box l ((Kj 256 p)) 137,.box b1 [Aad a0.1,No a0.2.1,g,No a0.2.2.2.1,.bool a0.2.2.2.2.1,No a0.2.2.2.2.2.1,No a0.2.2.2.2.2.2.1,No a0.2.2.2.2.2.2.2.1,No a0.2.2.2.2.2.2.2.2.1,No a0.2.2.2.2.2.2.2.2.2.1,j,c] 50] wr/\(Jn a) p=some aj) ?_ ?_
    ·refine A8<|Aq<|A3 h fun z h=>Bf ag a.toNat (CT z) (AD z) ?_;rintro bf _ rfl ao;refine Ag (AX ao (hH.trans o.arg))<|A1 1 Z<|B1 2 Z<|A3 h fun aa h=>Bf a5 ((a0.2.2.2.2.2.2.2.2.2.2.2.getD a.toNat Qq1).toNat) (CT aa) (AD aa) ?_;rintro bg _ rfl ap;refine Ag (Ce (hz:=⟨(Ux Hp.e)⟩) ap (hH.trans o.arg))<|A1 1 Z<|A8 ?_;obtain⟨s,h⟩:=Bc h
     refine Bz ((Nat->Bool)×Int×Nat) (fun⟨d,b,n⟩=>[(1,k),(5,(Aac l)),(25,c),(26,No (a0.2.2.2.2.2.2.2.2.2.2.2.length:Int)),(27,No a),(34,.agg (Kj 256 (a1.getD ((a0.2.2.2.2.2.2.2.2.2.2.2.getD a.toNat Qq1).toNat) Qq1)).toArray),(35,No b)]) (fun⟨d,b,n⟩ wr=>AW w [.box l ((Kj 256 d)) 137,.box b1 [Aad a0.1,No a0.2.1,g,No a0.2.2.2.1,.bool a0.2.2.2.2.1,No a0.2.2.2.2.2.1,No a0.2.2.2.2.2.2.1,No a0.2.2.2.2.2.2.2.1,No a0.2.2.2.2.2.2.2.2.1,No a0.2.2.2.2.2.2.2.2.2.1,j,c] 50] wr/\FW (Fg a0 a1 a) n (d,b)=some aj) (fun⟨d,b,n⟩=>n) (m,0,s) Z ⟨o,h⟩ ?_;rintro⟨d,b,nn306⟩ a9 ⟨f,h⟩;obtain⟨s,bh,rfl,h,u⟩:=Ba h;refine AI 1 Z<|AM<|AS h ?_ ?_<;>intro aq h
     ·refine A4<|A2<|AM<|A8<|B1 1 Z<|A3 h fun ar h=>Ag (Qf Z ar Z)<|A1 2 Z<|AM<|B1 2 Z<|Bg 40 h ?_ ?_<;>intro e h
      ·refine Aa e<|Ag (Ad Z)<|Aa e<|A3 h fun ab h=>Ag (Lo Z ab Z)<|Aa e<|Ag (Qe 0 Z f Z (AD ab))<|Ag (Ak e Z)<|Al<|Bi h ?_ ?_<;>intro au h
       ·cases h
       refine A4<|A2<|Az<|Ar 2 Z<|A3 h fun ac h=>Ag (Lo Z ac Z)<|Ag (Qe 0 Z f Z (AD ac))<|Ar 1 Z<|Jz 1 4 Z Z Z Z Z Z Z<|A3 h fun ad h=>Ag (Lo Z ad Z)<|NA 0 Z Z f Z (AD ad) fun bi av a6=>AP<|A9<|A2<|Az<|A3 h fun aw h=>Ag (AA aw)<|Ar 1 Z<|AP ?_;have h:=BW.again h u;refine AN (_,_,_) ⟨av,h⟩
      iterate 3 refine Ab e ?_
      refine Ag (Am e Z)<|Al<|Gw<|A4<|A2<|Az<|Ar 2 Z<|A3 h fun ae h=>Ag (Lo Z ae Z)<|Ag (Qe 0 Z f Z (AD ae))<|Ar 1 Z<|Jz 1 4 Z Z Z Z Z Z Z<|A3 h fun af h=>Ag (Lo Z af Z)<|NA 0 Z Z f Z (AD af) fun bj ax a7=>AP<|A9<|A2<|Az<|A3 h fun ay h=>Ag (AA ay)<|Ar 1 Z<|AP ?_;have h:=BW.again h u;refine AN (_,_,_) ⟨ax,h⟩
     refine Bq<|AK<|AF ?_;have h:=BW.out h u;refine Bj<|A9<|AH _ ⟨f,h⟩
    rintro p ba ⟨az,h⟩;refine Az<|A3 h fun a2 h=>Ag (AA a2)<|Ar 1 Z<|AP ?_;have h:=BW.again h y;refine AN (_,_,_) ⟨az,h⟩
   refine Bq<|AK<|AF ?_;have h:=BW.out h y;refine Bj<|A9 ?_;have a3:=o.AR (i:=0) Z;refine AH () ⟨a3,h⟩
  refine A4<|A9<|AH () ⟨ah,h⟩
 rintro _ bc ⟨a4,h⟩;refine AI 1 Z<|Au ?_
 cases h
 refine Aj Z ⟨a4.ext,Z⟩
def JS(a:List (Nat->Bool)):Option ((List (Nat->Bool))):=
 some a
def JT(a:Int)(b:List (Nat->Bool)):Option (((List (Nat->Bool))×Int)⊕((List (Nat->Bool)))):=
 Bb (BH (a+1)) (some (Sum.inl (b,(a+1))))
def JU(a:Int)(b:List (Nat->Bool)):Option (((List (Nat->Bool))×Int)⊕(((List (Nat->Bool))×Int)⊕((List (Nat->Bool))))):=
 Bb (BH (a+1)) (some (Sum.inl (b,(a+1))))
def JV(a:Int)(b:List (Nat->Bool)):Option (((List (Nat->Bool))×Int)⊕(((List (Nat->Bool))×Int)⊕(((List (Nat->Bool))×Int)⊕((List (Nat->Bool)))))):=
 Bb (BH (a+1)) (some (Sum.inl (b,(a+1))))
def F0(e:List (Nat->Bool))(b d:Int)(f:Qq4):(List (Nat->Bool))×Int->Option (((List (Nat->Bool))×Int)⊕(((List (Nat->Bool))×Int)⊕(((List (Nat->Bool))×Int)⊕(((List (Nat->Bool))×Int)⊕((List (Nat->Bool))))))):=fun⟨c,a⟩=>
 if a<256 then Bb (0<=a/\a<256) (Bb (0<=b/\b<(c.length:Int)) (Bb (0<=a/\a<256) (if((c.getD b.toNat Qq1) a.toNat)then Bb (0<=b/\b<(c.length:Int)) (Bb (0<=a/\a<256) (Bb (BH (a+1)) (some (Sum.inl ((c.set b.toNat (KD (c.getD b.toNat Qq1) a.toNat true)),(a+1))))))else Bb (0<=b/\b<(c.length:Int)) (Bb (0<=a/\a<256) (Bb (BH (a+1)) (some (Sum.inl ((c.set b.toNat (KD (c.getD b.toNat Qq1) a.toNat ((e.getD ((f.getD d.toNat Qq1).toNat) Qq1) a.toNat))),(a+1)))))))))else Qzq Sum.inr ((JV d) c)
def LK(c:List (Nat->Bool))(a b:Int)(d:Qq4)(s:(List (Nat->Bool))×Int):Option (((List (Nat->Bool))×Int)⊕(((List (Nat->Bool))×Int)⊕(((List (Nat->Bool))×Int)⊕((List (Nat->Bool)))))):=Go.L.run (F0 c a b d) s
def H7(d:Int)(b:Qq4):(List (Nat->Bool))×Int->Option (((List (Nat->Bool))×Int)⊕(((List (Nat->Bool))×Int)⊕(((List (Nat->Bool))×Int)⊕((List (Nat->Bool)))))):=fun⟨c,a⟩=>
 if a<(b.length:Int)then Bb (0<=a/\a<(b.length:Int)) (Bb (0<=b.getD a.toNat Qq1/\b.getD a.toNat Qq1<(c.length:Int)) ((LK c d a b) (c,0)))else Qzq Sum.inr ((JU d) c)
def Il(a:Int)(b:Qq4)(s:(List (Nat->Bool))×Int):Option (((List (Nat->Bool))×Int)⊕(((List (Nat->Bool))×Int)⊕((List (Nat->Bool))))):=Go.L.run (H7 a b) s
def H8(a0:(List AaE))(b:Int):(List (Nat->Bool))×Int->Option (((List (Nat->Bool))×Int)⊕(((List (Nat->Bool))×Int)⊕((List (Nat->Bool))))):=fun⟨c,a⟩=>
 if a<(a0.length:Int)then Bb (0<=a/\a<(a0.length:Int)) (Qq8 (Dt (a0.getD a.toNat Qq1)) (fun d=>(Il a d) (c,0)))else Qzq Sum.inr ((JT b) c)
def Im(a0:(List AaE))(a:Int)(s:(List (Nat->Bool))×Int):Option (((List (Nat->Bool))×Int)⊕((List (Nat->Bool)))):=Go.L.run (H8 a0 a) s
def H9(a0:(List AaE)):(List (Nat->Bool))×Int->Option (((List (Nat->Bool))×Int)⊕((List (Nat->Bool)))):=fun⟨b,a⟩=>
 if a<(a0.length:Int)then(Im a0 a) (b,0)else Qzq Sum.inr (JS b)
def Io(a0:(List AaE))(s:(List (Nat->Bool))×Int):Option ((List (Nat->Bool))):=Go.L.run (H9 a0) s
def JW(a0:(List AaE))(a:List (Nat->Bool)):Option ((List (Nat->Bool))):=
 (Io a0) (a,0)
def HA(a0:(List AaE)):(List (Nat->Bool))×Int->Option (((List (Nat->Bool))×Int)⊕((List (Nat->Bool)))):=fun⟨b,a⟩=>
 if a<(a0.length:Int)then Bb (0<=a/\a<(a0.length:Int)) (Qq8 (JR (a0.getD a.toNat Qq1)) (fun c=>Bb (Go.E.Gx 256 (b.length+([c]).length)) (Bb (BH (a+1)) (some (Sum.inl ((b++[c]),(a+1)))))))else Qzq Sum.inr ((JW a0) b)
def Ip(a0:(List AaE))(s:(List (Nat->Bool))×Int):Option ((List (Nat->Bool))):=Go.L.run (HA a0) s
def IJ(a0:(List AaE)):Option ((List (Nat->Bool))):=
 (Ip a0) (([]:List (Nat->Bool)),0)
theorem Mu{a0:(List AaE)}{f:Value}(a2:AL AaK H f a0){r:(List (Nat->Bool))}(h:IJ a0=some r):
  Qqv 92 [.agg #[f]] w (fun v w'=>∃u0,v=u0/\Cv 137 (.bb 256) H w w' u0 r):=by
 refine AG 72 [(0,.agg #[f])] func92 Z fun hL=>Aq<|Cj (t:=25) Z Z hL fun w1 b1 d1 es _=>A1 1 Z<|B1 1 Z ?_;obtain⟨dm,et,d2⟩:=CF (.bb 256) H 137 d1;refine Al<|Bm ((List (Nat->Bool))×Value×Qq5) (fun⟨bf,e,aq⟩=>[(1,(Aac b1)),(3,e)]) (fun⟨bf,e,aq⟩ wr=>DE w [.row e 137 256 (bf).length aq,.box b1 [f] 25] wr fun Oz=>A5 (.bb 256) (gz H w wr Oz) bf aq/\(JW a0) bf=some r) ?_ ?_
 ·refine Aq<|Ag (Af Z Aas Z Ho.e)<|Ag (Ae 1 Z dm Z)<|Ag (AT a2)<|A1 1 Z<|A8 ?_;obtain⟨cn,h⟩:=Bc h;refine Bz ((List (Nat->Bool))×Int×Value×Qq5×Nat) (fun⟨ar,aa,ax,al,n⟩=>[(1,(Aac b1)),(3,ax),(13,f),(14,No (a0.length:Int)),(15,No aa)]) (fun⟨ar,aa,ax,al,n⟩ wr=>DE w [.row ax 137 256 (ar).length al,.box b1 [f] 25] wr fun Oz=>A5 (.bb 256) (gz H w wr Oz) ar al/\FW (HA a0) n (ar,aa)=some r) (fun⟨ar,aa,ax,al,n⟩=>n) (([]:List (Nat->Bool)),0,Aaa,[],cn) Z ⟨dm,d2,h⟩ ?_;rintro⟨ar,aa,ax,al,nn53⟩ eu ⟨b7,az,h⟩;obtain⟨cn,ey,rfl,h,co⟩:=Ba h;refine AI 1 Z<|AM<|AS h ?_ ?_<;>intro dn h
  ·refine A4<|A2<|AM<|A8<|Aq<|A3 h fun cp h=>Bf a2 aa.toNat (CT cp) (AD cp) ?_;rintro ez _ ⟨_,_,rfl,rfl,⟨_,_,rfl,rfl,⟨_,_,rfl,⟨e57v2,rfl,e57h2⟩,⟨_,_,rfl,rfl,⟨_,_,rfl,rfl,⟨_,_,rfl,rfl,⟨_,_,rfl,rfl,⟨_,_,rfl,rfl,⟨_,_,rfl,rfl,⟨_,_,rfl,rfl,⟨_,_,rfl,⟨e57v10,rfl,e57h10⟩,⟨e57v11,rfl,e57h11⟩⟩⟩⟩⟩⟩⟩⟩⟩⟩⟩⟩ dp;refine Ag (Ce dp (hH.trans b7.arg))<|AZ Bl.e Z b7 fun e0 e1 dq dh _=>A7 0 Z dq Z (h1:=(BP Z (BP Z (BP e57h2.one (Uw 7 Z (BP e57h10.one (BP e57h11.one Mx))))))) fun e2 b8 di=>Al<|Az<|Ar 1 Z<|Ag (Ax 0 Z Bl.e b8 Z)<|Av h fun cc dr h=>A6 b8 (QB (a0:=(a0.getD aa.toNat Qq1)) _ _ (Ao b8) (e57h2.mono  Ai) (e57h10.mono  Ai) (e57h11.mono  Ai) dr) fun e3 ev ds dj=>BV [cc] (r:=(.bb 256)) (fun _=>Vf _ _) ds (Uf _ 256 cc) fun e4 e5 ew dt dk du=>A3 h fun dv h=>?_;have az:=az.mono (Ac (dh.trans (di.trans (dj.trans dk))))
   refine BL (r:=(.bb 256)) 1 ar [cc] Z Aar dt Z az du dv fun d3 e6 dw dx eb b9=>Ar 1 Z<|AP<|A9<|A2<|Az<|A3 h fun dy h=>Ag (AA dy)<|Ar 1 Z<|AP ?_;have dz:=dx.AR (i:=0) Z;have h:=BW.again h co;have b9:=b9.mono (Ac (Ah (i:=0) Z));refine AN (_,_,_,_,_) ⟨dz,b9,h⟩
  refine Bq<|AK<|AF ?_;have h:=BW.out h co;refine Bj<|AH (_,_,_) ⟨b7,az,h⟩
 rintro⟨bf,e,aq⟩ ex ⟨cq,dl,h⟩;refine Bm ((List (Nat->Bool))×Qq5) (fun⟨a3,au⟩=>[(3,e)]) (fun⟨a3,au⟩ wr=>DE w [.row e 137 256 (a3).length au,.box b1 [f] 25] wr fun Oz=>A5 (.bb 256) (gz H w wr Oz) a3 au/\JS a3=some r) ?_ ?_
 ·refine Aq<|Ag (Af Z Aas Z Ho.e)<|Ag (Ae 1 Z cq Z)<|Ag (AT a2)<|A1 1 Z<|A8 ?_;obtain⟨bl,h⟩:=Bc h;refine Bz ((List (Nat->Bool))×Int×Qq5×Nat) (fun⟨ae,d,x,n⟩=>[(1,(Aac b1)),(3,e),(27,No (a0.length:Int)),(28,No d)]) (fun⟨ae,d,x,n⟩ wr=>DE w [.row e 137 256 (ae).length x,.box b1 [f] 25] wr fun Oz=>A5 (.bb 256) (gz H w wr Oz) ae x/\FW (H9 a0) n (ae,d)=some r) (fun⟨ae,d,x,n⟩=>n) (bf,0,aq,bl) Z ⟨cq,dl,h⟩ ?_;rintro⟨ae,d,x,nn1071⟩ d4 ⟨a4,bg,h⟩;obtain⟨bl,cd,rfl,h,bp⟩:=Ba h;refine AI 1 Z<|AM<|AS h ?_ ?_<;>intro cr h
  ·refine A4<|A2<|Bm ((List (Nat->Bool))×Qq5) (fun⟨am,ag⟩=>[(1,(Aac b1)),(3,e),(27,No (a0.length:Int)),(28,No d)]) (fun⟨am,ag⟩ wr=>DE w [.row e 137 256 (am).length ag,.box b1 [f] 25] wr fun Oz=>A5 (.bb 256) (gz H w wr Oz) am ag/\(JT d) am=some cd) ?_ ?_
   ·refine A8<|Aq<|Ag (Af Z Aas Z Ho.e)<|Ag (Ae 1 Z a4 Z)<|Ag (AT a2)<|A1 1 Z<|A8 ?_;obtain⟨bm,h⟩:=Bc h;refine Bz ((List (Nat->Bool))×Int×Qq5×Nat) (fun⟨af,a,y,n⟩=>[(1,(Aac b1)),(3,e),(27,No (a0.length:Int)),(28,No d),(31,f),(32,No (a0.length:Int)),(33,No a)]) (fun⟨af,a,y,n⟩ wr=>DE w [.row e 137 256 (af).length y,.box b1 [f] 25] wr fun Oz=>A5 (.bb 256) (gz H w wr Oz) af y/\FW (H8 a0 d) n (af,a)=some cd) (fun⟨af,a,y,n⟩=>n) (ae,0,x,bm) Z ⟨a4,bg,h⟩ ?_;rintro⟨af,a,y,nn1566⟩ d5 ⟨a5,an,h⟩;obtain⟨bm,ce,rfl,h,bq⟩:=Ba h;refine AI 1 Z<|AM<|AS h ?_ ?_<;>intro cs h
    ·refine A4<|A2<|Bm ((List (Nat->Bool))×Qq5) (fun⟨ao,ah⟩=>[(1,(Aac b1)),(3,e),(27,No (a0.length:Int)),(28,No d),(31,f),(32,No (a0.length:Int)),(33,No a)]) (fun⟨ao,ah⟩ wr=>DE w [.row e 137 256 (ao).length ah,.box b1 [f] 25] wr fun Oz=>A5 (.bb 256) (gz H w wr Oz) ao ah/\(JU a) ao=some ce) ?_ ?_
     ·refine A8<|B1 1 Z<|A3 h fun br h=>Bf a2 a.toNat (CT br) (AD br) ?_;rintro ec _ ⟨_,_,rfl,rfl,⟨_,_,rfl,rfl,⟨_,_,rfl,⟨e1728v2,rfl,e1728h2⟩,⟨_,_,rfl,rfl,⟨_,_,rfl,rfl,⟨_,_,rfl,rfl,⟨_,_,rfl,rfl,⟨_,_,rfl,rfl,⟨_,_,rfl,rfl,⟨_,_,rfl,rfl,⟨_,_,rfl,⟨e1728v10,rfl,e1728h10⟩,⟨e1728v11,rfl,e1728h11⟩⟩⟩⟩⟩⟩⟩⟩⟩⟩⟩⟩ ct;refine Ag (Ce ct (hH.trans a5.arg))<|AZ Bl.e Z a5 fun ed bn cu ch _=>Ar 1 Z<|A7 0 Z cu Z (h1:=(BP Z (BP Z (BP e1728h2.one (Uw 7 Z (BP e1728h10.one (BP e1728h11.one Mx))))))) fun ee av ci=>Al<|Aq<|Ag (Ax 0 Z Bl.e av Z)<|Av h fun j cv h=>Bv av (JQ (a0:=(a0.getD a.toNat Qq1)) _ _ (Ao av) (e1728h2.mono  Ai) (e1728h10.mono  Ai) (e1728h11.mono  Ai) cv) ?_;rintro ab ef ⟨_,rfl,ca⟩ cw cx cj;have a6:=ca.mono (DN av cw);refine Ag (AT a6)<|A1 1 Z<|A8 ?_;obtain⟨bo,h⟩:=Bc h;have an:=an.mono (Ac (ch.trans (ci.trans cj)))
      refine Bz ((List (Nat->Bool))×Int×Qq5×Nat) (fun⟨k,b,z,n⟩=>[(1,(Aac b1)),(3,e),(6,No a),(27,No (a0.length:Int)),(28,No d),(31,f),(32,No (a0.length:Int)),(33,No a),(39,ab),(40,No (j.length:Int)),(41,No b)]) (fun⟨k,b,z,n⟩ wr=>DE w [.box bn [.string ⟨((a0.getD a.toNat Qq1).1).toArray⟩,No ((a0.getD a.toNat Qq1).2.1),e1728v2,No ((a0.getD a.toNat Qq1).2.2.2.1),.bool ((a0.getD a.toNat Qq1).2.2.2.2.1),No ((a0.getD a.toNat Qq1).2.2.2.2.2.1),No ((a0.getD a.toNat Qq1).2.2.2.2.2.2.1),No ((a0.getD a.toNat Qq1).2.2.2.2.2.2.2.1),No ((a0.getD a.toNat Qq1).2.2.2.2.2.2.2.2.1),No ((a0.getD a.toNat Qq1).2.2.2.2.2.2.2.2.2.1),e1728v10,e1728v11] 50,.row e 137 256 (k).length z,.box b1 [f] 25] wr fun Oz=>AL (.int .i64) (gz H w wr Oz) ab j/\A5 (.bb 256) (gz H w wr Oz) k z/\FW (H7 a j) n (k,b)=some ce) (fun⟨k,b,z,n⟩=>n) (af,0,y,bo) Z ⟨cx,a6,an,h⟩ ?_;rintro⟨k,b,z,nn1809⟩ d6 ⟨aw,a7,ai,h⟩
      obtain⟨bo,cf,rfl,h,bs⟩:=Ba h;refine AI 1 Z<|AM<|AS h ?_ ?_<;>intro cy h
      ·refine A4<|A2<|Bm ((List (Nat->Bool))×Qq5) (fun⟨ap,aj⟩=>[(1,(Aac b1)),(3,e),(6,No a),(27,No (a0.length:Int)),(28,No d),(31,f),(32,No (a0.length:Int)),(33,No a),(39,ab),(40,No (j.length:Int)),(41,No b)]) (fun⟨ap,aj⟩ wr=>DE w [.box bn [.string ⟨((a0.getD a.toNat Qq1).1).toArray⟩,No ((a0.getD a.toNat Qq1).2.1),e1728v2,No ((a0.getD a.toNat Qq1).2.2.2.1),.bool ((a0.getD a.toNat Qq1).2.2.2.2.1),No ((a0.getD a.toNat Qq1).2.2.2.2.2.1),No ((a0.getD a.toNat Qq1).2.2.2.2.2.2.1),No ((a0.getD a.toNat Qq1).2.2.2.2.2.2.2.1),No ((a0.getD a.toNat Qq1).2.2.2.2.2.2.2.2.1),No ((a0.getD a.toNat Qq1).2.2.2.2.2.2.2.2.2.1),e1728v10,e1728v11] 50,.row e 137 256 (ap).length aj,.box b1 [f] 25] wr fun Oz=>AL (.int .i64) (gz H w wr Oz) ab j/\A5 (.bb 256) (gz H w wr Oz) ap aj/\(JV b) ap=some cf) ?_ ?_
       ·refine A8<|Aq<|A3 h fun bt h=>Bf a7 b.toNat (CT bt) (AD bt) ?_;rintro eg _ rfl cz;refine Ag (AX cz (Ao aw))<|A1 1 Z<|B1 2 Z<|A3 h fun bu h=>Bf (aw.KA hH (i:=1) Z ai) ((j.getD b.toNat Qq1).toNat) (CT bu) (AD bu) ?_;rintro eh _ rfl c0;refine Ag (Ce (hz:=⟨(Ux Hp.e)⟩) c0 (Le.refl _))<|A1 1 Z<|A8 ?_;obtain⟨a1,h⟩:=Bc h
        refine Bz ((List (Nat->Bool))×Int×Qq5×Nat) (fun⟨u,c,p,n⟩=>[(1,(Aac b1)),(3,e),(6,No a),(27,No (a0.length:Int)),(28,No d),(31,f),(32,No (a0.length:Int)),(33,No a),(39,ab),(40,No (j.length:Int)),(41,No b),(48,.agg (Kj 256 (k.getD ((j.getD b.toNat Qq1).toNat) Qq1)).toArray),(49,No c)]) (fun⟨u,c,p,n⟩ wr=>DE w [.box bn [.string ⟨((a0.getD a.toNat Qq1).1).toArray⟩,No ((a0.getD a.toNat Qq1).2.1),e1728v2,No ((a0.getD a.toNat Qq1).2.2.2.1),.bool ((a0.getD a.toNat Qq1).2.2.2.2.1),No ((a0.getD a.toNat Qq1).2.2.2.2.2.1),No ((a0.getD a.toNat Qq1).2.2.2.2.2.2.1),No ((a0.getD a.toNat Qq1).2.2.2.2.2.2.2.1),No ((a0.getD a.toNat Qq1).2.2.2.2.2.2.2.2.1),No ((a0.getD a.toNat Qq1).2.2.2.2.2.2.2.2.2.1),e1728v10,e1728v11] 50,.row e 137 256 (u).length p,.box b1 [f] 25] wr fun Oz=>AL (.int .i64) (gz H w wr Oz) ab j/\A5 (.bb 256) (gz H w wr Oz) u p/\FW (F0 k a b j) n (u,c)=some cf) (fun⟨u,c,p,n⟩=>n) (k,0,z,a1) Z ⟨aw,a7,ai,h⟩ ?_
        rintro⟨u,c,p,nn1919⟩ d7 ⟨a8,o,g,h⟩;obtain⟨a1,ei,rfl,h,a9⟩:=Ba h;refine AI 1 Z<|AM<|AS h ?_ ?_<;>intro c1 h
        ·refine A4<|A2<|AM<|A8<|B1 1 Z<|A3 h fun c2 h=>Ag (Qf Z c2 Z)<|A1 2 Z<|Nf (Qqz 0 14 (.tail 14)) mixed V (fun ej bv=>?_);have ac:=a8.call bv;have ay:=Bd a8 bv;refine BJ 6 Z<|A3 h fun bw h=>?_;have g:=g.mono (Ac ay);refine Fl Z Z Z Aar (ac.KA hH (i:=1) Z g) a.toNat (CT bw) (AD bw) Z ?_;rintro ek _ rfl bx;refine A3 h fun bz h=>B9 Z (OL bz Z bx.1) Z<|B9 Z (Ve bx (AD bz) (Le.refl _)) Z<|BJ 1 Z<|Ic 62 Z (fun ad=>?_) (fun ad=>?_)
         ·have h:=LD ad h;refine M3 Z Z Z Z ad Z<|B9 Z (Ak ad Z) Z<|A3 h fun ba h=>Oq 1 Z Z Z Aar Hp.e ac Z a.toNat (CT ba) (AD ba) Z fun el b0=>A3 h fun b2 h=>B9 Z (OL b2 Z b0.2.2) Z<|B8 (fun em b3=>?_);have c3:=ac.call b3;have bh:=Bd ac b3;have g:=g.mono (Ac bh);refine QU (m:=c.toNat) 1 Z c3 Z g b0 (AD b2) (AD ba) fun en c4 bi bc=>AP<|A9<|A2<|Az<|A3 h fun c5 h=>Ag (AA c5)<|Ar 1 Z<|AP ?_;have h:=BW.again h a9;have o:=o.mono (Ac (ay.trans (bh.trans bi)));have bc:=bc.mono (Ac bi);refine AN (_,_,_,_) ⟨c4,o,bc,h⟩
         have h:=LF ad h;refine CE Z (Ad Z) Z Z Z ad Z<|B9 Z (Am ad Z) Z<|A3 h fun bd h=>Oq 1 Z Z Z Aar Hp.e ac Z a.toNat (CT bd) (AD bd) Z fun eo b4=>A3 h fun b5 h=>B9 Z (OL b5 Z b4.2.2) Z<|B8 (fun ep b6=>?_);have c6:=ac.call b6;have bj:=Bd ac b6;have g:=g.mono (Ac bj);refine QU (m:=c.toNat) 1 Z c6 Z g b4 (AD b5) (AD bd) fun eq c7 bk be=>AP<|A9<|A2<|Az<|A3 h fun c8 h=>Ag (AA c8)<|Ar 1 Z<|AP ?_;have h:=BW.again h a9;have o:=o.mono (Ac (ay.trans (bj.trans bk)));have be:=be.mono (Ac bk)
         refine AN (_,_,_,_) ⟨c7,o,be,h⟩
        refine Bq<|AK<|AF ?_;have h:=BW.out h a9;refine Bj<|A9<|AH (_,_) ⟨a8,o,g,h⟩
       rintro⟨ap,aj⟩ d8 ⟨c9,cb,ck,h⟩;refine Az<|A3 h fun da h=>Ag (AA da)<|Ar 1 Z<|AP ?_;have h:=BW.again h bs;refine AN (_,_,_,_) ⟨c9,cb,ck,h⟩
      refine Bq<|AK<|AF ?_;have h:=BW.out h bs;refine Bj<|A9 ?_;have db:=aw.AR (i:=0) Z;have ai:=ai.mono (Ac (Ah (i:=0) Z));refine AH (_,_) ⟨db,ai,h⟩
     rintro⟨ao,ah⟩ d9 ⟨dc,cl,h⟩;refine Az<|A3 h fun dd h=>Ag (AA dd)<|Ar 1 Z<|AP ?_;have h:=BW.again h bq;refine AN (_,_,_,_) ⟨dc,cl,h⟩
    refine Bq<|AK<|AF ?_;have h:=BW.out h bq;refine Bj<|A9<|AH (_,_) ⟨a5,an,h⟩
   rintro⟨am,ag⟩ ea ⟨de,cm,h⟩;refine Az<|A3 h fun df h=>Ag (AA df)<|Ar 1 Z<|AP ?_;have h:=BW.again h bp;refine AN (_,_,_,_) ⟨de,cm,h⟩
  refine Bq<|AK<|AF ?_;have h:=BW.out h bp;refine Bj<|AH (_,_) ⟨a4,bg,h⟩
 rintro⟨a3,au⟩ er ⟨cg,dg,h⟩;refine AI 2 Z<|Au ?_
 cases h
 refine Aj Z ⟨cg.ext,_,Z,(cg.Hn hH (i:=0) Z dg)⟩
end
end Go.Proofs.YtnmkjjgmnbmmnaaGreatDoor
end
noncomputable section
namespace Go.Proofs.YtnmkjjgmnbmmnaaGreatDoor
open Go Go.E Go.RowKit Go.L
abbrev QV:=Qq3×Int×Qq3×Int×Bool×Int×Int×Int×Int×Int×Qq7×Qq4
def IV(m:Nat):Nat->Bool:=fun c=>decide (c<256)&&m.testBit c
def mix(c:Nat)(f g:Nat->Bool):Nat->Bool:=fun x=>if x<c then(f x||g x)else f x
theorem Sn(f g:Nat->Bool):mix 0 f g=f:=by
 funext x
 unfold mix;rw[if_neg (Nat.not_lt_zero _)]
theorem T5(a b:Nat):mix 256 (IV a) (IV b)=IV (a ||| b):=by
 funext x
 unfold mix IV
 by_cases h:x<256
 ·simp[h,Nat.testBit_or]
 ·simp[h]
theorem O1{c:Nat}{f g:Nat->Bool}{v:Bool}(h:v=(f c||g c)):KD (mix c f g) c v=mix (c+1) f g:=by
 subst h
 funext x
 unfold KD mix
 by_cases e:x=c
 ·subst e;simp
 ·by_cases a:x<c
  ·simp[e,a,show x<c+1 by omega]
  ·simp[e,a,show ¬x<c+1 by omega]
theorem T6{m i:Nat}(h:i<256):KD (IV m) i true=IV (m ||| 2 ^ i):=by
 funext x
 unfold KD IV
 by_cases e:x=i
 ·subst e;simp[h,Nat.testBit_or,Nat.testBit_two_pow]
 ·have:i≠x:=fun h=>e h.symm;simp[e,Nat.testBit_or,Nat.testBit_two_pow,this]
theorem Nq:(fun _=>false)=IV 0:=by
 funext x
 unfold IV;simp
def Sp:Nat->Nat->Nat->Nat
 | 0,_,m=>m
 | n+1,s,m=>Sp n (s+1) (m ||| 2 ^ s)
theorem Vg(t:Nat)(ht:t<256):∀(n s m:Nat),s+n=t+1->IT (t:Int) (IV m,(s:Int))=some (IV (Sp n s m))
 | 0,s,m,h=>by
  unfold IT;refine BA ?_;unfold Ik;dsimp only;rw[if_neg U]
  rfl
 | n+1,s,m,h=>by
  have ih:=Vg t ht n (s+1) (m ||| 2 ^ s) U;unfold IT at ih ⊢;rw[BK (s':=(IV (m ||| 2 ^ s),((s+1:Nat):Int))) ?_,ih]
  ·rfl
  ·unfold Ik;dsimp only;have e:((s:Int) % 256)=(s:Int):=by omega
   have a:(s:Int).toNat=s:=Z;rw[if_pos U,An,e,An,An (h:=(by unfold BH;omega)),a,T6 U]
   rfl
theorem T7{s t m:Nat}(hs:s<=t)(ht:t<256):J7 (s:Int) (t:Int) (IV m)=some (IV (Sp (t+1 - s) s m)):=Vg t ht _ s m U
theorem ZC{α:Type}[Inhabited α]{l:List α}{k:Nat}{v:α}(h:k<l.length):(l.set k v).getD k Qq1=v:=by simp[h]
theorem XZ{l:List (Nat->Bool)}{k j i:Nat}{x:Qq4}(hk:k<l.length)(hx:(x.getD j Qq1).toNat=i)(hj:j<1000):
  LK l (k:Int) (j:Int) x (l,0)=some (.inl (l.set k (mix 256 (l.getD k Qq1) (l.getD i Qq1)),((j+1:Nat):Int))):=by
 have a:l.set k (mix 0 (l.getD k Qq1) (l.getD i Qq1))=l:=by rw[Sn];simp[Qz7,hk]
 have:=JP (F0 l (k:Int) (j:Int) x) (fun c=>(l.set k (mix c (l.getD k Qq1) (l.getD i Qq1)),(c:Int))) 256 (some (.inl (l.set k (mix 256 (l.getD k Qq1) (l.getD i Qq1)),((j+1:Nat):Int)))) (fun c hc=>?_) ?_ 0 U
 ·rw[a]at this;exact this
 ·unfold F0;dsimp only;have e:(k:Int).toNat=k:=Z;have d:(j:Int).toNat=j:=Z;have f:(c:Int).toNat=c:=Z;rw[if_pos U,An,e,d,f,hx,ZC hk,An (h:=(by rw[Qz4];omega)),An];have hm:mix c (l.getD k Qq1) (l.getD i Qq1) c=(l.getD k Qq1) c:=by unfold mix;rw[if_neg (Nat.lt_irrefl _)]
  rw[hm]
  split
  ·rename_i h;rw[An (h:=(by rw[Qz4];omega)),An,An (h:=(by unfold BH;omega)),List.set_set,O1 (by rw[h];rfl)]
   rfl
  ·rename_i h;have h':(l.getD k Qq1) c=false:=by simpa using h
   rw[An (h:=(by rw[Qz4];omega)),An,An (h:=(by unfold BH;omega)),List.set_set,O1 (by rw[h'];rfl)]
   rfl
 ·unfold F0 JV;dsimp only;rw[if_neg U,An (h:=(by unfold BH;omega))]
  rfl
def R0(k:Nat):Qq4->List Nat->List Nat
 | [],M=>M
 | i::x,M=>R0 k x (M.set k (M.getD k 0 ||| M.getD i.toNat 0))
theorem Qg(k:Nat):∀(x:Qq4) (M:List Nat),(R0 k x M).length=M.length
 | [],_=>rfl
 | _::x,M=>by rw[R0,Qg k x];simp
theorem getD_map{M:List Nat}{i:Nat}(h:i<M.length):(M.map IV).getD i Qq1=IV (M.getD i 0):=by simp[Qz7,h]
theorem X2(k:Nat)(x:Qq4)(hx:∀i∈x,0<=i)(h1:x.length<1000)(a:k<1000):∀(j:Nat) (M:List Nat),k<M.length->(∀i∈x,i<(M.length:Int))->j<=x.length->
  Il (k:Int) x (M.map IV,(j:Int))=some (.inl ((R0 k (x.drop j) M).map IV,((k+1:Nat):Int)))
 | j,M,hk,hi,hj=>by
  by_cases e:j=x.length
  ·subst e;unfold Il;rw[List.drop_length,R0];refine BA ?_;unfold H7 JU;dsimp only;rw[if_neg U,An (h:=(by unfold BH;omega))]
   rfl
  ·have hlt:j<x.length:=by omega
   have hm:x.getD j Qq1=x[j]:=by simp[Qz7,hlt]
   have hmem:=List.getElem_mem hlt;have h2:=hi _ hmem;have h3:=hx _ hmem;have ih:=X2 k x hx h1 a (j+1) (M.set k (M.getD k 0 ||| M.getD x[j].toNat 0)) (by rw[Qz4];exact hk) (by rw[Qz4];exact hi) U;rw[Qz1 hlt,R0];unfold Il at ih ⊢;rw[BK (s':=((M.set k (M.getD k 0 ||| M.getD x[j].toNat 0)).map IV,((j+1:Nat):Int))) ?_,ih];unfold H7;dsimp only;have b:(j:Int).toNat=j:=Z;rw[if_pos U,An,b,hm,An (h:=(by rw[Qzf];omega)),XZ (i:=x[j].toNat) (by rw[Qzf];exact hk) (by rw[hm]) U,getD_map hk,getD_map U,T5,<- List.map_set]
termination_by j=>x.length - j
def Nr(B:List Qq4):Nat->List Nat->List Nat
 | 0,M=>M
 | n+1,M=>Nr B n (R0 (B.length - (n+1)) (B.getD (B.length - (n+1)) []) M)
theorem Qh(B:List Qq4):∀(n:Nat) (M:List Nat),(Nr B n M).length=M.length
 | 0,_=>rfl
 | n+1,M=>by rw[Nr,Qh B n,Qg]
section
variable {F:List QV}{B:List Qq4} (hl:B.length=F.length) (hF:F.length<1000) (hB:∀k,k<F.length->Dt (F.getD k Qq1)=some (B.getD k []))
 (hx:∀k,k<F.length->(∀i∈B.getD k [],0<=i/\i<(F.length:Int))/\(B.getD k []).length<1000)
include hl hF hB hx
theorem X3(s:Nat)(hs:s<1000):∀(n:Nat) (M:List Nat),n<=F.length->M.length=F.length->
  Im F (s:Int) (M.map IV,((F.length - n:Nat):Int))=some (.inl ((Nr B n M).map IV,((s+1:Nat):Int)))
 | 0,M,hn,hM=>by
  unfold Im;refine BA ?_;unfold H8 JT;dsimp only;rw[if_neg U,An (h:=(by unfold BH;omega))]
  rfl
 | n+1,M,hn,hM=>by
  have hk:F.length - (n+1)<F.length:=by omega
  obtain⟨h1,h2⟩:=hx _ hk;have ih:=X3 s hs n (R0 (F.length - (n+1)) (B.getD (F.length - (n+1)) []) M) U (by rw[Qg];exact hM);rw[Nr,hl];unfold Im at ih ⊢;have en:((F.length - n:Nat):Int)=((F.length - (n+1)+1:Nat):Int):=by omega
  rw[en]at ih;rw[BK (s':=((R0 (F.length - (n+1)) (B.getD (F.length - (n+1)) []) M).map IV,((F.length - (n+1)+1:Nat):Int))) ?_,ih];unfold H8;dsimp only;have a:((F.length - (n+1):Nat):Int).toNat=F.length - (n+1):=Z;rw[if_pos U,An,a,hB _ hk,Qq9];have:=X2 (F.length - (n+1)) (B.getD (F.length - (n+1)) []) (fun i hi=>(h1 i hi).1) h2 U 0 M U (fun i hi=>by rw[hM];exact(h1 i hi).2) (Nat.zero_le _);rw[List.drop_zero]at this;exact this
def rounds(B:List Qq4):Nat->List Nat->List Nat
 | 0,M=>M
 | n+1,M=>rounds B n (Nr B B.length M)
theorem X4:∀(n:Nat) (M:List Nat),n<=F.length->M.length=F.length->Io F (M.map IV,((F.length - n:Nat):Int))=some ((rounds B n M).map IV)
 | 0,M,hn,hM=>by
  unfold Io;refine BA ?_;unfold H9 JS;dsimp only;rw[if_neg U]
  rfl
 | n+1,M,hn,hM=>by
  have ih:=X4 n (Nr B B.length M) U (by rw[Qh];exact hM);rw[rounds];unfold Io at ih ⊢;have en:((F.length - n:Nat):Int)=((F.length - (n+1)+1:Nat):Int):=by omega
  rw[en]at ih;rw[BK (s':=((Nr B B.length M).map IV,((F.length - (n+1)+1:Nat):Int))) ?_,ih];unfold H9;dsimp only;have:=X3 hl hF hB hx (F.length - (n+1)) U F.length M (Qzx _) hM;rw[Nat.sub_self]at this;rw[if_pos U,hl];exact this
theorem Ug{M:List Nat}(hM:M.length=F.length)(ho:∀k,k<F.length->JR (F.getD k Qq1)=some (IV (M.getD k 0))):IJ F=some ((rounds B F.length M).map IV):=by
 have key:∀n,n<=F.length->Ip F ((M.take (F.length - n)).map IV,((F.length - n:Nat):Int))=some ((rounds B F.length M).map IV):=by
  intro n
  induction n with
  | zero=>
   intro _;unfold Ip;refine BA ?_;unfold HA JW;dsimp only;have:=X4 hl hF hB hx F.length M (Qzx _) hM;rw[Nat.sub_self]at this;rw[if_neg U,Nat.sub_zero,<- hM,List.take_length,hM];rw[show(0:Int)=((0:Nat):Int)from Z,this]
  | succ n ih=>
   intro hn;have ih:=ih U;have hk:F.length - (n+1)<F.length:=by omega
   have en:F.length - n=F.length - (n+1)+1:=by omega
   rw[en]at ih;unfold Ip at ih ⊢
   have et:(M.take (F.length - (n+1)+1)).map IV=(M.take (F.length - (n+1))).map IV++[IV (M.getD (F.length - (n+1)) 0)]:=by
    rw[List.take_succ_eq_append_getElem U,List.map_append];simp[Qz7,show F.length - (n+1)<M.length by omega]
   rw[et]at ih;rw[BK (s':=((M.take (F.length - (n+1))).map IV++[IV (M.getD (F.length - (n+1)) 0)],((F.length - (n+1)+1:Nat):Int))) ?_,ih];unfold HA;dsimp only;have a:((F.length - (n+1):Nat):Int).toNat=F.length - (n+1):=Z
   rw[if_pos U,An,a,ho _ hk,Qq9,An (h:=(by
    unfold Gx;rw[Qzf,QzA];simp only[List.length_singleton];omega)),An (h:=(by unfold BH;omega))]
   rfl
 have:=key F.length (Qzx _);rw[Nat.sub_self]at this;exact this
end
end Go.Proofs.YtnmkjjgmnbmmnaaGreatDoor
end
