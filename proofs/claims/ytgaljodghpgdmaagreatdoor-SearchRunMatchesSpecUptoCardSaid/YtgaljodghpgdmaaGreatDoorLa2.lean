/- Texts of a claim, merged. -/
import Derived.Test.YtgaljodghpgdmaaGreatDoorLa1
import Derived.Lib.Builder
import Derived.Lib.UnsafeStr
import Derived.Test.YtgaljodghpgdmaaGreatDoorRows
import Derived.KernelRfl
import Derived.Lib.OthersKept
import Derived.Lib.SliceRun
import Derived.Shelf.Sort.Plain
import Derived.Shelf.Slices.In.SortNone
import Derived.Shelf.Slices.CompactI
import Derived.Shelf.Slices.CompactS
import Derived.Shelf.SlSortCmp.NoneTotal
import Derived.Shelf.SlGeneric
import Derived.Shelf.Strings.Split
import Derived.Shelf.Strings.OnBuilder
import Derived.Shelf.GgClosure.StringsRunes
import Derived.Shelf.Strings.Runes
import Derived.Shelf.SlIter.Sorted
import Derived.Shelf.Spec.DecodeRune
import Derived.Shelf.Strconv.Itoa3
import Derived.Shelf.Strconv.AtoiAll
import Derived.Shelf.Strings.IndexAnyAll
import Derived.Ground.NamesProg
import Derived.Ground.Names2Prog
import Derived.Ground.Names7Prog
import Derived.Ground.GgwProg
import Derived.Ground.GgzProg
import Derived.Ground.SlsfProg
import Derived.Test.YtgaljodghpgdmaaGreatDoorProg
open Option renaming some->TI
open _root_.Go.Proofs.Tryz renaming underlying3→TQ,underlying9→TH,underlying27→Vv,underlying28→Xe,underlying22→Adh,underlying23→Jk,underlying24→LS,underlying25→U5,underlying29→Aer,underlying31→Xi,underlying35→Ag9,underlying37→Sf,underlying39→QW,underlying47→VV,underlying52→Vz,underlying54→KR,underlying56→LO,underlying59→RO,underlying32→Agt,underlying34→YL,underlying61→Aho,underlying63→VX,underlying120→Aj0,underlying126→IL,underlying132→RF,underlying146→Aj8,underlying88→PT,underlying101→WD,underlying105→Tk,underlying107→Z6,underlying109→Ajs,underlying112→Zz,underlying118→Aju,underlying164→AkN,underlying171→R4,underlying158→Akp
open Option renaming bind->Xd,bind_some->Wo,map->Sh,map_some->TB
open List renaming getD_eq_getElem?_getD->Sb,length_cons->PF,length_map->Vx,replicate->Xk,length_append->T6,range->VO,mem_cons->R7,length_take->Y4,getElem?_eq_some_iff->Z9,length_nil->RZ,eq_nil_of_length_eq_zero->Vu,append_nil->R0,map_cons->Yu,length_drop->U1,take_of_length_le->Sg,mem_range->PQ,append_assoc->YW,nil_append->Qx,cons_append->VT,map_map->Xc,length_mergeSort->YJ,getElem?_take->Tm,toList_toArray->TF
open Int renaming toNat_natCast->SV,eq_ofNat_of_zero_le->Ph,toNat_of_nonneg->Rt,lt_trichotomy->VR
open Prod renaming fst->TJ
open Nat renaming le_refl->KN,blt->Uu,zero_add->Q8,mul_one->Z5,add_zero->Pf,lt_or_ge->TC,mul_le_mul_right->Wp,beq->SC,lt_succ_iff_lt_or_eq->SH,min_eq_left->VW
open HAppend renaming hAppend->Yt
open Bool renaming and_eq_true->ZA,false_eq_true->SQ,eq_iff_iff->Z8,or_eq_true->U2,not_false->R1
open UInt8 renaming lt_iff_toNat_lt->QV
open Array renaming getD_eq_getD_getElem?->Q2,getElem?_eq_none->Qo,getElem?_append_left->Ug
open BitVec renaming ofInt->Q9
open ByteArray renaming size->Vl
set_option linter.defProp false
set_option linter.unusedVariables false
set_option linter.unusedSimpArgs false
set_option linter.unusedSectionVars false
noncomputable section
namespace Go.E
open Go Go.RowKit
structure Nb (α:Type) where
 pre:α->LR
 dat:α->Qm
 upd:α->Qm->α
 sz:Nat
 len:∀x,(pre x).length+1=sz
 one:∀x,∀u∈pre x,u.oneCell'=true
 AoK:∀x d,pre (upd x d)=pre x
 AoL:∀x d,dat (upd x d)=d
def Nb.b:Nb Qm:=⟨λ_=>[],λx=>x,λ_ d=>d,1,λ_=>Z,(λ_ _ h=>by cases h),λ_ _=>Z,λ_ _=>Z⟩
def Nb.s:Nb (Int×Qm):=⟨λx=>[.int .i64 x.1],λx=>x.2,λx d=>(x.1,d),2,λ_=>Z,(λ_ u h=>by simp at h;subst h;rfl),λ_ _=>Z,λ_ _=>Z⟩
section
variable {α:Type} (N:Nb α) (e:TypeId)
end
section
variable {α:Type}{N:Nb α}{e:TypeId}
theorem UH:∀(A T:List Bv) (i:Nat),Ba (A++T) (A.length+i)=Ba T i
 | [],T,i=>by rw[Qx,RZ,Q8]
 | a::A,T,i=>by rw[PF,show A.length+1+i=(A.length+i)+1 by omega];exact UH A T i
theorem Aca:∀(A T:List Bv) (i:Nat) (r:Bv),Ci (A++T) (A.length+i) r=A++Ci T i r
 | [],T,i,r=>by rw[Qx,RZ,Q8,Qx]
 | a::A,T,i,r=>by rw[PF,show A.length+1+i=(A.length+i)+1 by omega];exact congrArg (a :: ·) (Aca A T i r)
theorem KD:∀{A:List Bv}{i:Nat}{r:Bv} (T:List Bv),Ba A i=TI r->Ba (A++T) i=TI r
 | _::_,0,_,_,h=>h
 | _::A,i+1,_,T,h=>KD (A:=A) (i:=i) T h
theorem Qb:∀{A:List Bv}{i:Nat}{r:Bv} (s:Bv) (T:List Bv),Ba A i=TI r->Ci (A++T) i s=Ci A i s++T
 | _::_,0,_,_,_,_=>rfl
 | a::A,i+1,_,s,T,h=>congrArg (a :: ·) (Qb (A:=A) (i:=i) s T h)
end
section
variable {P:Program}{n:Sz}{ops:Array Oper}{Q:Exit->Act->World->Prop}{L:ZC}{w w0:World}{O:List Bv}{rest:List Oper}
 {d:Nat}{ty:TypeId}{pos:String}{af:Array Edge}{α:Type} [Inhabited α] {N:Nb α}{x y:Operand}{vo:Value}{t e eo:TypeId}{A:List Bv}{l:List α}{vs:LR}
end
section
variable {P:Program}{n:Sz}{ops:Array Oper}{Q:Exit->Act->World->Prop}{L:ZC}{w w0:World}{rest:List Oper}
 {d d':Nat}{ty ty':TypeId}{pos pos':String}{af af':Array Edge}{α:Type}{N:Nb α}{x:Operand}{v vo:Value}{t e eo:TypeId}{H:PH}{l:List α}{vs:LR}
end
section
variable {w w' w0:World}{A T O O':List Bv}{α:Type}{N:Nb α}{r:Rp α}{vo:Value}{e eo:TypeId}{H:PH}{l:List α}{vs:LR}
theorem Acb:∀(A T:List Bv) (i:Nat),LQ (A++T) (A.length+i)=A++LQ T i
 | [],T,i=>by rw[Qx,RZ,Q8,Qx]
 | a::A,T,i=>by rw[PF,show A.length+1+i=(A.length+i)+1 by omega];exact congrArg (a :: ·) (Acb A T i)
end
end Go.E
namespace Go.L
def Bp{κ β:Type}[DecidableEq κ](d:β)(k:κ):List (κ×β)->β
 | []=>d
 | (a,y)::l=>if k=a then y else Bp d k l
def Ea{κ β:Type}[DecidableEq κ](k:κ)(y:β):List (κ×β)->List (κ×β)
 | []=>[(k,y)]
 | (a,z)::l=>if k=a then(a,y)::l else(a,z)::Ea k y l
end Go.L
namespace Go.E
open Go Go.RowKit
def mE{κ:Type}(enc:κ->Value):Nat->List κ->LR->List MapEntry
 | i,k::l,v::vs=>⟨enc k,v,i⟩::mE enc (i+1) l vs
 | _,_,_=>[]
def mI{κ:Type}[DecidableEq κ](k:κ):List κ->Option Nat
 | []=>none
 | a::l=>if k=a then TI 0 else(mI k l).map (· + 1)
section
variable {κ:Type}{enc:κ->Value}{k:κ}
theorem AaI{v:Value}:∀(l:List κ) (vs:LR) (i:Nat),l.length=vs.length->mE enc i l vs++[⟨enc k,v,i+l.length⟩]=mE enc i (l++[k]) (vs++[v])
 | [],[],i,_=>by simp[mE]
 | a::l,u::vs,i,h=>by
  have:=AaI (v:=v) l vs (i+1) (by simpa using h);simp only[mE,VT,PF];rw[<- this,show i+(l.length+1)=i+1+l.length by omega]
theorem VK:∀(l:List κ) (vs:LR) (i m:Nat) (a:κ),l.length=vs.length->l[m]? = TI a->(mE enc i l vs)[m]? = TI ⟨enc a,vs.getD m Qq7,i+m⟩
 | b::l,u::vs,i,0,a,_,h=>by simp at h;subst h;simp[mE]
 | b::l,u::vs,i,m+1,a,hl,h=>by
  have:=VK l vs (i+1) m a (by simpa using hl) (by simpa using h);simp only[mE,List.getElem?_cons_succ,this];simp;omega
theorem Ae5{v:Value}:∀(l:List κ) (vs:LR) (i m:Nat),l.length=vs.length->l[m]? = some k->(mE enc i l vs).modify m (λe=>{e with key:=enc k,val:=v})=mE enc i l (vs.set m v)
 | b::l,u::vs,i,0,_,h=>by simp at h;subst h;simp[mE]
 | b::l,u::vs,i,m+1,hl,h=>by
  have:=Ae5 (v:=v) l vs (i+1) m (by simpa using hl) (by simpa using h);simp only[mE,List.modify_succ_cons,List.set_cons_succ,this]
theorem VL:∀(l:List κ) (vs:LR) (i:Nat),l.length=vs.length->(mE enc i l vs).length=l.length
 | [],[],_,_=>rfl
 | a::l,u::vs,i,h=>by simp[mE,VL l vs (i+1) (by simpa using h)]
end
structure RA (P:Program) {κ:Type} [DecidableEq κ] (kt:TypeId) (enc:κ->Value):Prop where
 check:∀(b:Bool) (k:κ) w,(Instr.checkKey b 10000 kt (enc k)).run P w=.ok () w
 bits:∀k,Instr.sameBits 10000 (enc k) (enc k)=true
 find:∃dd,P.underlying kt=TI dd/\((∀a b,Instr.sameNow dd (enc a) (enc b)=TI (decide (a=b)))\/
  ((∀a b,Instr.sameNow dd (enc a) (enc b)=none)/\∀a b w,(Op.equal kt (enc a) (enc b)).run P w=.ok (decide (a=b)) w))
section
variable {P:Program}{κ:Type} [DecidableEq κ] {kt t et:TypeId}{enc:κ->Value}{k:κ}
theorem ZO:∀{l:List κ}{m:Nat},mI k l=TI m->m<l.length/\l[m]? = TI k
 | a::l,m,h=>by
  simp only[mI]at h
  split at h
  ·rename_i e;cases h;subst e;simp
  ·cases b:mI k l with
   | none=>rw[b]at h;cases h
   | some j=>
    rw[b]at h;cases h;have:=ZO b
    simpa using this
theorem Yk{dd:TypeDesc}(h:∀a b,Instr.sameNow dd (enc a) (enc b)=TI (decide (a=b))):∀(l:List κ) (vs:LR) (i j:Nat),l.length=vs.length->
  Instr.findNow dd (enc k) (mE enc i l vs) j=TI ((mI k l).map λm=>(j+m,vs.getD m Qq7))
 | [],_,_,_,_=>by simp[mE,Instr.findNow,mI]
 | a::l,v::vs,i,j,hl=>by
  simp only[mE,Instr.findNow,h,mI]
  by_cases e:k=a
  ·simp[e]
  ·simp only[e,decide_false];rw[Yk h l vs (i+1) (j+1) (by simpa using hl)]
   cases mI k l with
   | none=>simp
   | some m=>simp;omega
theorem TM(h:∀a b w,(Op.equal kt (enc a) (enc b)).run P w=.ok (decide (a=b)) w)(w:World):∀(l:List κ) (vs:LR) (i j:Nat),l.length=vs.length->
  (Instr.findAsking kt (enc k) (mE enc i l vs) j).run P w=.ok ((mI k l).map λm=>(j+m,vs.getD m Qq7)) w
 | [],_,_,_,_=>by simp[mE,Instr.findAsking,mI]
 | a::l,v::vs,i,j,hl=>by
  simp only[mE,Instr.findAsking,mI,Sem.run_bind,h,Result.andThen]
  by_cases e:k=a
  ·simp[e]
  ·simp only[e,decide_false];rw[Pb Rg,TM h w l vs (i+1) (j+1) (by simpa using hl)]
   cases mI k l with
   | none=>simp
   | some m=>simp;omega
theorem X1(hk:RA P kt enc){l:List κ}{vs:LR}(hl:l.length=vs.length)(w:World):
  (Instr.findKey kt (enc k) (mE enc 0 l vs)).run P w=.ok ((mI k l).map λm=>(m,vs.getD m Qq7)) w:=by
 obtain⟨dd,hd,h⟩:=hk.find;unfold Instr.findKey
 rcases h with h | ⟨b,h2⟩
 ·simp[run_underlying hd,Yk h l vs 0 0 hl]
 ·cases l with
  | nil=>
   have:vs=[]:=Vu (by simpa using hl.symm);subst this;simp[run_underlying hd,mE,Instr.findNow,mI]
  | cons a l=>
   cases vs with
   | nil=>cases hl
   | cons v vs=>
    have e:Instr.findNow dd (enc k) (mE enc 0 (a::l) (v::vs)) 0=none:=by simp only[mE,Instr.findNow,b]
    simp only[Sem.run_bind,run_underlying hd,Result.andThen,e];have:=TM (k:=k) h2 w (a::l) (v::vs) 0 0 hl;rw[this];simp
def lkV(z:Value)(k:κ)(l:List κ)(vs:LR):Value:=match mI k l with
 | some m=>vs.getD m Qq7
 | none=>z
def Mz(P:Program)(et:TypeId)(z:Value):Prop:=∀w,(zeroValue et).run P w=.ok z w
theorem Ae7{w:World}{b n:Nat}{l:List κ}{vs:LR}{z:Value}(hk:RA P kt enc)(ht:P.underlying t=TI (.map kt et))(hz:Mz P et z)(hb:w.heap[b]? = TI (.map (mE enc 0 l vs).toArray n))(hl:l.length=vs.length):
  (Instr.lookup t (.map (TI b)) (enc k) false).run P w=.ok (lkV z k l vs) w:=by
 have hg:(getObj b).run P w=.ok (.map (mE enc 0 l vs).toArray n) w:=by simp[getObj,Sem.run,hb]
 simp only[Instr.lookup,Sem.run_bind,run_underlying ht,Result.andThen,hg,hk.check];simp only[Sem.run_pure];rw[X1 hk hl];unfold lkV
 cases mI k l with
 | some m=>simp
 | none=>simp[hz w]
def upK(k:κ)(l:List κ):List κ:=match mI k l with
 | some _=>l
 | none=>l++[k]
def upV(k:κ)(v:Value)(l:List κ)(vs:LR):LR:=match mI k l with
 | some m=>vs.set m v
 | none=>vs++[v]
def AlQ{v:Value}{l:List κ}{vs:LR}(hl:l.length=vs.length):(upK k l).length=(upV k v l vs).length:=by
 unfold upK upV
 cases mI k l <;> simp[hl]
theorem Ad3{w:World}{b:Nat}{l:List κ}{vs:LR}{v:Value}(hk:RA P kt enc)(ht:P.underlying t=TI (.map kt et))(hb:w.heap[b]? = TI (.map (mE enc 0 l vs).toArray l.length))(hl:l.length=vs.length):
  (Instr.mapUpdate t (.map (TI b)) (enc k) v).run P w=.ok () (w.putObj b (.map (mE enc 0 (upK k l) (upV k v l vs)).toArray (upK k l).length)):=by
 have hg:(getObj b).run P w=.ok (.map (mE enc 0 l vs).toArray l.length) w:=by simp[getObj,Sem.run,hb]
 have hs:∀o,(setObj b o).run P w=.ok () (w.putObj b o):=λo=>by simp[setObj,Sem.run,hb,World.putObj]
 simp only[Instr.mapUpdate,Sem.run_bind,run_underlying ht,Result.andThen,hg,hk.check];rw[X1 hk hl];unfold upK upV
 cases hm:mI k l with
 | some m=>
  obtain⟨c,h2⟩:=ZO hm;have he:=VK (enc:=enc) l vs 0 m k hl h2;simp only[TB,Sem.run_bind,Result.andThen,List.getElem?_toArray,he,Option.getD_some,Instr.keyThatStays,hk.bits,if_true];simp only[Sem.run_pure];have a:(mE enc 0 l vs).toArray.modify m (λe=>{e with key:=enc k,val:=v})=(mE enc 0 l (vs.set m v)).toArray:=by rw[List.modify_toArray,Ae5 l vs 0 m hl h2]
  rw[a];exact hs _
 | none=>
  have hp:=AaI (enc:=enc) (k:=k) (v:=v) l vs 0 hl;rw[Q8]at hp;simp only[Option.map_none,List.push_toArray];rw[hp,hs];simp
end
section
variable {κ β:Type} [DecidableEq κ] {k:κ}{z:Value}{enc:κ->Value}{ev':β->Value}
theorem X2:∀{l:List (κ×β)} (d:β),mI k (l.map TJ)=none->Go.L.Bp d k l=d
 | [],_,_=>rfl
 | (a,y)::l,d,h=>by
  simp only[Yu,mI]at h
  split at h
  ·cases h
  ·rename_i e;simp only[Go.L.Bp,Pb e];exact X2 d (by cases b:mI k (l.map TJ) <;> simp_all)
theorem X3:∀{l:List (κ×β)}{m:Nat} (d:β),mI k (l.map TJ)=TI m->l[m]? = TI (k,Go.L.Bp d k l)
 | (a,y)::l,m,d,h=>by
  simp only[Yu,mI]at h
  split at h
  ·rename_i e;cases h;subst e;simp[Go.L.Bp]
  ·rename_i e
   cases b:mI k (l.map TJ)with
   | none=>rw[b]at h;cases h
   | some j=>
    rw[b]at h;cases h
    simpa[Go.L.Bp,Pb e]using X3 d b
theorem To{y:β}:∀{l:List (κ×β)},mI k (l.map TJ)=none->Go.L.Ea k y l=l++[(k,y)]
 | [],_=>rfl
 | (a,x)::l,h=>by
  simp only[Yu,mI]at h
  split at h
  ·cases h
  ·rename_i e;simp only[Go.L.Ea,Pb e,VT];rw[To (by cases b:mI k (l.map TJ) <;> simp_all)]
theorem Tp{y:β}:∀{l:List (κ×β)}{m:Nat},mI k (l.map TJ)=TI m->Go.L.Ea k y l=l.set m (k,y)
 | (a,x)::l,m,h=>by
  simp only[Yu,mI]at h
  split at h
  ·rename_i e;cases h;subst e;simp[Go.L.Ea]
  ·rename_i e
   cases b:mI k (l.map TJ)with
   | none=>rw[b]at h;cases h
   | some j=>
    rw[b]at h;cases h;simp only[Go.L.Ea,Pb e];rw[Tp b]
    rfl
theorem Ym{y:β}{l:List (κ×β)}:upK k (l.map TJ)=(Go.L.Ea k y l).map TJ:=by
 unfold upK
 cases h:mI k (l.map TJ)with
 | none=>rw[To h];simp
 | some m=>
  rw[Tp h];obtain⟨b,h2⟩:=ZO h;simp only[List.map_set];obtain⟨h3,a⟩:=Z9.1 h2
  conv=>lhs;rw[<- List.set_getElem_self h3,a]
end
abbrev TN{κ β:Type}(enc:κ->Value)(b:Nat)(l:List (κ×β))(vs:LR):Bv:=.obj b (.map (mE enc 0 (l.map TJ) vs).toArray l.length)
section
variable {P:Program}{n:Sz}{ops:Array Oper}{Q:Exit->Act->World->Prop}{L:ZC}{w w0:World}{O:List Bv}{rest:List Oper}{d:Nat}{ty t kt et:TypeId}{pos:String}{af:Array Edge}{x y x':Operand}
 {κ β:Type} [DecidableEq κ] {enc:κ->Value}{ev':β->Value}{l:List (κ×β)}{k:κ}{H:PH}
omit [DecidableEq κ] in
def ZP[Dr](enc:κ->Value)(β:Type)[hn:V9 (Uu d n.n) true](hL:AB w0 O w)
  (h:∀w' b,AB w0 (TN enc b ([]:List (κ×β)) []::O) w'->Le (fz w O) (fz w' (TN enc b ([]:List (κ×β)) []::O))->S P n ops Q rest ((d,.map (TI b))::L) w'):S P n ops Q (⟨TI d,.makeMap t none,ty,pos,af,none⟩::rest) L w:=by
 have hb:∀b,(Bv.obj w.heap.size (.map (mE enc 0 (([]:List (κ×β)).map TJ) []).toArray ([]:List (κ×β)).length)).block=TI b->w.heap.size<=b:=λb e=>by cases e;exact KN _
 refine Dy (v:=.map (TI w.heap.size)) (w':=w.alloc (.map #[] 0)) hn.e (fun ρ hρ=>?_) (h _ _ (hL.new (C1 w _) (World.alloc_heap_new w _) hb) (Uj hL (C1 w (.map #[] 0)) hb));simp[execOp,Instr.makeMap,newObj,Sem.run]
end
section
variable {κ α:Type} (cw:α->LR) (e:TypeId) (sz:Nat)
def mR(x:List α)(v:Value):Bv:=.row v e sz x.length (x.flatMap cw)
def mT:List (κ×List α)->LR->List Bv
 | x::l,v::vs=>mR cw e sz x.2 v::mT l vs
 | _,_=>[]
end
section
variable {κ α:Type}{cw:α->LR}{e:TypeId}{sz:Nat}
theorem Ahj:∀{l:List (κ×List α)}{vs:LR},l.length=vs.length->∀{i:Nat}{k:κ}{x:List α},l[i]? = TI (k,x)->Ba (mT cw e sz l vs) i=TI (mR cw e sz x (vs.getD i Qq7))
 | y::l,v::vs,h,0,k,x,hx=>by simp at hx;subst hx;rfl
 | y::l,v::vs,h,i+1,k,x,hx=>by
  have:=Ahj (l:=l) (vs:=vs) (by simpa using h) (i:=i) (by simpa using hx)
  simpa[mT,Ba]using this
theorem Ahk:∀{l:List (κ×List α)}{vs:LR},l.length=vs.length->∀{i:Nat} (k:κ) (x:List α) (v:Value),i<l.length->Ci (mT cw e sz l vs) i (mR cw e sz x v)=mT cw e sz (l.set i (k,x)) (vs.set i v)
 | y::l,u::vs,h,0,k,x,v,_=>rfl
 | y::l,u::vs,h,i+1,k,x,v,hi=>by
  have:=Ahk (l:=l) (vs:=vs) (by simpa using h) (i:=i) k x v (by simpa using hi);simp[mT,Ci,this]
theorem AaJ(k:κ)(x:List α)(v:Value):∀{l:List (κ×List α)}{vs:LR},l.length=vs.length->mT cw e sz (l++[(k,x)]) (vs++[v])=mT cw e sz l vs++[mR cw e sz x v]
 | [],[],_=>rfl
 | y::l,u::vs,h=>by
  have:=AaJ k x v (l:=l) (vs:=vs) (by simpa using h);simp[mT,this]
end
section
variable {P:Program}{n:Sz}{ops:Array Oper}{Q:Exit->Act->World->Prop}{L:ZC}{w w0:World}{O:List Bv}{rest:List Oper}{d:Nat}{ty ty' t mt kt et e:TypeId}{pos pos':String}{af af':Array Edge}{x y x' m':Operand}
 {κ α:Type} [DecidableEq κ] {enc:κ->Value}{cw:α->LR}{sz:Nat}{l:List (κ×List α)}{vs:LR}{k:κ}{H:PH}{A:List Bv}
def AlR(cw:α->LR)(e:TypeId)(sz:Nat)(l:List (κ×List α))(vs:LR)(k:κ)(y:List α)(v:Value)(T:List Bv):Prop:=
 v.oneCell'=true/\l.length=vs.length/\T.Perm (mT cw e sz (Go.L.Ea k y l) (upV k v (l.map TJ) vs))
theorem Ahl[Dr]{r:Rp α}{bt:Nat}{zz u:Value}{z:α}(hr:∀G (x:α) c,r.rel G x c↔c=cw x)[hsz:V9 r.sz sz][hx:V9 (ev L x) (TI (lkV (.slice none 0 0) k (l.map TJ) vs))](hy:ev L y=TI u)(ht:P.underlying t=TI (.slice e))[hz:Qqz P e zz sz bt][hzs:V9 zz.cells.size sz](g:0<sz)[hn:V9 (Uu d n.n) true]
  (hH:Le H (hp w0)) (hL:AB w0 (A++mT cw e sz l vs) w) (hl:l.length=vs.length) (hu:As r (gz H w0 w (A++mT cw e sz l vs)) u [z]) (hby:Dx bt ((Go.L.Bp [] k l).length+1))
  (h:∀v' w' T,AlR cw e sz l vs k (Go.L.Bp [] k l++[z]) v' T->AB w0 (A++T) w'->Le (fz w (A++mT cw e sz l vs)) (fz w' (A++T))->S P n ops Q rest ((d,v')::L) w') :
  S P n ops Q (⟨TI d,.call ⟨.builtin .append,#[x,y],#[t,t]⟩,ty,pos,af,none⟩::rest) L w:=by
 have hx:=hx.e
 have hel:∃news,news=cw z/\Z0 (hp w) sz u 1 news:=by
  obtain⟨news,b,h2⟩:=hu.elems
  have h3:news=cw z:=by
   cases b with
   | cons hc ht=>cases ht;rw[R0];exact(hr _ _ _).1 hc
  rw[hsz.e]at h2;exact⟨news,h3,h2.mono (Ae hL)⟩
 obtain⟨news,rfl,hsrc⟩:=hel;have hone:∀c∈cw z,c.oneCell'=true:=λc hc=>r.one (H:=H) ((hr H z (cw z)).2 Z) c hc
 cases hmi:mI k (l.map TJ)with
 | some m=>
  obtain⟨b,h2⟩:=ZO hmi;have h1':m<l.length:=by simpa using b
  have hg:=X3 ([]:List α) hmi;have hrow:=Ahj (cw:=cw) (e:=e) (sz:=sz) hl hg;have hlk:lkV (.slice none 0 0) k (l.map TJ) vs=vs.getD m Qq7:=by unfold lkV;rw[hmi]
  rw[hlk]at hx;have hO:Ba (A++mT cw e sz l vs) (A.length+m)=TI (.row (vs.getD m Qq7) e sz (Go.L.Bp [] k l).length ((Go.L.Bp [] k l).flatMap cw)):=by rw[UH];exact hrow
  refine XY (A.length+m) hx hy ht hz.e hzs.e g hn.e hL hO hsrc hone hby λv' w' hL' hle'=>?_;have p:(.row v' e sz ((Go.L.Bp [] k l).length+1) ((Go.L.Bp [] k l).flatMap cw++cw z):Bv)=mR cw e sz (Go.L.Bp [] k l++[z]) v':=by simp[mR]
  rw[p,Aca,Ahk hl k _ _ h1']at hL' hle';have f:upV k v' (l.map TJ) vs=vs.set m v':=by unfold upV;rw[hmi]
  refine h v' w' _ ⟨?_,hl,?_⟩ hL' hle'
  ·have j:(l.set m (k,Go.L.Bp [] k l++[z])).length=(vs.set m v').length:=by simp[hl]
   have o:(l.set m (k,Go.L.Bp [] k l++[z]))[m]? = TI (k,Go.L.Bp [] k l++[z]):=by simp[h1']
   have a:=Ahj (cw:=cw) (e:=e) (sz:=sz) j o;have hgv:(vs.set m v').getD m Qq7=v':=by simp[Sb,show m<vs.length by omega]
   rw[hgv]at a;have:=hL'.at (i:=A.length+m) (r:=mR cw e sz (Go.L.Bp [] k l++[z]) v') (by rw[UH];exact a);exact row_one this
  ·rw[f,Tp hmi]
 | none=>
  have hg:=X2 ([]:List α) hmi;have hlk:lkV (.slice none 0 0) k (l.map TJ) vs=.slice none 0 0:=by unfold lkV;rw[hmi]
  rw[hlk]at hx;have hnil:=Xy hL e sz;have hby':Dx bt (0+1):=by rw[hg]at hby;exact hby
  refine XY 0 hx hy ht hz.e hzs.e g hn.e hnil.1 Z hsrc hone hby' λv' w' hL' hle'=>?_
  have hp:(A++(mT cw e sz l vs++[mR cw e sz [z] v'])).Perm (.row v' e sz (0+1) ([]++cw z)::(A++mT cw e sz l vs)):=by
   rw[<- YW];have:(mR cw e sz [z] v':Bv)=.row v' e sz (0+1) ([]++cw z):=by simp[mR]
   rw[this];exact List.perm_append_singleton _ _
  have f:upV k v' (l.map TJ) vs=vs++[v']:=by unfold upV;rw[hmi]
  refine h v' w' (mT cw e sz l vs++[mR cw e sz [z] v']) ⟨row_one (hL'.aT 0 Z),hl,?_⟩ (hL'.perm hp) ?_
  ·rw[f,To hmi,hg,Qx,AaJ k [z] v' hl]
  ·rw[Js hp];exact hnil.2.trans hle'
def AlS[Dr](ib:Nat){b:Nat}{v:Value}{yl:List α}{T:List Bv}(hpd:AlR cw e sz l vs k yl v T)(hm:ev L m'=TI (.map (TI b)))[hkx:V9 (ev L x') (TI (enc k))][hv:V9 (ev L x) (TI v)][hmt:V9 (P.underlying mt) (TI (.map kt et))](hk:RA P kt enc)
  (hL:AB w0 (A++T) w) (hib:Ba A ib=TI (TN enc b l vs))
  (h:∀vs' w',(Go.L.Ea k yl l).length=vs'.length->AB w0 (Ci A ib (TN enc b (Go.L.Ea k yl l) vs')++mT cw e sz (Go.L.Ea k yl l) vs') w'->
   Le (fz w (A++T)) (fz w' (Ci A ib (TN enc b (Go.L.Ea k yl l) vs')++mT cw e sz (Go.L.Ea k yl l) vs'))->S P n ops Q rest L w') :
  S P n ops Q (⟨none,.mapUpdate mt m' x' x,ty,pos,af,none⟩::rest) L w:=by
 obtain⟨_,hl,hpm⟩:=hpd;have hb:w.heap[b]? = TI (.map (mE enc 0 (l.map TJ) vs).toArray l.length):=hL.at (KD T hib);have hur:=Ad3 (k:=k) (v:=v) (l:=l.map TJ) (vs:=vs) hk hmt.e (by rw[Vx];exact hb) (by simp[hl]);rw[Ym (y:=yl),Vx]at hur;have hp:=hL.putAt (.map (mE enc 0 ((Go.L.Ea k yl l).map TJ) (upV k v (l.map TJ) vs)).toArray (Go.L.Ea k yl l).length) (KD T hib);rw[Qb _ _ hib]at hp;have a:=List.Perm.append_left (Ci A ib (TN enc b (Go.L.Ea k yl l) (upV k v (l.map TJ) vs))) hpm.symm;have hlen:=AlQ (k:=k) (v:=v) (l:=l.map TJ) (vs:=vs) (by simp[hl]);rw[Ym (y:=yl),Vx]at hlen;refine Oy _ (fun ρ hρ=>?_) (h (upV k v (l.map TJ) vs) _ hlen (hp.1.perm a) ?_)
 ·simp[execOp,hρ m' _ hm,hρ x' _ hkx.e,hρ x _ hv.e,hur]
 ·rw[Js a];exact hp.2
end
def Zw{κ β:Type}(enc:κ->Value)(r:Rp β)(H:PH)(v:Value)(l:List (κ×β)):Prop:=
 ∃b vs,v=.map (TI b)/\H b=TI (.map (mE enc 0 (l.map TJ) vs).toArray l.length)/\l.length=vs.length/\∀i x,l[i]? = TI x->r.rel H x.2 [vs.getD i Qq7]
def Zw.mono{κ β:Type}{enc:κ->Value}{r:Rp β}{H H':PH}{v:Value}{l:List (κ×β)}(h:Zw enc r H v l)(hs:Le H H'):Zw enc r H' v l:=by
 obtain⟨b,vs,a,h2,h3,c⟩:=h;exact⟨b,vs,a,hs _ _ h2,h3,λi x hx=>r.mono hs (c i x hx)⟩
section
variable {P:Program}{L:ZC}{w w0:World}{ty t kt et e:TypeId}{x y:Operand}{κ α:Type} [DecidableEq κ] {enc:κ->Value}{cw:α->LR}{r:Rp α}{sz:Nat}{l:List (κ×List α)}{vs:LR}{k:κ}{H:PH}{A:List Bv}
omit [DecidableEq κ] in
theorem AeA[Dr](hsz:r.sz=sz)(hr:∀G (x:α) c,r.rel G x c↔c=cw x)(hH:Le H (hp w0)):∀{l:List (κ×List α)}{vs:LR},l.length=vs.length->AB w0 (A++mT cw e sz l vs) w->AB w0 A w/\Le (fz w (A++mT cw e sz l vs)) (fz w A)/\∀i x,l[i]? = TI x->As r (gz H w0 w A) (vs.getD i Qq7) x.2
 | [],[],_,hL=>⟨by simpa[mT]using hL,by simp only[mT,R0];exact Le.refl _,λi x hx=>by cases hx⟩
 | y::l,v::vs,hn,hL=>by
  have hi:Ba (A++mT cw e sz (y::l) (v::vs)) (A.length+0)=TI (.row v e r.sz y.2.length (y.2.flatMap cw)):=by rw[UH,hsz];rfl
  have hel:Ao r (gz H w0 w (A++mT cw e sz (y::l) (v::vs))) y.2 (y.2.flatMap cw):=by
   generalize gz H w0 w (A++mT cw e sz (y::l) (v::vs))=G
   induction y.2 with
   | nil=>exact .nil
   | cons a m ih=>rw[List.flatMap_cons];exact .cons ((hr _ _ _).2 Z) ih
  have hv:=hL.BB hH hi hel;have b:=hL.Aa3 hi;have d:=PY (w:=w) hi;rw[Acb]at hv b d;obtain⟨f,h2,h3⟩:=AeA hsz hr hH (l:=l) (vs:=vs) (by simpa using hn) b;refine⟨f,d.trans h2,λi x hx=>?_⟩
  cases i with
  | zero=>simp at hx;subst hx;exact hv.mono (Aa h2)
  | succ i=>simpa using h3 i x (by simpa using hx)
 | [],_::_,h,_=>by cases h
 | _::_,[],h,_=>by cases h
omit [DecidableEq κ] in
def AeB[Dr](ib:Nat){b:Nat}(hsz:r.sz=sz)(hr:∀G (x:α) c,r.rel G x c↔c=cw x)(hH:Le H (hp w0))(hl:l.length=vs.length)(hL:AB w0 (A++mT cw e sz l vs) w)(hib:Ba A ib=TI (TN enc b l vs)):
  AB w0 (LQ A ib) w/\Le (fz w (A++mT cw e sz l vs)) (fz w (LQ A ib))/\Zw enc (.vec r) (gz H w0 w (LQ A ib)) (.map (TI b)) l:=by
 obtain⟨a,h2,h3⟩:=AeA hsz hr hH hl hL;have d:=PY (w:=w) hib;have hb:=a.at hib;refine⟨a.Aa3 hib,h2.trans d,b,vs,Z,?_,hl,λi x hx=>⟨_,Z,(h3 i x hx).mono (Aa d)⟩⟩;have hge:=a.own _ ((DF hib).mem_iff.2 (.head _)) b Z;have f:fz w (LQ A ib) b=w.heap[b]?:=XU hib Z a.dis;refine UD b _ ?_;unfold nf;rw[Xu hge,f];exact hb
theorem AmJ[Dr]{v:Value}(hm:Zw enc (.vec r) H v l)(hk:RA P kt enc)(ht:P.underlying t=TI (.map kt et))(hz:Mz P et (.slice none 0 0))(hx:ev L x=TI v)(hy:ev L y=TI (enc k))(hs:Le H (hp w)):
  ∃u,AY P L w (.lookup t x y false) ty u/\As r H u (Go.L.Bp [] k l):=by
 obtain⟨b,vs,rfl,h2,h3,d⟩:=hm;refine⟨lkV (.slice none 0 0) k (l.map TJ) vs,λw' hx' ρ hρ dst pos af g=>?_,?_⟩
 ·have:=Ae7 (k:=k) (l:=l.map TJ) (vs:=vs) hk ht hz (hx'.le _ _ (hs _ _ h2)) (by simp[h3]);simp[execOp,hρ x _ hx,hρ y _ hy,this]
 ·unfold lkV
  cases hmi:mI k (l.map TJ)with
  | none=>rw[X2 [] hmi];exact As.nil r H
  | some m=>
   obtain⟨u,a,c⟩:=d m _ (X3 [] hmi);simp only[List.cons.injEq,and_true]at a
   show As r H (vs.getD m Qq7) _
   rw[a];exact c
end
def Wy(a b:Qm):((⟨a.toArray⟩:ByteArray)==⟨b.toArray⟩)=decide (a=b):=by
 have:((⟨a.toArray⟩:ByteArray)==⟨b.toArray⟩)=(a.toArray==b.toArray):=Z;rw[this,Z8];simp
def encS(s:Qm):Value:=.string ⟨s.toArray⟩
def AfA{P:Program}{kt:TypeId}(hd:P.underlying kt=TI .string):RA P kt encS:=
 ⟨λb k w=>by
   obtain⟨d,he⟩:∃d,10000=d+1:=⟨9999,Z⟩;rw[he];simp[Instr.checkKey,encS,run_underlying hd],
  λk=>by simp[Instr.sameBits,encS,Wy],
  ⟨_,hd,.inl λa b=>by simp only[Instr.sameNow,encS,Wy]⟩⟩
section
variable {P:Program}{n:Sz}{ops:Array Oper}{Q:Exit->Act->World->Prop}{L:ZC}{w:World}{rest:List Oper}{d:Nat}{ty t kt et:TypeId}{pos:String}{af:Array Edge}{x y:Operand}
 {κ α:Type} [DecidableEq κ] {enc:κ->Value}{r:Rp α}{l:List (κ×List α)}{k:κ}{H:PH}{v:Value}
def AeC[Dr][hx:V9 (ev L x) (TI v)][hy:V9 (ev L y) (TI (enc k))][ht:V9 (P.underlying t) (TI (.map kt et))](hk:RA P kt enc)(hz:Mz P et (.slice none 0 0))(hm:Zw enc (.vec r) H v l)(hs:Le H (hp w))[hn:V9 (Uu d n.n) true]
  (h:∀u,As r H u (Go.L.Bp [] k l)->S P n ops Q rest ((d,u)::L) w):S P n ops Q (⟨TI d,.lookup t x y false,ty,pos,af,none⟩::rest) L w:=by
 obtain⟨u,a,h2⟩:=AmJ (ty:=ty) hm hk ht.e hz hx.e hy.e hs;exact AJ a (hn:=⟨hn.e⟩) (h u h2)
end
abbrev XM(h:Int×Int):LR:=[.int .i64 h.1,.int .i64 h.2]
def Ahm:∀(G:PH) (x:Int×Int) (c:LR),(Rp.pair (.int .i64) (.int .i64)).rel G x c↔c=XM x:=
 λ_ _ _=>⟨λ⟨_,_,h,a,h2⟩=>by subst a;subst h2;exact h,λh=>⟨_,_,h,Z,Z⟩⟩
abbrev cwI(h:Int):LR:=[.int .i64 h]
def Alo:∀(G:PH) (x:Int) (c:LR),(Rp.int .i64).rel G x c↔c=cwI x:=λ_ _ _=>Iff.rfl
end Go.E
namespace Go.E
open Go Go.RowKit
def Yn(ops:Array Oper)(j:Nat):Bool:=match ops[j]? with
 | some oj=>(VO ops.size).all λk=>k==j||oj.after.any λe=>Region.binds .any e&&e.on==k
 | none=>false
theorem AfC{ops:Array Oper}{i j:Nat}{oj:Oper}(hj:ops[j]? = TI oj)(hi:i<ops.size)(hne:i≠j)(hnot:∀e∈oj.after,Region.binds .any e=true->e.on≠i):Yn ops j=false:=by
 unfold Yn;rw[hj];simp only
 cases h:(VO ops.size).all (λk=>k==j||oj.after.any λe=>Region.binds .any e&&e.on==k)with
 | false=>rfl
 | true=>
  have a:=List.all_eq_true.1 h i (PQ.2 hi);simp only[U2,beq_iff_eq,hne,false_or]at a;obtain⟨e,he,hb⟩:=Array.any_eq_true'.1 a;simp only[ZA,beq_iff_eq]at hb;exact absurd hb.2 (hnot e he hb.1)
def dpB(ops:Array Oper)(j k:Nat):Bool:=match ops[j]? with
 | some oj=>oj.after.any λe=>Region.binds .any e&&e.on==k
 | none=>false
def YM(ops:Array Oper)(j:Nat):List Nat->Bool
 | []=>true
 | x::r=>(dpB ops j x||r.any λy=>dpB ops y x)&&YM ops j r
def ZQ(ops:Array Oper)(j:Nat)(c:List Nat):Bool:=YM ops j c&&(VO ops.size).all λk=>k==j||c.contains k||dpB ops k j
def NP(ops:Array Oper)(listed:Array Bool):Prop:=∀k x,dpB ops k x=true->listed.getD k true=true->listed.getD x true=true
def Qz(ops:Array Oper)(listed:Array Bool):Bool:=Nat.ble listed.size ops.size&&(VO ops.size).all λk=>!(listed.getD k true)||(VO ops.size).all λx=>!(dpB ops k x)||listed.getD x true
def Ahn{ops:Array Oper}{listed:Array Bool}(h:Qz ops listed=true):NP ops listed:=λk x hd hk=>by
 simp only[Qz,ZA,List.all_eq_true,PQ,U2,Bool.not_eq_true']at h
 have hk':k<ops.size:=by
  rcases TC k ops.size with a | a
  ·exact a
  ·simp[dpB,Qo a]at hd
 rcases TC x ops.size with hx | hx
 ·rcases h.2 k hk' with a | a
  ·rw[a]at hk;cases hk
  ·rcases a x hx with h2 | h2
   ·rw[h2]at hd;cases hd
   ·exact h2
 ·have:=Nat.le_of_ble_eq_true h.1;rw[Q2,Qo U];rfl
theorem AeE{l:Array Bool}{k:Nat}(h:l.getD k false=true):l.getD k true=true:=by
 rw[Q2]at *
 cases hq:l[k]? with
 | none=>rfl
 | some b=>rw[hq]at h;exact h
theorem W6{ops:Array Oper}{listed:Array Bool}{j:Nat}(hc:NP ops listed)(hj:∀x,dpB ops j x=true->listed.getD x true=true):∀(c:List Nat),YM ops j c=true->∀x∈c,listed.getD x true=true
 | [],_,x,hx=>by cases hx
 | y::r,h,x,hx=>by
  simp only[YM,ZA,U2,List.any_eq_true]at h;have ih:=W6 hc hj r h.2
  rcases R7.1 hx with rfl | hx
  ·rcases h.1 with a | ⟨z,hz,a⟩
   ·exact hj _ a
   ·exact hc z _ a (ih z hz)
  ·exact ih x hx
section
variable (Inv:World->Prop) (P:Program) (ops:Array Oper) (Q:Exit->Act->World->Prop)
def PA:Nat->Array Bool->Act->World->Prop
 | 0,listed,a,w=>Region.ready .any ops listed=[]/\Q .normal a w
 | m+1,listed,a,w=>(Region.ready .any ops listed=[]->Q .normal a w)/\
  ∀i∈Region.ready .any ops listed,wpOp P ops Q i (λa' w'=>(Yn ops i=true\/(∃c,ZQ ops i c=true)\/Inv w')/\PA m (listed.setIfInBounds i true) a' w') a w
def Lb(o:Oper)(v:Value)(a:Act):Prop:=
 (Region.wanted o (yielded ops a.tmps)=true/\∀w,Inv w->(execOp a.eval o).run P w=.ok (.value v) w)\/
 (Region.wanted o (yielded ops a.tmps)=false/\v=undef)
end
section
variable {Inv:World->Prop}{P:Program}{ops:Array Oper}{Q:Exit->Act->World->Prop}
theorem Yo:∀(m:Nat) (listed:Array Bool) (a:Act) (w:World),PA Inv P ops Q m listed a w->wpAny P .any ops Q m listed a w
 | 0,_,_,_,h=>h
 | m+1,_listed,_a,_w,h=>⟨h.1,λi hi=>wpOp_mono (λ_a' _w' k=>Yo m _ _ _ k.2) (h.2 i hi)⟩
def Lb.same{o:Oper}{v:Value}{a a':Act}(hy:Lb Inv P ops o v a)(he:execOp a'.eval o=execOp a.eval o)(hw:Region.wanted o (yielded ops a'.tmps)=Region.wanted o (yielded ops a.tmps)):Lb Inv P ops o v a':=by
 unfold Lb at *;rw[he,hw];exact hy
def Lb.op{i:Nat}{o:Oper}{v:Value}{a:Act}{w:World}(hi:ops[i]? = TI o)(hy:Lb Inv P ops o v a)(hw:Inv w){K:Act->World->Prop}(h:K (a.put o.dst v) w):wpOp P ops Q i K a w:=by
 unfold wpOp;simp only[hi]
 rcases hy with ⟨b,hv⟩ | ⟨b,rfl⟩
 ·simp only[b,if_true,Oper.wp,hv w hw,Oper.upon];exact .inl h
 ·simp only[b,SQ,if_false];exact h
theorem AjI{j:Nat}{oi oj:Oper}{v:Value}(hj:ops[j]? = TI oj)(hap:oi.apart ops oj=true)(hsi:∀cs b,oi.op≠.select cs b)(hsj:∀cs b,oj.op≠.select cs b)
  (hQ:∀c a w,Q (.panic c) (a.put oi.dst v) w->Q (.panic c) a w) {K:Act->World->Prop}{a:Act}{w:World} (hy:Lb Inv P ops oi v a) (h:wpOp P ops Q j K (a.put oi.dst v) w) :
  wpOp P ops Q j (λa' w'=>Lb Inv P ops oi v a'/\K (a'.put oi.dst v) w') a w:=by
 obtain⟨g,h2,h3⟩:=Oper.apart_spec hap;have keep:∀a,Lb Inv P ops oi v a->∀u,Lb Inv P ops oi v (a.put oj.dst u):=λa hy u=>hy.same (execOp_put oi hsi a oj.dst u h3) (wanted_put oi a oj.dst u h3);unfold wpOp at *;simp only[hj]at *;rw[wanted_put oj a oi.dst v g]at h
 split
 ·rename_i hw;simp only[hw,if_true]at h
  rcases h with h | ⟨ha,hl⟩
  case inr=>exact .inr ⟨by unfold Oper.asks at *;rw[execOp_put oj hsj a oi.dst v g]at ha;exact ha,hl⟩
  refine .inl ?_;unfold Oper.wp at *;rw[execOp_put oj hsj a oi.dst v g]at h;generalize (execOp a.eval oj).run P w=r at *
  cases r with
  | ok x w'=>
   cases x <;> simp only[Oper.upon]at h ⊢
   case value u=>exact⟨keep a hy u,by rw[<- Act.put_comm a v u h2];exact h⟩
   case skip=>exact⟨keep a hy _,by rw[<- Act.put_comm a v undef h2];exact h⟩
   case defer d=>
    refine⟨keep {a with defers:=d::a.defers} (hy.same Z Z) _,?_⟩;rw[<- Act.put_comm _ v undef h2,<- Act.put_defers];exact h
   case enter f args=>
    refine h.mono λe w'' he=>?_
    cases e with
    | returned u=>exact⟨keep a hy u,by rw[<- Act.put_comm a v u h2];exact he⟩
    | panicked c=>exact hQ _ _ _ he
    | outgrown=>exact he
   case row row args=>exact Rows.mono h λu w'' he=>⟨keep a hy u,by rw[<- Act.put_comm a v u h2];exact he⟩
  | halt x w'=>
   cases x <;> simp only[Oper.upon]at h ⊢
   case panic u=>exact hQ _ _ _ h
 ·rename_i hw;simp only[hw]at h;exact⟨keep a hy _,by rw[<- Act.put_comm a v undef h2];exact h⟩
theorem Uo{i:Nat}{oi:Oper}{v:Value}(hi:ops[i]? = TI oi)(hsel:∀(j:Nat) (o:Oper) cs b,ops[j]? = TI o->o.op≠.select cs b)(hQ:∀c a w,Q (.panic c) (a.put oi.dst v) w->Q (.panic c) a w):
  ∀
   (m:Nat) (listed:Array Bool) (a:Act) (w:World),
   (∀j oj,ops[j]? = TI oj->j≠i->listed.getD j true=false->(∀e∈oj.after,Region.binds .any e=true->e.on≠i)->oi.apart ops oj=true)->
   i∈Region.ready .any ops listed->NP ops listed->Inv w->Lb Inv P ops oi v a->PA Inv P ops Q m (listed.setIfInBounds i true) (a.put oi.dst v) w->PA Inv P ops Q (m+1) listed a w:=by
 intro m
 induction m with
 | zero=>
  intro listed a w _ hr _ hw hy H;refine⟨λh=>(by rw[h]at hr;cases hr),λj hj=>?_⟩
  by_cases hji:j=i
  ·subst hji;exact hy.op hi hw ⟨.inr (.inr hw),H⟩
  ·have:=ready_mono hj hji;rw[H.1]at this
   cases this
 | succ m ih=>
  intro listed a w hfree hr hcl hw hy H;refine⟨λh=>(by rw[h]at hr;cases hr),λj hj=>?_⟩
  by_cases hji:j=i
  ·subst hji;exact hy.op hi hw ⟨.inr (.inr hw),H⟩
  ·have d:=H.2 j (ready_mono hj hji);obtain⟨hjun,oj,hoj,hall⟩:=mem_ready.1 hj
   have hnot:∀e∈oj.after,Region.binds .any e=true->e.on≠i:=λe he hb heq=>by
    have d:=hall e he hb;have f:=(mem_ready.1 hr).1;rw[heq]at d
    rcases TC i listed.size with h' | h'
    ·simp[h']at f d;rw[f]at d;cases d
    ·simp[Qo h']at d
   have h2:=AjI hoj (hfree j oj hoj hji hjun hnot) (λcs b=>hsel i oi cs b hi) (λcs b=>hsel j oj cs b hoj) hQ hy d
   have hfree':∀k ok,ops[k]? = TI ok->k≠i->(listed.setIfInBounds j true).getD k true=false->
     (∀e∈ok.after,Region.binds .any e=true->e.on≠i)->oi.apart ops ok=true:=λk ok hk hki hun hno=>by
    refine hfree k ok hk hki ?_ hno
    by_cases hjk:j=k
    ·subst hjk;exact hjun
    ·rw[getD_set_ne true hjk]at hun;exact hun
   have hri:i∈Region.ready .any ops (listed.setIfInBounds j true):=ready_mono hr (Ne.symm hji);refine wpOp_mono (λa' w' ⟨hy',hI,hk⟩=>?_) h2
   have hset:PA Inv P ops Q m ((listed.setIfInBounds j true).setIfInBounds i true) (a'.put oi.dst v) w':=by
    rw[Array.setIfInBounds_comm _ _ hji];exact hk
   have hi':=(Array.getElem?_eq_some_iff.1 hi).1
   have hjd:∀x,dpB ops j x=true->listed.getD x true=true:=λx hx=>by
    simp only[dpB,hoj]at hx;obtain⟨e,he,hb⟩:=Array.any_eq_true'.1 hx;simp only[ZA,beq_iff_eq]at hb;rw[<- hb.2];exact AeE (hall e he hb.1)
   have hiun:=(mem_ready.1 hr).1
   have hI':Inv w':=by
    rcases hI.resolve_left (by rw[AfC hoj hi' (Ne.symm hji) hnot];simp)with ⟨c,hc⟩ | hI
    ·exfalso
     simp only[ZQ,ZA,List.all_eq_true,PQ,U2,beq_iff_eq]at hc
     rcases hc.2 i hi' with (h3 | h3) | h3
     ·exact hji h3.symm
     ·have g:=W6 hcl hjd c hc.1 i (by simpa using h3);rw[hiun]at g;cases g
     ·obtain⟨_,oi',hoi',hall'⟩:=mem_ready.1 hr;simp only[dpB,hoi']at h3;obtain⟨e,he,hb⟩:=Array.any_eq_true'.1 h3;simp only[ZA,beq_iff_eq]at hb;have l:=AeE (hall' e he hb.1);rw[hb.2,hjun]at l;cases l
    ·exact hI
   have hcl':NP ops (listed.setIfInBounds j true):=λk x hd hk=>by
    by_cases hxj:x=j
    ·subst hxj;rw[Q2,Array.getElem?_setIfInBounds]
     by_cases hs:x<listed.size
     ·simp[hs]
     ·simp[Qo (Nat.le_of_not_lt hs),hs]
    ·rw[getD_set_ne true (Ne.symm hxj)]
     by_cases hkj:k=j
     ·subst hkj;exact hjd x hd
     ·rw[getD_set_ne true (Ne.symm hkj)]at hk;exact hcl k x hd hk
   exact⟨.inr (.inr hI'),ih _ a' w' hfree' hri hcl' hI' hy' hset⟩
end
def nQI(Inv:World->Prop)(P:Program)(l:List Oper)(Q:Exit->Act->World->Prop)(fuel i:Nat)(listed:Array Bool):Exit->Act->World->Prop:=Exit.then (λa w=>(Yn l.toArray i=true\/(∃c,ZQ l.toArray i c=true)\/Inv w)/\PA Inv P l.toArray Q fuel listed a w) Q
def Nw(Inv:World->Prop)(P:Program)(n:Sz)(l:List Oper)(Q:Exit->Act->World->Prop)(fuel:Nat)(listed:Array Bool)(L:ZC)(w:World):Prop:=∀a,Fr n a L->PA Inv P l.toArray Q fuel listed a w
section
variable {Inv:World->Prop}{P:Program}{n:Sz}{l:List Oper}{Q:Exit->Act->World->Prop}{L:ZC}{w:World}{y:Code}{fuel:Nat}{m:Nat}{done:List Nat}
def Ahp[Dr]{id:Nat}(Inv:World->World->Prop)(hm:P.follows .mixedOrders=true)(hl:l.length=m)(h:∀w',Ext w w'->Nw (Inv w') P n l Q m (R8 m []) L w'):W P n (.region id l.toArray true) Q L w:=λa fr=>by
 refine wp_region_any hm ?_;have:=Yo _ _ _ _ (h _ MR a fr);subst hl
 simpa[R8]using this
def ZR{i:Nat}{o:Oper}(ho:G6 l i=TI o)(h:S P n l.toArray (nQI Inv P l Q fuel i (R8 m (i::done))) [o] L w):
  ∀a,Fr n a L->wpOp P l.toArray Q i (λa' w'=>(Yn l.toArray i=true\/(∃c,ZQ l.toArray i c=true)\/Inv w')/\PA Inv P l.toArray Q fuel ((R8 m done).setIfInBounds i true) a' w') a w:=
 λa fr=>Af6 ho (h a fr) (λe a w hne he=>by cases e <;> first | exact absurd Z hne | exact he)
def Yp{rs:List Nat}{listed:Array Bool}{a:Act}(hr:Region.ready .any l.toArray listed=rs)(hne:rs≠[])
  (h:∀i∈rs,wpOp P l.toArray Q i (λa' w'=>(Yn l.toArray i=true\/(∃c,ZQ l.toArray i c=true)\/Inv w')/\PA Inv P l.toArray Q fuel (listed.setIfInBounds i true) a' w') a w):PA Inv P l.toArray Q (fuel+1) listed a w:=
 ⟨λe=>by rw[hr]at e;exact absurd e hne,λi hi=>h i (by rw[<- hr];exact hi)⟩
def Jr(i:Nat){o:Oper}(ho:G6 l i=TI o)(h:S P n l.toArray (nQI Inv P l Q fuel i (R8 m (i::done))) [o] L w)(hr:Region.ready .any l.toArray (R8 m done)=[i]:=by kernel_rfl):Nw Inv P n l Q (fuel+1) (R8 m done) L w:=
 λa fr=>Yp hr Rg λk hk=>by
  obtain rfl:k=i:=by simpa using hk
  exact ZR ho h a fr
def Pe(i j:Nat){o p:Oper}(ho:G6 l i=TI o)(hr:Region.ready .any l.toArray (R8 m done)=[i,j])(hp:G6 l j=TI p)(h:S P n l.toArray (nQI Inv P l Q fuel i (R8 m (i::done))) [o] L w)(h':S P n l.toArray (nQI Inv P l Q fuel j (R8 m (j::done))) [p] L w):Nw Inv P n l Q (fuel+1) (R8 m done) L w:=
 λa fr=>Yp hr Rg λk hk=>by
  have hk':k=i\/k=j:=by simpa using hk
  rcases hk' with rfl | rfl
  ·exact ZR ho h a fr
  ·exact ZR hp h' a fr
def We(i j s:Nat){o p q:Oper}(ho:G6 l i=TI o)(hr:Region.ready .any l.toArray (R8 m done)=[i,j,s])(hp:G6 l j=TI p)(hq:G6 l s=TI q)(h:S P n l.toArray (nQI Inv P l Q fuel i (R8 m (i::done))) [o] L w)(h':S P n l.toArray (nQI Inv P l Q fuel j (R8 m (j::done))) [p] L w)(h'':S P n l.toArray (nQI Inv P l Q fuel s (R8 m (s::done))) [q] L w):Nw Inv P n l Q (fuel+1) (R8 m done) L w:=
 λa fr=>Yp hr Rg λk hk=>by
  have hk':k=i\/k=j\/k=s:=by simpa using hk
  rcases hk' with rfl | rfl | rfl
  ·exact ZR ho h a fr
  ·exact ZR hp h' a fr
  ·exact ZR hq h'' a fr
def AlT{i:Nat}(hI:Inv w)(h:Nw Inv P n l Q fuel (R8 m done) L w):S P n l.toArray (nQI Inv P l Q fuel i (R8 m done)) [] L w:=λa fr=>⟨.inr (.inr hI),h a fr⟩
def Kq{i:Nat}(h:Nw Inv P n l Q fuel (R8 m done) L w)(hl:Yn l.toArray i=true:=by kernel_rfl):S P n l.toArray (nQI Inv P l Q fuel i (R8 m done)) [] L w:=λa fr=>⟨.inl hl,h a fr⟩
def AeF{i:Nat}(c:List Nat)(hl:ZQ l.toArray i c=true)(h:Nw Inv P n l Q fuel (R8 m done) L w):S P n l.toArray (nQI Inv P l Q fuel i (R8 m done)) [] L w:=λa fr=>⟨.inr (.inl ⟨c,hl⟩),h a fr⟩
def FF(h:At n Q .normal L w)(hr:Region.ready .any l.toArray (R8 m done)=[]:=by kernel_rfl):Nw Inv P n l Q 0 (R8 m done) L w:=λa fr=>⟨hr,h a fr⟩
def Qc(s:Nat){b:Bool}{listed:Array Bool}(_hb:gt L s=TI (.bool b))(a:b=true->Nw Inv P n l Q fuel listed L w)(h2:b=false->Nw Inv P n l Q fuel listed L w):Nw Inv P n l Q fuel listed L w:=by
 cases b
 ·exact h2 Z
 ·exact a Z
variable {d:Nat}{op:Op}{ty:TypeId}{pos:String}{af:Array Edge}
def Au[Dr](i:Nat){v:Value}(hq:I6 Q)(hI:Inv w)(ho:G6 l i=TI ⟨TI d,op,ty,pos,af,none⟩)(hr:∀w,Inv w->AY P L w op ty v)(hn:Uu d n.n=true)
  (h:Nw Inv P n l Q fuel (R8 m (i::done)) ((d,v)::L) w)(hc:(VG l m done i&&Qz l.toArray (R8 m done))=true:=by kernel_rfl):Nw Inv P n l Q (fuel+1) (R8 m done) L w:=λa fr=>by
 simp only[VG,ZA]at hc;obtain⟨⟨⟨b,h2⟩,h3⟩,e⟩:=hc;have ho':l.toArray[i]? = TI ⟨TI d,op,ty,pos,af,none⟩:=by rw[Fx]at ho;simpa using ho
 exact Uo (v:=v) ho' (Region.noSelect_spec b) (λc a w k=>hq c a _ _ w k) _ _ a w (Region.free_spec ho' h2) (by simpa using h3) (Ahn e) hI
  (.inl ⟨by simp[Region.wanted],λw' hw'=>hr w' hw' w' (Ext.refl _) _ fr.Wz _ _ _ _⟩) (h _ (fr.put hn))
def GS[Dr](i:Nat){v:Value}{j s:Nat}{want b:Bool}{oj:Oper}(hq:I6 Q)(hI:Inv w)(ho:G6 l i=TI ⟨TI d,op,ty,pos,af,TI (j,want)⟩)(hj:G6 l j=TI oj)(hd:oj.dst=TI s)(hb:gt L s=TI (.bool b))(hw:b=want)(hr:∀w,Inv w->AY P L w op ty v)(hn:Uu d n.n=true)
  (h:Nw Inv P n l Q fuel (R8 m (i::done)) ((d,v)::L) w)(hc:(VG l m done i&&Qz l.toArray (R8 m done))=true:=by kernel_rfl):Nw Inv P n l Q (fuel+1) (R8 m done) L w:=λa fr=>by
 simp only[VG,ZA]at hc;obtain⟨⟨⟨f,h2⟩,h3⟩,g⟩:=hc;have ho':l.toArray[i]? = TI ⟨TI d,op,ty,pos,af,TI (j,want)⟩:=by rw[Fx]at ho;simpa using ho
 have hj':l.toArray[j]? = TI oj:=by rw[Fx]at hj;simpa using hj
 have hy:yielded l.toArray a.tmps j=TI b:=by simp only[yielded,hj',Wo,hd,fr.get s _ hb]
 refine Uo (v:=v) ho' (Region.noSelect_spec f) (λc a w k=>hq c a _ _ w k) _ _ a w (Region.free_spec ho' h2) (by simpa using h3) (Ahn g) hI
  (.inl ⟨by simp[Region.wanted,hy,hw],λw' hw'=>?_⟩) (h _ (fr.put hn))
 have e:execOp a.eval ⟨TI d,op,ty,pos,af,TI (j,want)⟩=execOp a.eval ⟨TI d,op,ty,pos,af,none⟩:=Z;rw[e];exact hr w' hw' w' (Ext.refl _) _ fr.Wz _ _ _ _
def BZ(i:Nat){j s:Nat}{want b:Bool}{oj:Oper}(hq:I6 Q)(hI:Inv w)(ho:G6 l i=TI ⟨TI d,op,ty,pos,af,TI (j,want)⟩)(hj:G6 l j=TI oj)(hd:oj.dst=TI s)(hb:gt L s=TI (.bool b))(hw:b = !want)(hn:Uu d n.n=true)
  (h:Nw Inv P n l Q fuel (R8 m (i::done)) ((d,undef)::L) w)(hc:(VG l m done i&&Qz l.toArray (R8 m done))=true:=by kernel_rfl):Nw Inv P n l Q (fuel+1) (R8 m done) L w:=λa fr=>by
 simp only[VG,ZA]at hc;obtain⟨⟨⟨e,h2⟩,h3⟩,f⟩:=hc;have ho':l.toArray[i]? = TI ⟨TI d,op,ty,pos,af,TI (j,want)⟩:=by rw[Fx]at ho;simpa using ho
 have hj':l.toArray[j]? = TI oj:=by rw[Fx]at hj;simpa using hj
 have hy:yielded l.toArray a.tmps j=TI b:=by simp only[yielded,hj',Wo,hd,fr.get s _ hb]
 exact Uo (v:=undef) ho' (Region.noSelect_spec e) (λc a w k=>hq c a _ _ w k) _ _ a w (Region.free_spec ho' h2) (by simpa using h3) (Ahn f) hI
  (.inr ⟨by simp[Region.wanted,hy,hw],Z⟩) (h _ (fr.put hn))
def Ad4{w:World}{b:Nat}{cs:LR}{t:TypeId}(h:w.heap[b]? = TI (.cells cs.toArray t (0,0))):Gp (hp w) ⟨b,0,none⟩ cs:=
 ⟨Z,λj u hu=>by
  show GC (hp w) (Addr.add ⟨b,0,none⟩ j)=TI u
  simp only[Addr.add_lit,GC,hp,h]
  simpa using hu⟩
def JV[Dr]{b off:Nat}{cs:LR}{t t':TypeId}{x:Operand}{u:Value}{dd:TypeDesc}(hx:ev L x=TI (.pointer (TI ⟨b,off,none⟩)))[ht:V9 (P.underlying t) (TI dd)][hd:V9 (Ul dd) true](h:w.heap[b]? = TI (.cells cs.toArray t' (0,0)))(hu:nth cs off=TI u):AY P L w (.load t x) ty u:=by
 have a:=(Ad4 h).add off;obtain⟨c,hc⟩:=XW cs off u hu;rw[hc]at a;simp only[Addr.add_lit,Q8]at a;exact B5 (hx:=⟨hx⟩) (ht:=⟨ht.e⟩) (hd:=⟨hd.e⟩) a (Le.refl _)
def MU[Dr]{b:Nat}{cs:LR}{t t':TypeId}{x:Operand}{dd:TypeDesc}{zz:Value}{bt:Nat}[hx:V9 (ev L x) (TI (.pointer (TI ⟨b,0,none⟩)))][ht:V9 (P.underlying t) (TI dd)][hd:V9 (Zu dd) true][hz:Qqz P t zz cs.length bt](h:w.heap[b]? = TI (.cells cs.toArray t' (0,0))):AY P L w (.load t x) ty (.agg cs.toArray):=
 AU (hx:=⟨hx.e⟩) (ht:=⟨ht.e⟩) (hd:=⟨hd.e⟩) (hz:=⟨hz.e⟩) (Ad4 h) (Le.refl _)
def AjJ[Dr]{κ:Type}[DecidableEq κ]{enc:κ->Value}{l:List κ}{vs:LR}{k:κ}{b m:Nat}{t kt et:TypeId}{x y:Operand}{z:Value}[hx:V9 (ev L x) (TI (.map (TI b)))](hy:ev L y=TI (enc k))[ht:V9 (P.underlying t) (TI (.map kt et))](hk:RA P kt enc)(hz:Mz P et z)
  (h:w.heap[b]? = TI (.map (mE enc 0 l vs).toArray m)) (hl:l.length=vs.length):AY P L w (.lookup t x y false) ty (lkV z k l vs):=λw' hx' ρ hρ dst pos af g=>by
 have hb:=hx'.le b _ h;have:=Ae7 (k:=k) hk ht.e hz hb hl;simp[execOp,hρ x _ hx.e,hρ y _ hy,this]
end
end Go.E
namespace Go.E
open Go Go.RowKit
section
variable {P:Program}{L:ZC}{w w0:World}{O:List Bv}{x y:Operand}{ty t t' e src dst u T:TypeId}{b:Nat}{cs:LR}
end
def BAd(b:Nat)(v:Value):Prop:=v=.pointer none\/v=.pointer (TI ⟨b,0,none⟩)
def BAd.one{b:Nat}{v:Value}(h:BAd b v):v.oneCell'=true:=by rcases h with rfl | rfl <;> rfl
section
variable {P:Program}{n:Sz}{ops:Array Oper}{Q:Exit->Act->World->Prop}{L:ZC}{w w0:World}{O:List Bv}{rest:List Oper}{d:Nat}{ty pt it e:TypeId}{pos:String}{af:Array Edge}{x y:Operand}{H:PH}
end
end Go.E
end
noncomputable section
namespace Go.L
inductive Pv where
 | mk (kind number:Int) (bytes:Qm) (names:Sa) (parts:List Pv)
instance:Inhabited Pv:=⟨.mk 0 0 [] [] []⟩
abbrev PvF:Type:=Int×Int×Qm×Sa×List Pv
def Pv.f:Pv->PvF
 | .mk k n b ns ps=>(k,n,b,ns,ps)
end Go.L
namespace Go.E
open Go Go.L
variable {α β:Type}
def Rp.via(r:Rp β)(f:α->β):Rp α:=⟨r.sz,λH x c=>r.rel H (f x) c,λh=>r.len h,λhs h=>r.mono hs h,λh=>r.one h⟩
def Rp.no(α:Type)(n:Nat):Rp α:=⟨n,λ_ _ _=>False,λh=>h.elim,λ_ h=>h,λh=>h.elim⟩
def As.Ahq{r s:Rp α}{H:PH}{v:Value}{l:List α}(hz:r.sz=s.sz)(h:As r H v l)(hrel:∀x∈l,∀c,r.rel H x c->s.rel H x c):As s H v l:=by
 obtain⟨a,cap,b,h2,h3,d,e⟩:=h.ex;refine⟨a,cap,b,h2,h3,d,λA hA hl=>?_⟩;obtain⟨f,g⟩:=e A hA hl;refine⟨f,λi x hx=>?_⟩;obtain⟨c,hc,hcell⟩:=g i x hx;exact⟨c,hrel x (List.mem_of_getElem? hx) c hc,λj u hu=>by rw[<- hz];exact hcell j u hu⟩
def Rp.fields(r:Rp Pv):Rp PvF:=.pair (.int .i64) (.pair (.int .i64) (.pair (.vec .byte) (.pair (.vec .st) (.vec r))))
def Rp.O5:Nat->Rp Pv
 | 0=>.no Pv 5
 | d+1=>(Rp.fields (Rp.O5 d)).via Pv.f
theorem Rp.Sw:∀d,(Rp.O5 d).sz=5
 | 0=>rfl
 | _+1=>rfl
def Rp.ZS{r s:Rp Pv}{H:PH}{x:PvF}{c:LR}(hz:r.sz=s.sz)(hrel:∀y∈x.2.2.2.2,∀c,r.rel H y c->s.rel H y c)(h:(Rp.fields r).rel H x c):(Rp.fields s).rel H x c:=by
 obtain⟨c1,c2,a,b,c3,c4,d,h2,c5,c6,e,h3,c7,c8,f,g,v,i,j⟩:=h;exact⟨c1,c2,a,b,c3,c4,d,h2,c5,c6,e,h3,c7,c8,f,g,v,i,j.Ahq hz hrel⟩
theorem Rp.Yq{H:PH}:∀(d:Nat) (x:Pv) (c:LR),(Rp.O5 d).rel H x c->(Rp.O5 (d+1)).rel H x c
 | 0,_,_,h=>h.elim
 | d+1,x,c,h=>Rp.ZS (r:=Rp.O5 d) (s:=Rp.O5 (d+1)) (by rw[Rp.Sw,Rp.Sw]) (λy _ c h=>Rp.Yq d y c h) h
theorem Rp.Ace{H:PH}{d e:Nat}(h:d<=e){x:Pv}{c:LR}(hx:(Rp.O5 d).rel H x c):(Rp.O5 e).rel H x c:=by
 induction h with
 | refl=>exact hx
 | step _ ih=>exact Rp.Yq _ _ _ ih
def Rp.tree:Rp Pv:=⟨5,λH x c=>∃d,(Rp.O5 d).rel H x c,λh=>by obtain⟨d,h⟩:=h;rw[(Rp.O5 d).len h,Rp.Sw],λhs h=>by obtain⟨d,h⟩:=h;exact⟨d,(Rp.O5 d).mono hs h⟩,λh=>by obtain⟨d,h⟩:=h;exact(Rp.O5 d).one h⟩
theorem Rp.F6{H:PH}{x:Pv}{c:LR}(h:Rp.tree.rel H x c):(Rp.fields Rp.tree).rel H x.f c:=by
 obtain⟨d,h⟩:=h
 cases d with
 | zero=>exact h.elim
 | succ d=>exact Rp.ZS (r:=Rp.O5 d) (s:=Rp.tree) (Rp.Sw d) (λy _ c h=>⟨d,h⟩) h
theorem As.bound{H:PH}{v:Value}{l:List Pv}(h:As Rp.tree H v l):∃d,As (Rp.O5 d) H v l:=by
 obtain⟨a,cap,b,h2,h3,f,g⟩:=h.ex
 cases a with
 | none=>exact⟨0,none,cap,b,h2,h3,f,λA hA=>by cases hA⟩
 | some A=>
  have key:∀n,∃d,∀i x,i<n->l≠[]->l[i]? = TI x->∃c,(Rp.O5 d).rel H x c/\∀j u,c[j]? = TI u->GC H (A.add (i * 5+j))=TI u:=by
   intro n
   induction n with
   | zero=>exact⟨0,λi x hi=>absurd hi (Nat.not_lt_zero i)⟩
   | succ n ih=>
    obtain⟨d,hd⟩:=ih
    by_cases hl:l=[]
    ·exact⟨0,λi x _ hn=>absurd hl hn⟩
    cases hx:l[n]? with
    | none=>
     refine⟨d,λi x hi hn he=>?_⟩
     rcases SH.1 hi with hi | rfl
     ·exact hd i x hi hn he
     ·rw[hx]at he
      cases he
    | some y=>
     obtain⟨c,⟨e,hc⟩,hcell⟩:=(g A Z hl).2 n y hx;refine⟨max d e,λi x hi hn he=>?_⟩
     rcases SH.1 hi with hi | rfl
     ·obtain⟨c',k,m⟩:=hd i x hi hn he;exact⟨c',Rp.Ace (Nat.le_max_left ..) k,m⟩
     ·rw[hx]at he
      cases he
      exact⟨c,Rp.Ace (Nat.le_max_right ..) hc,hcell⟩
  obtain⟨d,hd⟩:=key l.length;refine⟨d,TI A,cap,b,h2,h3,f,λB hB hl=>?_⟩
  cases hB
  refine⟨(g A Z hl).1,λi x hx=>?_⟩;rw[Rp.Sw];exact hd i x (Z9.1 hx).1 hl hx
def Rp.O6{H:PH}{x:Pv}{c:LR}(h:(Rp.fields Rp.tree).rel H x.f c):Rp.tree.rel H x c:=by
 obtain⟨c1,c2,a,b,c3,c4,e,h2,c5,c6,g,h3,c7,c8,i,j,v,k,l⟩:=h;obtain⟨d,hd⟩:=l.bound;exact⟨d+1,c1,c2,a,b,c3,c4,e,h2,c5,c6,g,h3,c7,c8,i,j,v,k,hd⟩
end Go.E
namespace Go.E
open Go Go.RowKit
def KE(h:Qm×Int×Int×Qm):Value:=.agg #[.string ⟨h.1.toArray⟩,.int .i64 h.2.1,.int .i64 h.2.2.1,.string ⟨h.2.2.2.toArray⟩]
def Ahr{P:Program}{kt:TypeId}{fs:Array Field}(hd:P.underlying kt=TI (.struct fs))(hc:∀(b:Bool) (s m:Qm) (x y:Int) w,(Instr.checkKey b 10000 kt (.agg #[.string ⟨s.toArray⟩,.int .i64 x,.int .i64 y,.string ⟨m.toArray⟩])).run P w=.ok () w)
  (he:∀(s s' m m':Qm) (x x' y y':Int) w,(Op.equalIn 10000 kt (.agg #[.string ⟨s.toArray⟩,.int .i64 x,.int .i64 y,.string ⟨m.toArray⟩]) (.agg #[.string ⟨s'.toArray⟩,.int .i64 x',.int .i64 y',.string ⟨m'.toArray⟩])).run P w=.ok (decide (s=s'/\x=x'/\y=y'/\m=m')) w):RA P kt KE:=
 ⟨λb k w=>hc b k.1 k.2.2.2 k.2.1 k.2.2.1 w,
  λk=>by
   obtain⟨d,he⟩:∃d,10000=d+1:=⟨9999,Z⟩;rw[he]
   cases d <;> simp[Instr.sameBits,KE,Wy],
  ⟨_,hd,.inr ⟨λa b=>Z,λa b w=>by
   obtain⟨a1,a2,a3,a4⟩:=a;obtain⟨c,e,f,g⟩:=b;have:=he a1 c a4 g a2 e a3 f w;unfold Op.equal;rw[show Op.maxDepth=10000 from Z];simp only[KE];rw[this]
   congr 1
   rw[Z8];simp⟩⟩⟩
section
variable {P:Program}{L:ZC}{w:World}{t t' ty:TypeId}{x y:Operand}
def UI{v:Nat}(h:v<2 ^ 64):IntKind.u64.wrap (v:Int)=(v:Int):=by
 simp only[IntKind.wrap];simp[IntKind.bits,IntKind.signed] <;> omega
def AlU[Dr]{op:BinOp}{c:Nat}{p q:Int}[hx:V9 (ev L x) (TI (.int .u64 p))][hy:V9 (ev L y) (TI (.int .u64 q))](ho:AmE op p.toNat q.toNat=TI c)(h:(0<=p/\p<2 ^ 64)/\(0<=q/\q<2 ^ 64)):AY P L w (.binOp op t x y t') ty (.int .u64 (c:Int)):=by
 intro w' _ ρ hρ dst pos af g;obtain⟨a,rfl⟩:=Ph h.1.1;obtain⟨b,rfl⟩:=Ph h.2.1;rw[SV,SV]at ho;have ha:a<2 ^ 64:=by omega
 have hb:b<2 ^ 64:=by omega
 have ea:(Q9 64 (a:Int)).toNat=a:=by simp;omega
 have eb:(Q9 64 (b:Int)).toNat=b:=by simp;omega
 cases op <;> simp only[AmE,Option.some.injEq,reduceCtorEq]at ho <;> subst ho
 ·have e:(Op.intBits .and .u64 (a:Int) (b:Int)).run P w'=.ok (.int .u64 ((a &&& b:Nat):Int)) w':=by
   show Result.ok (Value.int .u64 (IntKind.u64.wrap ((Q9 64 (a:Int) &&& Q9 64 (b:Int)).toNat:Int))) w'=_
   rw[BitVec.toNat_and,ea,eb,UI (Nat.and_lt_two_pow _ hb)]
  simp only[execOp,hρ x _ hx.e,hρ y _ hy.e,eqGuard,binOp,Sem.run_bind,ne_eq,not_true_eq_false,if_false,R1,if_true,Sem.run_pure,Result.andThen_ok,e]
 ·have e:(Op.intBits .or .u64 (a:Int) (b:Int)).run P w'=.ok (.int .u64 ((a ||| b:Nat):Int)) w':=by
   show Result.ok (Value.int .u64 (IntKind.u64.wrap ((Q9 64 (a:Int) ||| Q9 64 (b:Int)).toNat:Int))) w'=_
   rw[BitVec.toNat_or,ea,eb,UI (Nat.or_lt_two_pow ha hb)]
  simp only[execOp,hρ x _ hx.e,hρ y _ hy.e,eqGuard,binOp,Sem.run_bind,ne_eq,not_true_eq_false,if_false,R1,if_true,Sem.run_pure,Result.andThen_ok,e]
 ·have e:(Op.intBits .xor .u64 (a:Int) (b:Int)).run P w'=.ok (.int .u64 ((a ^^^ b:Nat):Int)) w':=by
   show Result.ok (Value.int .u64 (IntKind.u64.wrap ((Q9 64 (a:Int) ^^^ Q9 64 (b:Int)).toNat:Int))) w'=_
   rw[BitVec.toNat_xor,ea,eb,UI (Nat.xor_lt_two_pow ha hb)]
  simp only[execOp,hρ x _ hx.e,hρ y _ hy.e,eqGuard,binOp,Sem.run_bind,ne_eq,not_true_eq_false,if_false,R1,if_true,Sem.run_pure,Result.andThen_ok,e]
def AlV[Dr]{p:Int}[hx:V9 (ev L x) (TI (.int .u64 p))](h:0<=p/\p<2 ^ 64):AY P L w (.unOp .xor t x) ty (.int .u64 ((18446744073709551615 ^^^ p.toNat:Nat):Int)):=by
 intro w' _ ρ hρ dst pos af g;obtain⟨a,rfl⟩:=Ph h.1;rw[SV];have ha:a<2 ^ 64:=by omega
 have ea:(Q9 64 (a:Int)).toNat=a:=by simp;omega
 have e:(Op.intBits .xor .u64 18446744073709551615 (a:Int)).run P w'=.ok (.int .u64 ((18446744073709551615 ^^^ a:Nat):Int)) w':=by
  show Result.ok (Value.int .u64 (IntKind.u64.wrap ((Q9 64 18446744073709551615 ^^^ Q9 64 (a:Int)).toNat:Int))) w'=_
  rw[BitVec.toNat_xor,ea,show(Q9 64 18446744073709551615).toNat=18446744073709551615 from Z,UI (Nat.xor_lt_two_pow Y5 ha)]
 have m:IntKind.u64.max=18446744073709551615:=Z;simp[execOp,hρ x _ hx.e,Op.unary,IntKind.signed,m,e]
def AlW[Dr]{a b:Int}[hx:V9 (ev L x) (TI (.int .u64 a))][hy:V9 (ev L y) (TI (.int .u64 b))](c:0<=a/\a<2 ^ 64/\0<b):AY P L w (.binOp .quo t x y t') ty (.int .u64 (a / b)):=by
 intro w' _ ρ hρ dst pos af g;have hb:b≠0:=by omega
 obtain⟨n,rfl⟩:=Ph c.1;obtain⟨m,rfl⟩:=Ph (Int.le_of_lt c.2.2);have hq:n / m<=n:=Nat.div_le_self _ _
 have e:IntKind.u64.wrap ((n:Int) / (m:Int))=(n:Int) / (m:Int):=by
  rw[<- Int.natCast_ediv];exact UI U
 have hm:m≠0:=by omega
 simp[execOp,hρ x _ hx.e,hρ y _ hy.e,eqGuard,binOp,Op.intDiv,hm,AbI c.1,e]
end
section
variable {P:Program}{L:ZC}{w:World}{t ty:TypeId}{x a b:Operand}{l:Qm}{k k':IntKind}{i j:Int}
def QK(l:Qm)(a b:Nat):(⟨l.toArray⟩:ByteArray).extract a b=⟨((l.drop a).take (b - a)).toArray⟩:=by
 apply ByteArray.ext;rw[ByteArray.data_extract];simp[List.extract_eq_take_drop]
theorem Ahs[Dr]{lo hi:Option Operand}(hx:ev L x=TI (.string ⟨l.toArray⟩))(ht:P.underlying t=TI .string)(a b:Nat)(ha:loB L lo a)(hb:hiB L hi b l.length)(d:a<=b)(h2:b<=l.length):
  AY P L w (.slice t x lo hi none) ty (.string ⟨((l.drop a).take (b - a)).toArray⟩):=by
 intro w' _ ρ hρ dst pos af g;have hs:(ByteArray.mk l.toArray).size=l.length:=by simp[Vl]
 have i:(a:Int)<=(b:Int):=by omega
 have j:(b:Int)<=(l.length:Int):=by omega
 have k:(a:Int)<=(l.length:Int):=by omega
 cases lo with
 | none=>
  simp only[loB]at ha;subst ha
  cases hi with
  | none=>
   simp only[hiB]at hb;subst hb;simp[execOp,hρ x _ hx,Instr.sliceAt,run_underlying ht,Instr.slice,Instr.sliceBounds,hs,QK]
  | some c=>
   obtain⟨f,hb⟩:=hb;simp[execOp,hρ x _ hx,hρ c _ hb,Instr.sliceAt,run_underlying ht,Instr.slice,Instr.sliceBounds,Instr.sliceBound,asIntOf,hs,h2,QK]
 | some e=>
  obtain⟨m,ha⟩:=ha
  cases hi with
  | none=>
   simp only[hiB]at hb;subst hb;simp[execOp,hρ x _ hx,hρ e _ ha,Instr.sliceAt,run_underlying ht,Instr.slice,Instr.sliceBounds,Instr.sliceBound,asIntOf,hs,d,QK]
  | some c=>
   obtain⟨f,hb⟩:=hb;simp[execOp,hρ x _ hx,hρ e _ ha,hρ c _ hb,Instr.sliceAt,run_underlying ht,Instr.slice,Instr.sliceBounds,Instr.sliceBound,asIntOf,hs,d,h2,QK]
def Aht[Dr][hx:V9 (ev L x) (TI (.string ⟨l.toArray⟩))][ha:V9 (ev L a) (TI (.int k i))][hb:V9 (ev L b) (TI (.int k' j))][ht:V9 (P.underlying t) (TI .string)](hc:0<=i/\i<=j/\j<=(l.length:Int)):
  AY P L w (.slice t x (TI a) (TI b) none) ty (.string ⟨((l.drop i.toNat).take (j.toNat - i.toNat)).toArray⟩):=
 Ahs hx.e ht.e i.toNat j.toNat ⟨k,by rw[Rt U];exact ha.e⟩ ⟨k',by rw[Rt U];exact hb.e⟩ U U
def Ad5[Dr][hx:V9 (ev L x) (TI (.string ⟨l.toArray⟩))][ha:V9 (ev L a) (TI (.int k i))][ht:V9 (P.underlying t) (TI .string)](hc:0<=i/\i<=(l.length:Int)):
  AY P L w (.slice t x (TI a) none none) ty (.string ⟨(l.drop i.toNat).toArray⟩):=by
 have:=Ahs (P:=P) (w:=w) (ty:=ty) hx.e ht.e i.toNat l.length (lo:=TI a) (hi:=none) ⟨k,by rw[Rt U];exact ha.e⟩ Z U U
 rwa [Sg Rg]at this
def Ahu[Dr][hx:V9 (ev L x) (TI (.string ⟨l.toArray⟩))][hb:V9 (ev L b) (TI (.int k' j))][ht:V9 (P.underlying t) (TI .string)](hc:0<=j/\j<=(l.length:Int)):
  AY P L w (.slice t x none (TI b) none) ty (.string ⟨(l.take j.toNat).toArray⟩):=by
 have:=Ahs (P:=P) (w:=w) (ty:=ty) hx.e ht.e 0 j.toNat (lo:=none) (hi:=TI b) Z ⟨k',by rw[Rt U];exact hb.e⟩ U U
 simpa using this
end
section
variable {P:Program}{n:Sz}{Q:Exit->Act->World->Prop}{L:ZC}{w w0:World}{O:List Bv}{lop:List Oper}{ix:Nat}{tr:Tr}
 {d:Nat}{ty:TypeId}{pos:String}{af:Array Edge}{α:Type}{r:Rp α}{x a b:Operand}{v:Value}{t t' e:TypeId}{H:PH}{l:List α}{k k':IntKind}{i j:Int}{zz:Value}{bt:Nat}{jg sg:Nat}{want bb:Bool}{oj:Oper}
def Ahv[Dr]{lo hi:Option Operand}(ho:G6 lop ix=TI ⟨TI d,.slice t x lo hi none,ty,pos,af,TI (jg,want)⟩)(hj:G6 lop jg=TI oj)(hd:oj.dst=TI sg)(hg:gt L sg=TI (.bool bb))(hw:bb=want)(hx:ev L x=TI v)(ht:P.underlying t=TI (.slice e))(he:Zr P e zz r.sz bt)(hv:As r H v l)(a b:Nat)
  (ha:loB L lo a) (hb:hiB L hi b l.length) (hab:a<=b/\b<=l.length) (hn:Uu d n.n=true)
  (h:∀v',As r H v' ((l.drop a).take (b - a))->D P n lop Q tr ((d,v')::L) w):D P n lop Q (.q ix tr) L w:=by
 obtain⟨v',c,h2⟩:=Aa5 (P:=P) (ty:=ty) hx ht he hv a b ha hb hab.1 hab.2;exact Cr ho (h2 w) hj hd hg hw hn (h v' c)
def KF[Dr](ho:G6 lop ix=TI ⟨TI d,.slice t x (TI a) none none,ty,pos,af,TI (jg,want)⟩)[hj:V9 (G6 lop jg) (TI oj)][hd:V9 oj.dst (TI sg)][hg:V9 (gt L sg) (TI (.bool bb))](hw:bb=want)(hx:ev L x=TI v)[ha:V9 (ev L a) (TI (.int k i))](ht:P.underlying t=TI (.slice e))[he:Qqz P e zz r.sz bt](hv:As r H v l)(hc:0<=i/\i<=(l.length:Int))(hn:Uu d n.n=true)
  (h:∀v',As r H v' (l.drop i.toNat)->D P n lop Q tr ((d,v')::L) w):D P n lop Q (.q ix tr) L w:=
 Ahv ho hj.e hd.e hg.e hw hx ht he.e hv i.toNat l.length ⟨k,by rw[Rt U];exact ha.e⟩ Z U hn λv' h'=>h v' (by rwa [Sg Rg]at h')
def Yr[Dr]{l:Qm}{u:TypeDesc}(ho:G6 lop ix=TI ⟨TI d,.convert t' t x,ty,pos,af,none⟩)(hx:ev L x=TI (.string ⟨l.toArray⟩))(ht:P.underlying t'=TI u)(ht':P.underlying t=TI (.slice e))(he:P.underlying e=TI (.int .u8))(hn:Uu d n.n=true)(hL:AB w0 O w)(hl:l.length<=9223372036854775807)
  (h:∀v w',Ext w w'->AB w0 O w'->Le (fz w O) (fz w' O)->As .byte (gz H w0 w' O) v l->D P n lop Q tr ((d,v)::L) w'):D P n lop Q (.h ix tr) L w:=by
 have hs:(ByteArray.mk l.toArray).size=l.length:=by simp[Vl]
 refine WT (λa u w'=>u=.slice (TI ⟨a.heap.size,0,none⟩) l.length (grownCap a l.length 0 e)/\w'=Lib.bytesWorld a e ⟨l.toArray⟩) ho hn (λa b ρ hρ=>?_) (λa u w' b j hR=>?_)
 ·have:=Lib.run_convert_string_bytes (P:=P) a t' t e ⟨l.toArray⟩ ht ht' he;rw[hs]at this;exact⟨_,_,by simp[execOp,hρ x _ hx,this],(VH a e hl).1,Z,Z⟩
 ·obtain⟨rfl,rfl⟩:=hR;obtain⟨g,h2⟩:=VH a e hl;have c:=hL.call b;exact h _ _ (b.trans g) (c.call g) ((A3 hL b).trans (A3 c g)) (h2.mono (Ye c))
end
section
variable {P:Program}{n:Sz}{ops:Array Oper}{Q:Exit->Act->World->Prop}{L:ZC}{w w0:World}{O:List Bv}{l:List Oper}{i:Nat}{t:Tr}{rest:List Oper}
 {d:Nat}{ty:TypeId}{pos:String}{af:Array Edge}{f:FuncId}{args:List Operand}{vs:LR}{at_:Array TypeId}{fo:Operand}
theorem Qd[Dr]{R:Value->World->Prop}[hf:V9 (ev L fo) (TI (.func (.func f) #[] #[]))][ha:V9 (U8 L args) (TI vs)][hn:V9 (Uu d n.n) true](hL:AB w0 O w)(hok:Ok P f vs w (λv w'=>Ext w w'/\R v w'))
  (h:∀v w',R v w'->Ext w w'->AB w0 O w'->Le (fz w O) (fz w' O)->S P n ops Q rest ((d,v)::L) w'):S P n ops Q (⟨TI d,.call ⟨.value fo,args.toArray,at_⟩,ty,pos,af,none⟩::rest) L w:=
 DR (cap:=[]) (R:=λv w'=>Ext w w'/\R v w') hf.e ha.e (hn:=⟨hn.e⟩) (by rw[R0];exact hok) λv w' hh=>h v w' hh.2 hh.1 (hL.call hh.1) (A3 hL hh.1)
end
end Go.E
namespace Go.E
open Go
theorem Ys(place:Nat->Option (Nat×Nat)):∀(l m:List (Nat×Value)) (cells:Array Value),l.map (λp=>(p.1,p.2.cells))=m.map (λp=>(p.1,p.2.cells))->Instr.fill place cells l=Instr.fill place cells m
 | [],[],_,_=>rfl
 | [],_::_,_,h=>by cases h
 | _::_,[],_,h=>by cases h
 | (i,v)::l,(j,u)::m,cells,h=>by
  simp only[Yu,List.cons.injEq,Prod.mk.injEq]at h;obtain⟨⟨rfl,a⟩,h2⟩:=h;unfold Instr.fill;rw[a]
  split
  ·rfl
  ·split
   ·rfl
   ·exact Ys place l m _ h2
def Acf{P:Program}{t:TypeId}{n:Nat}{ps qs:Array (Nat×Value)}{w:World}(h:ps.toList.map (λp=>(p.1,p.2.cells))=qs.toList.map (λp=>(p.1,p.2.cells))):(Instr.buildSlice t n ps).run P w=(Instr.buildSlice t n qs).run P w:=by
 unfold Instr.buildSlice;simp only[Ys _ _ _ _ h]
def Mq{v:Value}(h:v.oneCell'=true):v.cells=(Value.agg #[v]).cells:=by
 cases v <;> first | rfl | cases h
end Go.E
namespace Go.E
open Go
def Alq {P : Program}{t : TypeId}{f0 f1 f2 f3 : Field}{d f : IntKind} (ht : P.underlying t = some (.struct (P.fieldsOf t))) (hp : P.stoodInHeld t = false) (hf : (P.fieldsOf t).toList = [f0, f1, f2, f3]) (i : f0.name ≠ "_" /\ f0.offset = 0) (j : f1.name ≠ "_" /\ f1.offset = 1) (h2 : f2.name ≠ "_" /\ f2.offset = 2) (h3 : f3.name ≠ "_" /\ f3.offset = 3)
  (k:P.underlying f0.type=TI .string) (l:P.underlying f1.type=TI (.int d)) (n:P.underlying f2.type=TI (.int f)) (o:P.underlying f3.type=TI .string) (s m:Qm) (a b:Int) (g h:Qm) (c e:Int) (w:World) :
  (Op.equalIn 10000 t (.agg #[.string ⟨s.toArray⟩,.int d a,.int f b,.string ⟨m.toArray⟩]) (.agg #[.string ⟨g.toArray⟩,.int d c,.int f e,.string ⟨h.toArray⟩])).run P w=.ok (decide (s=g/\a=c/\b=e/\m=h)) w:=by
 rw[run_equalIn_struct w 9999 t _ _ ht hp,hf]
 have hs:∀(dd:Nat) (s m:Qm),(Op.equalIn (dd+1) f0.type (.string ⟨s.toArray⟩) (.string ⟨m.toArray⟩)).run P w=.ok (decide (s=m)) w:=λdd s m=>by
  simp[Op.equalIn,run_underlying k,Wy]
 have p:∀(dd:Nat) (s m:Qm),(Op.equalIn (dd+1) f3.type (.string ⟨s.toArray⟩) (.string ⟨m.toArray⟩)).run P w=.ok (decide (s=m)) w:=λdd s m=>by
  simp[Op.equalIn,run_underlying o,Wy]
 have key:∀dd:Nat,(Op.eqFields (dd+1) #[.string ⟨s.toArray⟩,.int d a,.int f b,.string ⟨m.toArray⟩] #[.string ⟨g.toArray⟩,.int d c,.int f e,.string ⟨h.toArray⟩] [f0,f1,f2,f3]).run P w=.ok (decide (s=g/\a=c/\b=e/\m=h)) w:=by
  intro dd
  by_cases q:s=g <;> by_cases r:a=c <;> by_cases u:b=e <;> by_cases v:m=h <;>
   simp[Op.eqFields,i.1,j.1,h2.1,h3.1,i.2,j.2,h2.2,h3.2,part,isAgg,run_underlying k,run_underlying l,run_underlying n,run_underlying o,hs,p,run_equalIn_int w dd _ _ _ _ _ l,run_equalIn_int w dd _ _ _ _ _ n,q,r,u,v]
 exact key 9998
end Go.E
namespace Go.E
open Go Go.RowKit
theorem Ao.AnQ{α:Type}{r:Rp α}{H:PH}{l:List α}{cs us:LR}{x:α}(h:Ao r H l cs)(hx:r.rel H x us):∀i,i<l.length->Ao r H (l.set i x) (cs.take (i * r.sz)++us++cs.drop (i * r.sz+us.length)):=by
 induction h with
 | nil=>intro i hi;cases hi
 | @cons y l c cs h t ih=>
  intro i hi;have hc:c.length=r.sz:=r.len h;have hu:us.length=r.sz:=r.len hx
  cases i with
  | zero=>
   rw[Nat.zero_mul,Q8,List.take_zero,Qx,hu,<- hc,List.drop_left];exact .cons hx t
  | succ i=>
   simp only[PF]at hi;have:=ih i U;have a:(i+1) * r.sz=c.length+i * r.sz:=by rw[Nat.add_mul,hc];omega
   have b:c.length+i * r.sz+us.length=c.length+(i * r.sz+us.length):=by omega
   rw[a,b,List.take_append,List.drop_append];have d:(c.length+i * r.sz) - c.length=i * r.sz:=by omega
   have f:(c.length+(i * r.sz+us.length)) - c.length=i * r.sz+us.length:=by omega
   rw[Sg U,List.drop_eq_nil_of_le U,d,f,Qx,YW,YW,<- YW (cs.take _)];exact .cons h this
section
variable {P:Program}{n:Sz}{ops:Array Oper}{Q:Exit->Act->World->Prop}{L:ZC}{w w0:World}{O:List Bv}{rest:List Oper}
 {ty:TypeId}{pos:String}{af:Array Edge}{α:Type}{r:Rp α}{x y:Operand}{u v:Value}{t e:TypeId}{H:PH}
def AfD[Dr](i:Nat){sz bt m k:Nat}{zz:Value}{xs us:LR}{p:Addr}{e':TypeId}(hx:ev L x=TI (.pointer (TI p)))(hy:ev L y=TI u)(hc:u.cells.toList=us)(a:∀v∈us,v.oneCell'=true)(hz:Zr P t zz us.length bt)(hL:AB w0 O w)(hi:Ba O i=TI (.row v e' sz m xs))(hp':P9 v k p)(hlt:k+us.length<=xs.length)(f:k<xs.length)
  (h:∀w',AB w0 (Ci O i (.row v e' sz m (xs.take k++us++xs.drop (k+us.length)))) w'->Le (fz w O) (fz w' (Ci O i (.row v e' sz m (xs.take k++us++xs.drop (k+us.length)))))->S P n ops Q rest L w'):S P n ops Q (⟨none,.store t x y,ty,pos,af,none⟩::rest) L w:=by
 subst hc;obtain⟨inf,c,j,d,l⟩:=hz.parts;have hown:w.ownsRow 0 e' sz v m xs:=hL.at hi;obtain⟨hq,h2,h3⟩:=hp';obtain⟨b,o,s⟩:=p;simp only at hq h2 h3;subst h2;subst h3
 rcases hown.2 with ⟨rfl,rfl⟩ | ⟨g,cp,cur,rfl,hbg,hg,hnc,hcm,hcs,htake⟩
 ·simp[Value.ownBlock]at hq
 ·simp only[Value.ownBlock,Option.some.injEq]at hq;subst hq;have hxl:xs.length=m * sz:=hown.1;have hcl:m * sz<=cur.size:=by rw[hcs];exact Wp _ hnc
  have hst:=run_storeCells_at P g o e' u.cells.toList 0 cur w hg U a;simp only[Pf]at hst;have hsz:u.cells.size=inf.size:=by rw[d];simp
  obtain⟨C,hC⟩:∃C,C=(cur.toList.take o++u.cells.toList++cur.toList.drop (o+u.cells.toList.length)).toArray:=⟨_,Z⟩;rw[<- hC]at hst
  refine Oy (w.setRow g C) (fun ρ hρ=>by
   simp[execOp,hρ x _ hx,hρ y _ hy,Instr.storeAt,Instr.sureAddr,storeVar,sizeOf,typeInfo,c,hsz,hst]) ?_
  subst hC;have hgr:=KW w g (cur.toList.take o++u.cells.toList++cur.toList.drop (o+u.cells.toList.length)).toArray
  have hok:Bv.ok (w.setRow g (cur.toList.take o++u.cells.toList++cur.toList.drop (o+u.cells.toList.length)).toArray) (.row (.slice (TI ⟨g,0,none⟩) m cp) e' sz m (xs.take o++u.cells.toList++xs.drop (o+u.cells.toList.length))):=by
   refine⟨?_,.inr ⟨g,cp,_,Z,hbg,Ju w g cur _ e' hg,hnc,hcm,?_,?_⟩⟩
   ·simp only[T6,Y4,U1];omega
   ·simp only[List.size_toArray,T6,Y4,U1,Array.length_toList];omega
   ·have hcur:cur.toList.length=cur.size:=Array.length_toList;rw[TF,<- htake,List.take_append,Sg U,List.take_take,List.drop_take]
    congr 1
    ·rw[VW U]
    ·congr 1;simp;omega
  exact h _ (hL.KV hi (KN _) hgr hok (λb' e=>.inl e)) (ES (r':=.row (.slice (TI ⟨g,0,none⟩) m cp) e' sz m _) hL hi hgr (λb' e=>.inl e))
def Gh[Dr](i:Nat){bt k:Nat}(j:Nat){zz:Value}{l:List α}{xs us:LR}{p:Addr}(z:α)[hx:V9 (ev L x) (TI (.pointer (TI p)))][hy:V9 (ev L y) (TI u)][hc:V9 u.cells.toList us][hz:Qqz P t zz us.length bt][hne:V9 (Uu 0 us.length) true](hH:Le H (hp w0))(hL:AB w0 O w)(hi:Ba O i=TI (.row v e r.sz l.length xs))(he:Ao r (gz H w0 w O) l xs)
  (hp':P9 v k p) [hk:V9 k (j * r.sz)] (hj:j<l.length) (hz':r.rel (gz H w0 w O) z us)
  (h:∀w' xs',AB w0 (Ci O i (.row v e r.sz (l.set j z).length xs')) w'->Le (fz w O) (fz w' (Ci O i (.row v e r.sz (l.set j z).length xs')))->Ao r (gz H w0 w' (Ci O i (.row v e r.sz (l.set j z).length xs'))) (l.set j z) xs'->S P n ops Q rest L w')(a:∀v∈us,v.oneCell'=true:=by exact A6 Z):
  S P n ops Q (⟨none,.store t x y,ty,pos,af,none⟩::rest) L w:=by
 have hk:=hk.e
 subst hk;have hlen:=he.len;have hus:us.length=r.sz:=r.len hz';have hpos:0<us.length:=Z4 (by rw[<- Nat.blt_eq]at *;simpa using hne.e);have hle:j * r.sz+r.sz<=l.length * r.sz:=by rw[<- Nat.succ_mul];exact Wp _ hj
 refine AfD i hx.e hy.e hc.e a hz.e hL hi hp' U U λw' a h2=>?_;have b:l.length=(l.set j z).length:=by simp
 rw[b]at a h2;exact h w' _ a h2 ((he.AnQ hz' j hj).mono (Aa h2))
end
end Go.E
end
noncomputable section
namespace Go.Proofs.YtgaljodghpgdmaaGreatDoor
open Go Go.E Go.RowKit
def mixed:Tryz.prog.follows .mixedOrders=true:=by kernel_rfl
theorem V9m{α:Sort _}{a b:α}(h:a=b):V9 a b:=⟨h⟩
abbrev uQ3:=V9m Tryz.underlying3
abbrev uQ4:=V9m Tryz.underlying4
abbrev uQ5:=V9m Tryz.underlying5
abbrev uQ9:=V9m Tryz.underlying9
abbrev uQ20:=V9m Tryz.underlying20
abbrev uQ21:=V9m Tryz.underlying21
abbrev uQ22:=V9m Tryz.underlying22
abbrev uQ23:=V9m Tryz.underlying23
abbrev uQ24:=V9m Tryz.underlying24
abbrev uQ25:=V9m Tryz.underlying25
abbrev uQ27:=V9m Tryz.underlying27
abbrev uQ28:=V9m Tryz.underlying28
abbrev uQ29:=V9m Tryz.underlying29
abbrev uQ31:=V9m Tryz.underlying31
abbrev uQ32:=V9m Tryz.underlying32
abbrev uQ34:=V9m Tryz.underlying34
abbrev uQ35:=V9m Tryz.underlying35
abbrev uQ37:=V9m Tryz.underlying37
abbrev uQ39:=V9m Tryz.underlying39
abbrev uQ47:=V9m Tryz.underlying47
abbrev uQ52:=V9m Tryz.underlying52
abbrev uQ54:=V9m Tryz.underlying54
abbrev uQ56:=V9m Tryz.underlying56
abbrev uQ59:=V9m Tryz.underlying59
abbrev uQ61:=V9m Tryz.underlying61
abbrev uQ63:=V9m Tryz.underlying63
abbrev uQ88:=V9m Tryz.underlying88
abbrev uQ100:=V9m Tryz.underlying100
abbrev uQ101:=V9m Tryz.underlying101
abbrev uQ105:=V9m Tryz.underlying105
abbrev uQ107:=V9m Tryz.underlying107
abbrev uQ109:=V9m Tryz.underlying109
abbrev uQ112:=V9m Tryz.underlying112
abbrev uQ116:=V9m Tryz.underlying116
abbrev uQ118:=V9m Tryz.underlying118
abbrev uQ120:=V9m Tryz.underlying120
abbrev uQ126:=V9m Tryz.underlying126
abbrev uQ132:=V9m Tryz.underlying132
abbrev uQ146:=V9m Tryz.underlying146
abbrev uQ158:=V9m Tryz.underlying158
abbrev uQ164:=V9m Tryz.underlying164
abbrev uQ171:=V9m Tryz.underlying171
abbrev uQ177:=V9m Tryz.underlying177
abbrev uQ188:=V9m Tryz.underlying188
abbrev uQ205:=V9m Tryz.underlying205
abbrev uQ210:=V9m Tryz.underlying210
abbrev uQ318:=V9m Tryz.underlying318
abbrev uQ320:=V9m Tryz.underlying320
abbrev uQ321:=V9m Tryz.underlying321
abbrev uQ329:=V9m Tryz.underlying329
abbrev uQ354:=V9m Tryz.underlying354
abbrev uQ356:=V9m Tryz.underlying356
attribute [instance] uQ3 uQ4 uQ5 uQ9 uQ20 uQ21 uQ22 uQ23 uQ24 uQ25 uQ27 uQ28 uQ29 uQ31 uQ32 uQ34 uQ35 uQ37 uQ39 uQ47 uQ52 uQ54 uQ56 uQ59 uQ61 uQ63 uQ88 uQ100 uQ101 uQ105 uQ107 uQ109 uQ112 uQ116 uQ118 uQ120 uQ126 uQ132 uQ146 uQ158 uQ164 uQ171 uQ177 uQ188 uQ205 uQ210 uQ318 uQ320 uQ321 uQ329 uQ354 uQ356
instance DW:Qqz Tryz.prog 3 (.int .i64 0) 1 8:=⟨by unfold Zr;kernel_rfl⟩
instance zr4:Qqz Tryz.prog 4 (.bool false) 1 1:=⟨by unfold Zr;kernel_rfl⟩
instance Qze:Qqz Tryz.prog 5 (.int .u8 0) 1 1:=⟨by unfold Zr;kernel_rfl⟩
instance E7:Qqz Tryz.prog 9 (.string .empty) 1 16:=⟨by unfold Zr;kernel_rfl⟩
instance Up:Qqz Tryz.prog 23 (.slice none 0 0) 1 24:=⟨by unfold Zr;kernel_rfl⟩
instance Nu:Qqz Tryz.prog 24 (.slice none 0 0) 1 24:=⟨by unfold Zr;kernel_rfl⟩
instance VM:Qqz Tryz.prog 25 (.slice none 0 0) 1 24:=⟨by unfold Zr;kernel_rfl⟩
instance Bs:Qqz Tryz.prog 27 (.agg #[.int .i64 0,.slice none 0 0,.string .empty,.slice none 0 0,.int .i64 0,.int .i64 0,.slice none 0 0]) 7 112:=⟨by unfold Zr;kernel_rfl⟩
instance AmL:Qqz Tryz.prog 29 (.slice none 0 0) 1 24:=⟨by unfold Zr;kernel_rfl⟩
instance O7:Qqz Tryz.prog 31 (.agg #[.int .i64 0,.slice none 0 0]) 2 32:=⟨by unfold Zr;kernel_rfl⟩
instance Ahw:Qqz Tryz.prog 32 (.slice none 0 0) 1 24:=⟨by unfold Zr;kernel_rfl⟩
instance QL:Qqz Tryz.prog 34 (.agg #[.int .i64 0,.slice none 0 0]) 2 32:=⟨by unfold Zr;kernel_rfl⟩
instance AjK:Qqz Tryz.prog 35 (.slice none 0 0) 1 24:=⟨by unfold Zr;kernel_rfl⟩
instance QM:Qqz Tryz.prog 37 (.agg #[.int .i64 0,.slice none 0 0,.int .i64 0,.slice none 0 0,.slice none 0 0]) 5 88:=⟨by unfold Zr;kernel_rfl⟩
instance Av:Qqz Tryz.prog 39 (.agg #[.int .i64 0,.int .i64 0]) 2 16:=⟨by unfold Zr;kernel_rfl⟩
instance AjL:Qqz Tryz.prog 47 (.slice none 0 0) 1 24:=⟨by unfold Zr;kernel_rfl⟩
instance AnR:Qqz Tryz.prog 52 (.slice none 0 0) 1 24:=⟨by unfold Zr;kernel_rfl⟩
instance Is:Qqz Tryz.prog 54 (.agg #[.int .i64 0,.int .i64 0,.slice none 0 0,.slice none 0 0,.slice none 0 0]) 5 88:=⟨by unfold Zr;kernel_rfl⟩
instance WZ:Qqz Tryz.prog 56 (.agg #[.slice none 0 0,.int .i64 0,.int .i64 0,.slice none 0 0,.slice none 0 0,.slice none 0 0]) 6 112:=⟨by unfold Zr;kernel_rfl⟩
instance Ahx:Qqz Tryz.prog 61 (.agg #[.slice none 0 0]) 1 24:=⟨by unfold Zr;kernel_rfl⟩
instance HY:Qqz Tryz.prog 63 (.agg #[.slice none 0 0,.slice none 0 0,.slice none 0 0]) 3 72:=⟨by unfold Zr;kernel_rfl⟩
instance AnS:Qqz Tryz.prog 88 (.slice none 0 0) 1 24:=⟨by unfold Zr;kernel_rfl⟩
instance AmM:Qqz Tryz.prog 101 (.slice none 0 0) 1 24:=⟨by unfold Zr;kernel_rfl⟩
instance O8:Qqz Tryz.prog 105 (.agg #[.string .empty,.int .i64 0,.int .i64 0]) 3 32:=⟨by unfold Zr;kernel_rfl⟩
instance F1:Qqz Tryz.prog 107 (.agg #[.int .i64 0,.int .i64 0]) 2 16:=⟨by unfold Zr;kernel_rfl⟩
instance Alr:Qqz Tryz.prog 109 (.map none) 1 8:=⟨by unfold Zr;kernel_rfl⟩
instance O9:Qqz Tryz.prog 112 (.agg #[.string .empty,.int .i64 0,.int .i64 0,.string .empty]) 4 48:=⟨by unfold Zr;kernel_rfl⟩
instance AeG:Qqz Tryz.prog 116 (.agg #[]) 0 0:=⟨by unfold Zr;kernel_rfl⟩
instance BN:Qqz Tryz.prog 132 (.agg #[.string .empty,.int .i64 0,.int .i64 0,.string .empty]) 4 48:=⟨by unfold Zr;kernel_rfl⟩
instance Aad:Qqz Tryz.prog 158 (.agg #[.string .empty,.slice none 0 0]) 2 40:=⟨by unfold Zr;kernel_rfl⟩
instance LU:Qqz Tryz.prog 171 (.agg #[.string .empty,.int .i64 0,.int .i64 0,.string .empty,.slice none 0 0]) 5 72:=⟨by unfold Zr;kernel_rfl⟩
instance AeH:Qqz Tryz.prog 188 (.agg #[.int .i64 0,.int .i64 0,.int .i64 0,.int .i64 0,.int .i64 0,.int .i64 0,.int .i64 0,.int .i64 0,.int .i64 0,.int .i64 0,.int .i64 0]) 11 88:=⟨by unfold Zr;kernel_rfl⟩
def AaL(w:World):(Instr.build 27 #[]).run Tryz.prog w=.ok (.agg #[.int .i64 0,.slice none 0 0,.string .empty,.slice none 0 0,.int .i64 0,.int .i64 0,.slice none 0 0]) w:=by kernel_rfl
def AjM(a:Int)(w:World):(Instr.build 27 #[(0,.int .i64 a)]).run Tryz.prog w=.ok (.agg #[.int .i64 a,.slice none 0 0,.string .empty,.slice none 0 0,.int .i64 0,.int .i64 0,.slice none 0 0]) w:=by kernel_rfl
def Ae4(b:Int)(a:Value)(c:a.oneCell'=true)(w:World):(Instr.build 27 #[(0,.int .i64 b),(1,a)]).run Tryz.prog w=.ok (.agg #[.int .i64 b,a,.string .empty,.slice none 0 0,.int .i64 0,.int .i64 0,.slice none 0 0]) w:=by cases a <;> first | (simp[Value.oneCell']at c;done) | kernel_rfl
def Ach(c:Int)(a:Value)(d:a.oneCell'=true)(b:Value)(e:b.oneCell'=true)(w:World):(Instr.build 27 #[(0,.int .i64 c),(1,a),(6,b)]).run Tryz.prog w=.ok (.agg #[.int .i64 c,a,.string .empty,.slice none 0 0,.int .i64 0,.int .i64 0,b]) w:=by cases a <;> first | (simp[Value.oneCell']at d;done) | cases b <;> first | (simp[Value.oneCell']at e;done) | kernel_rfl
def Qe(b:Int)(a:Value)(c:a.oneCell'=true)(w:World):(Instr.build 27 #[(0,.int .i64 b),(6,a)]).run Tryz.prog w=.ok (.agg #[.int .i64 b,.slice none 0 0,.string .empty,.slice none 0 0,.int .i64 0,.int .i64 0,a]) w:=by cases a <;> first | (simp[Value.oneCell']at c;done) | kernel_rfl
def AaM(w:World):(Instr.build 31 #[]).run Tryz.prog w=.ok (.agg #[.int .i64 0,.slice none 0 0]) w:=by kernel_rfl
def AjN(a:Int)(w:World):(Instr.build 31 #[(0,.int .i64 a)]).run Tryz.prog w=.ok (.agg #[.int .i64 a,.slice none 0 0]) w:=by kernel_rfl
def AaN(w:World):(Instr.build 34 #[]).run Tryz.prog w=.ok (.agg #[.int .i64 0,.slice none 0 0]) w:=by kernel_rfl
def AjO(a:Int)(w:World):(Instr.build 34 #[(0,.int .i64 a)]).run Tryz.prog w=.ok (.agg #[.int .i64 a,.slice none 0 0]) w:=by kernel_rfl
def X4(w:World):(Instr.build 37 #[]).run Tryz.prog w=.ok (.agg #[.int .i64 0,.slice none 0 0,.int .i64 0,.slice none 0 0,.slice none 0 0]) w:=by kernel_rfl
def Bo(w:World):(Instr.build 39 #[]).run Tryz.prog w=.ok (.agg #[.int .i64 0,.int .i64 0]) w:=by kernel_rfl
def Mr(a:Int)(b:Int)(w:World):(Instr.build 39 #[(0,.int .i64 a),(1,.int .i64 b)]).run Tryz.prog w=.ok (.agg #[.int .i64 a,.int .i64 b]) w:=by kernel_rfl
def AfE(a:Int)(b:Int)(w:World):(Instr.build 54 #[(0,.int .i64 a),(1,.int .i64 b)]).run Tryz.prog w=.ok (.agg #[.int .i64 a,.int .i64 b,.slice none 0 0,.slice none 0 0,.slice none 0 0]) w:=by kernel_rfl
def ZU(f:Value)(g:f.oneCell'=true)(a b c d e:Value)(w:World):(Instr.build 56 #[(0,f),(1,.agg #[a,b,c,d,e])]).run Tryz.prog w=.ok (.agg #[f,a,b,c,d,e]) w:=by cases f <;> first | (simp[Value.oneCell']at g;done) | kernel_rfl
def AjP(a:Value)(b:a.oneCell'=true)(w:World):(Instr.build 61 #[(0,a)]).run Tryz.prog w=.ok (.agg #[a]) w:=by cases a <;> first | (simp[Value.oneCell']at b;done) | kernel_rfl
def AeI(w:World):(Instr.build 63 #[]).run Tryz.prog w=.ok (.agg #[.slice none 0 0,.slice none 0 0,.slice none 0 0]) w:=by kernel_rfl
def KG(a:Value)(b:Value)(d:b.oneCell'=true)(c:Value)(h2:c.oneCell'=true)(w:World):(Instr.build 63 #[(0,.agg #[a]),(1,b),(2,c)]).run Tryz.prog w=.ok (.agg #[a,b,c]) w:=by cases b <;> first | (simp[Value.oneCell']at d;done) | cases c <;> first | (simp[Value.oneCell']at h2;done) | kernel_rfl
def AaO(a:Value)(d:a.oneCell'=true)(b:Int)(c:Int)(w:World):(Instr.build 105 #[(0,a),(1,.int .i64 b),(2,.int .i64 c)]).run Tryz.prog w=.ok (.agg #[a,.int .i64 b,.int .i64 c]) w:=by cases a <;> first | (simp[Value.oneCell']at d;done) | kernel_rfl
def Ahy(a:Int)(w:World):(Instr.build 105 #[(1,.int .i64 a)]).run Tryz.prog w=.ok (.agg #[.string .empty,.int .i64 a,.int .i64 0]) w:=by kernel_rfl
def Uq(a:Int)(b:Int)(w:World):(Instr.build 107 #[(0,.int .i64 a),(1,.int .i64 b)]).run Tryz.prog w=.ok (.agg #[.int .i64 a,.int .i64 b]) w:=by kernel_rfl
def Ahz(a:Int)(w:World):(Instr.build 107 #[(1,.int .i64 a)]).run Tryz.prog w=.ok (.agg #[.int .i64 0,.int .i64 a]) w:=by kernel_rfl
def QzJ(a:Value)(e:a.oneCell'=true)(c:Int)(d:Int)(b:Value)(h3:b.oneCell'=true)(w:World):(Instr.build 112 #[(0,a),(1,.int .i64 c),(2,.int .i64 d),(3,b)]).run Tryz.prog w=.ok (.agg #[a,.int .i64 c,.int .i64 d,b]) w:=by cases a <;> first | (simp[Value.oneCell']at e;done) | cases b <;> first | (simp[Value.oneCell']at h3;done) | kernel_rfl
def Ah0(w:World):(Instr.build 116 #[]).run Tryz.prog w=.ok (.agg #[]) w:=by kernel_rfl
def Ah1(a:Value)(b:a.oneCell'=true)(w:World):(Instr.build 120 #[(0,a)]).run Tryz.prog w=.ok (.agg #[a,.int .i64 0]) w:=by cases a <;> first | (simp[Value.oneCell']at b;done) | kernel_rfl
def QzB(a:Value)(e:a.oneCell'=true)(c:Int)(d:Int)(b:Value)(h3:b.oneCell'=true)(w:World):(Instr.build 132 #[(0,a),(1,.int .i64 c),(2,.int .i64 d),(3,b)]).run Tryz.prog w=.ok (.agg #[a,.int .i64 c,.int .i64 d,b]) w:=by cases a <;> first | (simp[Value.oneCell']at e;done) | cases b <;> first | (simp[Value.oneCell']at h3;done) | kernel_rfl
def Ad6(a:Value)(c:a.oneCell'=true)(b:Value)(d:b.oneCell'=true)(w:World):(Instr.build 158 #[(0,a),(1,b)]).run Tryz.prog w=.ok (.agg #[a,b]) w:=by cases a <;> first | (simp[Value.oneCell']at c;done) | cases b <;> first | (simp[Value.oneCell']at d;done) | kernel_rfl
def Ad7(a b c d:Value)(e:Value)(f:e.oneCell'=true)(w:World):(Instr.build 171 #[(0,.agg #[a,b,c,d]),(1,e)]).run Tryz.prog w=.ok (.agg #[a,b,c,d,e]) w:=by cases e <;> first | (simp[Value.oneCell']at f;done) | kernel_rfl
def Hl(b c d e f g h i j k a:Int)(w:World):(Instr.build 188 #[(0,.int .i64 b),(1,.int .i64 c),(2,.int .i64 d),(3,.int .i64 e),(4,.int .i64 f),(5,.int .i64 g),(6,.int .i64 h),(7,.int .i64 i),(8,.int .i64 j),(9,.int .i64 k),(10,.int .i64 a)]).run Tryz.prog w=.ok (.agg #[.int .i64 b,.int .i64 c,.int .i64 d,.int .i64 e,.int .i64 f,.int .i64 g,.int .i64 h,.int .i64 i,.int .i64 j,.int .i64 k,.int .i64 a]) w:=by kernel_rfl
def AjQ(a b c d e f:Value)(g h i j k l:Value)(w:World):(Instr.buildSlice 22 2 #[(0,.agg #[a,b,c,d,e,f]),(1,.agg #[g,h,i,j,k,l])]).run Tryz.prog w=.ok (.slice (TI ⟨w.heap.size,0,none⟩) 2 2) (w.alloc (.cells #[a,b,c,d,e,f,g,h,i,j,k,l] 56)):=by kernel_rfl
def AjR(w:World):(Instr.buildSlice 23 0 #[]).run Tryz.prog w=.ok (.slice (TI ⟨w.heap.size,0,none⟩) 0 0) (w.alloc (.cells #[] 9)):=by kernel_rfl
def Kr(a:Value)(b:a.oneCell'=true)(w:World):(Instr.buildSlice 23 1 #[(0,a)]).run Tryz.prog w=.ok (.slice (TI ⟨w.heap.size,0,none⟩) 1 1) (w.alloc (.cells #[a] 9)):=by cases a <;> first | (simp[Value.oneCell']at b;done) | kernel_rfl
def AjS(w:World):(Instr.buildSlice 24 0 #[]).run Tryz.prog w=.ok (.slice (TI ⟨w.heap.size,0,none⟩) 0 0) (w.alloc (.cells #[] 5)):=by kernel_rfl
def Ht(a:Int)(w:World):(Instr.buildSlice 24 1 #[(0,.int .u8 a)]).run Tryz.prog w=.ok (.slice (TI ⟨w.heap.size,0,none⟩) 1 1) (w.alloc (.cells #[.int .u8 a] 5)):=by kernel_rfl
def AeJ(a:Int)(b:Int)(w:World):(Instr.buildSlice 24 2 #[(0,.int .u8 a),(1,.int .u8 b)]).run Tryz.prog w=.ok (.slice (TI ⟨w.heap.size,0,none⟩) 2 2) (w.alloc (.cells #[.int .u8 a,.int .u8 b] 5)):=by kernel_rfl
def AaP(a:Int)(b:Int)(c:Int)(w:World):(Instr.buildSlice 24 3 #[(0,.int .u8 a),(1,.int .u8 b),(2,.int .u8 c)]).run Tryz.prog w=.ok (.slice (TI ⟨w.heap.size,0,none⟩) 3 3) (w.alloc (.cells #[.int .u8 a,.int .u8 b,.int .u8 c] 5)):=by kernel_rfl
def Pk(a b c d e f g:Value)(w:World):(Instr.buildSlice 25 1 #[(0,.agg #[a,b,c,d,e,f,g])]).run Tryz.prog w=.ok (.slice (TI ⟨w.heap.size,0,none⟩) 1 1) (w.alloc (.cells #[a,b,c,d,e,f,g] 27)):=by kernel_rfl
def X5(a:Bool)(b:Bool)(w:World):(Instr.buildSlice 28 2 #[(0,.bool a),(1,.bool b)]).run Tryz.prog w=.ok (.slice (TI ⟨w.heap.size,0,none⟩) 2 2) (w.alloc (.cells #[.bool a,.bool b] 4)):=by kernel_rfl
def AjT(a b:Value)(w:World):(Instr.buildSlice 29 1 #[(0,.agg #[a,b])]).run Tryz.prog w=.ok (.slice (TI ⟨w.heap.size,0,none⟩) 1 1) (w.alloc (.cells #[a,b] 158)):=by kernel_rfl
def AjU(a b c d e:Value)(w:World):(Instr.buildSlice 32 1 #[(0,.agg #[a,b,c,d,e])]).run Tryz.prog w=.ok (.slice (TI ⟨w.heap.size,0,none⟩) 1 1) (w.alloc (.cells #[a,b,c,d,e] 171)):=by kernel_rfl
def AjV(a b c:Value)(w:World):(Instr.buildSlice 35 1 #[(0,.agg #[a,b,c])]).run Tryz.prog w=.ok (.slice (TI ⟨w.heap.size,0,none⟩) 1 1) (w.alloc (.cells #[a,b,c] 63)):=by kernel_rfl
def AjW(w:World):(Instr.buildSlice 47 0 #[]).run Tryz.prog w=.ok (.slice (TI ⟨w.heap.size,0,none⟩) 0 0) (w.alloc (.cells #[] 3)):=by kernel_rfl
def Fy(a:Int)(w:World):(Instr.buildSlice 47 1 #[(0,.int .i64 a)]).run Tryz.prog w=.ok (.slice (TI ⟨w.heap.size,0,none⟩) 1 1) (w.alloc (.cells #[.int .i64 a] 3)):=by kernel_rfl
def AeK(a:Int)(b:Int)(w:World):(Instr.buildSlice 47 2 #[(0,.int .i64 a),(1,.int .i64 b)]).run Tryz.prog w=.ok (.slice (TI ⟨w.heap.size,0,none⟩) 2 2) (w.alloc (.cells #[.int .i64 a,.int .i64 b] 3)):=by kernel_rfl
def AeL(a:Int)(b:Int)(c:Int)(d:Int)(w:World):(Instr.buildSlice 47 4 #[(0,.int .i64 a),(1,.int .i64 b),(2,.int .i64 c),(3,.int .i64 d)]).run Tryz.prog w=.ok (.slice (TI ⟨w.heap.size,0,none⟩) 4 4) (w.alloc (.cells #[.int .i64 a,.int .i64 b,.int .i64 c,.int .i64 d] 3)):=by kernel_rfl
def AeM(a b c d e:Value)(w:World):(Instr.buildSlice 52 1 #[(0,.agg #[a,b,c,d,e])]).run Tryz.prog w=.ok (.slice (TI ⟨w.heap.size,0,none⟩) 1 1) (w.alloc (.cells #[a,b,c,d,e] 54)):=by kernel_rfl
def AaQ(a:Value)(b:a.oneCell'=true)(w:World):(Instr.buildSlice 59 1 #[(0,a)]).run Tryz.prog w=.ok (.slice (TI ⟨w.heap.size,0,none⟩) 1 1) (w.alloc (.cells #[a] 24)):=by cases a <;> first | (simp[Value.oneCell']at b;done) | kernel_rfl
def UJ(a:Value)(f:a.oneCell'=true)(b:Value)(g:b.oneCell'=true)(c:Value)(h2:c.oneCell'=true)(d:Value)(h3:d.oneCell'=true)(e:Value)(h:e.oneCell'=true)(w:World):(Instr.buildSlice 59 5 #[(0,a),(1,b),(2,c),(3,d),(4,e)]).run Tryz.prog w=.ok (.slice (TI ⟨w.heap.size,0,none⟩) 5 5) (w.alloc (.cells #[a,b,c,d,e] 24)):=
 (Acf (qs:=#[(0,.agg #[a]),(1,.agg #[b]),(2,.agg #[c]),(3,.agg #[d]),(4,.agg #[e])]) (by show([(0,a.cells),(1,b.cells),(2,c.cells),(3,d.cells),(4,e.cells)]:List (Nat×Array Value))=[(0,(Value.agg #[a]).cells),(1,(Value.agg #[b]).cells),(2,(Value.agg #[c]).cells),(3,(Value.agg #[d]).cells),(4,(Value.agg #[e]).cells)];rw[Mq f,Mq g,Mq h2,Mq h3,Mq h])).trans SF
def AjX(w:World):(Instr.buildSlice 88 0 #[]).run Tryz.prog w=.ok (.slice (TI ⟨w.heap.size,0,none⟩) 0 0) (w.alloc (.cells #[] 107)):=by kernel_rfl
def AaR(a b:Value)(w:World):(Instr.buildSlice 88 1 #[(0,.agg #[a,b])]).run Tryz.prog w=.ok (.slice (TI ⟨w.heap.size,0,none⟩) 1 1) (w.alloc (.cells #[a,b] 107)):=by kernel_rfl
def Aci(a b c:Value)(w:World):(Instr.buildSlice 101 1 #[(0,.agg #[a,b,c])]).run Tryz.prog w=.ok (.slice (TI ⟨w.heap.size,0,none⟩) 1 1) (w.alloc (.cells #[a,b,c] 105)):=by kernel_rfl
def Acj(a b c d:Value)(w:World):(Instr.buildSlice 126 1 #[(0,.agg #[a,b,c,d])]).run Tryz.prog w=.ok (.slice (TI ⟨w.heap.size,0,none⟩) 1 1) (w.alloc (.cells #[a,b,c,d] 132)):=by kernel_rfl
def Ah2(a:Value)(c:a.oneCell'=true)(b:Value)(d:b.oneCell'=true)(w:World):(Instr.buildSlice 146 2 #[(0,a),(1,b)]).run Tryz.prog w=.ok (.slice (TI ⟨w.heap.size,0,none⟩) 2 2) (w.alloc (.cells #[a,b] 47)):=
 (Acf (qs:=#[(0,.agg #[a]),(1,.agg #[b])]) (by show([(0,a.cells),(1,b.cells)]:List (Nat×Array Value))=[(0,(Value.agg #[a]).cells),(1,(Value.agg #[b]).cells)];rw[Mq c,Mq d])).trans SF
def Ah3(a b c d:Value)(w:World):(Instr.buildSlice 164 1 #[(0,.agg #[a,b,c,d])]).run Tryz.prog w=.ok (.slice (TI ⟨w.heap.size,0,none⟩) 1 1) (w.alloc (.cells #[a,b,c,d] 112)):=by kernel_rfl
def Ge:Tryz.prog.eqGuardType Tryz.prog.depth 39=false:=by kernel_rfl
def KO(a b c e:Int)(w:World):(Op.equalIn 10000 39 (.agg #[.int .i64 a,.int .i64 b]) (.agg #[.int .i64 c,.int .i64 e])).run Tryz.prog w=.ok (decide (a=c/\b=e)) w:=
 AgS (by kernel_rfl) (by kernel_rfl) (by kernel_rfl : (Tryz.prog.fieldsOf 39).toList = [{ name := "Code", type := 3, offset := 0, embedded := false, tag := "", pkgPath := "", byteOffset := 0 }, { name := "Index", type := 3, offset := 1, embedded := false, tag := "", pkgPath := "", byteOffset := 8 }]) ⟨by decide, rfl⟩ ⟨by decide, rfl⟩ Tryz.underlying3 Tryz.underlying3 a b c e w
def AlX:Tryz.prog.eqGuardType Tryz.prog.depth 107=false:=by kernel_rfl
def AmN(a b c e:Int)(w:World):(Op.equalIn 10000 107 (.agg #[.int .i64 a,.int .i64 b]) (.agg #[.int .i64 c,.int .i64 e])).run Tryz.prog w=.ok (decide (a=c/\b=e)) w:=
 AgS (by kernel_rfl) (by kernel_rfl) (by kernel_rfl : (Tryz.prog.fieldsOf 107).toList = [{ name := "Item", type := 3, offset := 0, embedded := false, tag := "", pkgPath := "", byteOffset := 0 }, { name := "Word", type := 3, offset := 1, embedded := false, tag := "", pkgPath := "", byteOffset := 8 }]) ⟨by decide, rfl⟩ ⟨by decide, rfl⟩ Tryz.underlying3 Tryz.underlying3 a b c e w
def AmO(s m:Qm)(x y:Int)(a b:Qm)(c y2:Int)(w:World):(Op.equalIn 10000 112 (.agg #[.string ⟨s.toArray⟩,.int .i64 x,.int .i64 y,.string ⟨m.toArray⟩]) (.agg #[.string ⟨a.toArray⟩,.int .i64 c,.int .i64 y2,.string ⟨b.toArray⟩])).run Tryz.prog w=.ok (decide (s=a/\x=c/\y=y2/\m=b)) w:=
 Alq (by kernel_rfl) (by kernel_rfl) (by kernel_rfl : (Tryz.prog.fieldsOf 112).toList = [{ name := "path", type := 9, offset := 0, embedded := false, tag := "", pkgPath := "scriptorium/shapes", byteOffset := 0 }, { name := "kind", type := 3, offset := 1, embedded := false, tag := "", pkgPath := "scriptorium/shapes", byteOffset := 16 }, { name := "number", type := 3, offset := 2, embedded := false, tag := "", pkgPath := "scriptorium/shapes", byteOffset := 24 }, { name := "text", type := 9, offset := 3, embedded := false, tag := "", pkgPath := "scriptorium/shapes", byteOffset := 32 }]) ⟨by decide, rfl⟩ ⟨by decide, rfl⟩ ⟨by decide, rfl⟩ ⟨by decide, rfl⟩ Tryz.underlying9 Tryz.underlying3 Tryz.underlying3 Tryz.underlying9 s m x y a b c y2 w
def AlY:Tryz.prog.eqGuardType Tryz.prog.depth 132=false:=by kernel_rfl
def AmP(s m:Qm)(x y:Int)(a b:Qm)(c y2:Int)(w:World):(Op.equalIn 10000 132 (.agg #[.string ⟨s.toArray⟩,.int .i64 x,.int .i64 y,.string ⟨m.toArray⟩]) (.agg #[.string ⟨a.toArray⟩,.int .i64 c,.int .i64 y2,.string ⟨b.toArray⟩])).run Tryz.prog w=.ok (decide (s=a/\x=c/\y=y2/\m=b)) w:=
 Alq (by kernel_rfl) (by kernel_rfl) (by kernel_rfl : (Tryz.prog.fieldsOf 132).toList = [{ name := "Path", type := 9, offset := 0, embedded := false, tag := "", pkgPath := "", byteOffset := 0 }, { name := "Kind", type := 3, offset := 1, embedded := false, tag := "", pkgPath := "", byteOffset := 16 }, { name := "Number", type := 3, offset := 2, embedded := false, tag := "", pkgPath := "", byteOffset := 24 }, { name := "Data", type := 9, offset := 3, embedded := false, tag := "", pkgPath := "", byteOffset := 32 }]) ⟨by decide, rfl⟩ ⟨by decide, rfl⟩ ⟨by decide, rfl⟩ ⟨by decide, rfl⟩ Tryz.underlying9 Tryz.underlying3 Tryz.underlying3 Tryz.underlying9 s m x y a b c y2 w
def AlZ:RA Tryz.prog 9 encS:=AfA Tryz.underlying9
def Ah4:RA Tryz.prog 112 KE:=Ahr Tryz.underlying112 (λ_ _ _ _ _ _=>by kernel_rfl) (λs a m b x c y y2 w=>AmO s m x y a b c y2 w)
end Go.Proofs.YtgaljodghpgdmaaGreatDoor
end
noncomputable section
namespace Go.L
def EE(r:Int):Qm:=(Go.Utf8.encode r).data.toList
def VN(l:Qm)(p:Nat):Nat×Nat:=Go.Utf8.decode ⟨l.toArray⟩ p
def D7{κ α:Type}[DecidableEq κ](k:κ)(l:List (κ×List α)):List (κ×List α):=Ea k (Bp [] k l) l
end Go.L
namespace Go.E
open Go Go.RowKit
section
variable {P:Program}{n:Sz}{ops:Array Oper}{Q:Exit->Act->World->Prop}{L:ZC}{w w0:World}{O:List Bv}{rest:List Oper}{d:Nat}{ty t t':TypeId}{pos:String}{af:Array Edge}{x y x':Operand}{l:Qm}
def AmQ[Dr]{a:Int}(hx:ev L x=TI (.int .i32 a))[ht:V9 (P.underlying t) (TI (.int .i32))][ht':V9 (P.underlying t') (TI .string)]:AY P L w (.convert t t' x) ty (.string ⟨(Go.L.EE a).toArray⟩):=by
 intro w' _ ρ hρ dst pos af g;have e:(⟨(Go.L.EE a).toArray⟩:ByteArray)=Utf8.encode a:=by unfold Go.L.EE;rw[Array.toArray_toList]
 rw[e];simp[execOp,hρ x _ hx,convert,run_underlying ht.e,run_underlying ht'.e,Conv.intToString]
def Ack[Dr](hx:ev L x=TI (.string ⟨l.toArray⟩))[ht:V9 (P.underlying t) (TI .string)][hn:V9 (Uu d n.n) true](hL:AB w0 O w)
  (h:∀w' b,AB w0 (.obj b (.stringIter ⟨l.toArray⟩ 0)::O) w'->Le (fz w O) (fz w' (.obj b (.stringIter ⟨l.toArray⟩ 0)::O))->S P n ops Q rest ((d,.pointer (TI ⟨b,0,none⟩))::L) w'):S P n ops Q (⟨TI d,.range t x,ty,pos,af,none⟩::rest) L w:=by
 have hb:∀b,(Bv.obj w.heap.size (.stringIter ⟨l.toArray⟩ 0)).block=TI b->w.heap.size<=b:=λb e=>by cases e;exact KN _
 refine Dy (v:=.pointer (TI ⟨w.heap.size,0,none⟩)) (w':=w.alloc (.stringIter ⟨l.toArray⟩ 0)) hn.e (fun ρ hρ=>?_) (h _ _ (hL.new (C1 w _) (World.alloc_heap_new w _) hb) (Uj hL (C1 w _) hb));simp[execOp,Instr.range,run_underlying ht.e,hρ x _ hx,newObj,Sem.run]
def AeN[Dr](i:Nat){b p:Nat}(hx:ev L x=TI (.pointer (TI ⟨b,0,none⟩)))[hn:V9 (Uu d n.n) true](hL:AB w0 O w)(hi:Ba O i=TI (.obj b (.stringIter ⟨l.toArray⟩ p)))
  (a:p<l.length->∀w',AB w0 (Ci O i (.obj b (.stringIter ⟨l.toArray⟩ (p+(Go.L.VN l p).2)))) w'->Le (fz w O) (fz w' (Ci O i (.obj b (.stringIter ⟨l.toArray⟩ (p+(Go.L.VN l p).2)))))->S P n ops Q rest ((d,.tuple #[.bool true,.int .i64 (p:Int),.int .i32 ((Go.L.VN l p).1:Int)])::L) w')
  (h2 : ¬p<l.length->S P n ops Q rest ((d,.tuple #[.bool false])::L) w):S P n ops Q (⟨TI d,.next x true,ty,pos,af,none⟩::rest) L w:=by
 have hb:w.heap[b]? = TI (.stringIter ⟨l.toArray⟩ p):=hL.at hi;have hs:(ByteArray.mk l.toArray).size=l.length:=by simp[Vl]
 by_cases hp:p<l.length
 ·have hr:=Lib.run_next_any_at (P:=P) w b ⟨l.toArray⟩ p ty hb (by rw[hs];exact hp);have hput:=hL.putAt (.stringIter ⟨l.toArray⟩ (p+(Go.L.VN l p).2)) hi;refine Dy (v:=.tuple #[.bool true,.int .i64 (p:Int),.int .i32 ((Go.L.VN l p).1:Int)]) (w':=_) hn.e (fun ρ hρ=>?_) (a hp _ hput.1 hput.2);have e:w.iterAt b ⟨l.toArray⟩ (p+(Utf8.decode ⟨l.toArray⟩ p).2)=w.putObj b (.stringIter ⟨l.toArray⟩ (p+(Go.L.VN l p).2)):=Z;rw[e]at hr;simp[execOp,hρ x _ hx,hr,Go.L.VN]
 ·have hr:=Lib.run_next_end_at (P:=P) w b ⟨l.toArray⟩ p ty hb (by rw[hs];exact hp);refine Dy (v:=.tuple #[.bool false]) (w':=w) hn.e (fun ρ hρ=>?_) (h2 hp);simp[execOp,hρ x _ hx,hr]
end
section
variable {κ:Type}{enc:κ->Value}{k:κ}
theorem AeO:∀(l:List κ) (vs:LR) (i m:Nat),l.length=vs.length->l[m]? = some k->(mE enc i l vs).modify m (λe=>{e with key:=enc k})=mE enc i l vs
 | b::l,u::vs,i,0,_,h=>by simp at h;subst h;simp[mE]
 | b::l,u::vs,i,m+1,hl,h=>by
  have:=AeO l vs (i+1) m (by simpa using hl) (by simpa using h);simp only[mE,List.modify_succ_cons,this]
theorem AeP{v:Value}:∀(l:List κ) (vs:LR) (i m:Nat),l.length=vs.length->(mE enc i l vs).modify m (λe=>{e with val:=v})=mE enc i l (vs.set m v)
 | [],[],_,_,_=>by simp[mE]
 | b::l,u::vs,i,0,_=>by simp[mE]
 | b::l,u::vs,i,m+1,hl=>by
  have:=AeP (v:=v) l vs (i+1) m (by simpa using hl);simp only[mE,List.modify_succ_cons,List.set_cons_succ,this]
theorem Tq:∀(l:List κ) (vs:LR) (i m:Nat),l.length=vs.length->m<l.length->(mE enc i l vs).findIdx? (λe=>(e.born:Int)==((i+m:Nat):Int))=TI m
 | b::l,u::vs,i,0,_,_=>by simp[mE,List.findIdx?_cons]
 | b::l,u::vs,i,m+1,hl,h=>by
  have:=Tq l vs (i+1) m (by simpa using hl) (by simpa using h);rw[show i+(m+1)=i+1+m by omega];have hne:((i:Int)==((i+1+m:Nat):Int))=false:=by simp;omega
  simp only[mE,List.findIdx?_cons,hne,SQ,if_false,this,TB]
end
section
variable {κ α:Type} [DecidableEq κ] {k:κ}{l:List (κ×List α)}
def QN{m:Nat}(h:mI k (l.map TJ)=TI m):Go.L.D7 k l=l:=by
 unfold Go.L.D7;rw[Tp h];have:=X3 ([]:List α) h;obtain⟨a,h2⟩:=Z9.1 this
 conv=>lhs;rw[<- h2]
 exact List.set_getElem_self a
def QO(h:mI k (l.map TJ)=none):Go.L.D7 k l=l++[(k,[])]:=by
 unfold Go.L.D7;rw[To h,X2 [] h]
theorem Yv:Go.L.Bp [] k (Go.L.D7 k l)=Go.L.Bp [] k l:=by
 cases h:mI k (l.map TJ)with
 | some m=>rw[QN h]
 | none=>
  rw[QO h];clear h
  induction l with
  | nil=>simp[Go.L.Bp]
  | cons a l ih=>
   obtain⟨a,y⟩:=a;simp only[VT,Go.L.Bp]
   split
   ·rfl
   ·exact ih
theorem Ah5:∃m,mI k ((Go.L.D7 k l).map TJ)=TI m:=by
 cases h:mI k (l.map TJ)with
 | some m=>rw[QN h];exact⟨m,h⟩
 | none=>
  rw[QO h];clear h
  induction l with
  | nil=>exact⟨0,by simp[mI]⟩
  | cons a l ih=>
   obtain⟨a,y⟩:=a;obtain⟨m,hm⟩:=ih;simp only[VT,Yu,mI]
   split
   ·exact⟨_,Z⟩
   ·rw[hm];exact⟨_,Z⟩
theorem Acl{y z:List α}:∀{l:List (κ×List α)},mI k (l.map TJ)=none->Go.L.Ea k y (l++[(k,z)])=Go.L.Ea k y l
 | [],_=>by simp[Go.L.Ea]
 | (a,x)::l,h=>by
  simp only[Yu,mI]at h
  split at h
  ·cases h
  ·rename_i e;simp only[VT,Go.L.Ea,Pb e];rw[Acl (by cases b:mI k (l.map TJ) <;> simp_all)]
theorem Yw{y:List α}:Go.L.Ea k y (Go.L.D7 k l)=Go.L.Ea k y l:=by
 cases h:mI k (l.map TJ)with
 | some m=>rw[QN h]
 | none=>rw[QO h,Acl h]
def Sx(k:κ)(l:List κ):Int:=match mI k l with | some m=>(m:Int) | none=>0
end
section
variable {P:Program}{n:Sz}{ops:Array Oper}{Q:Exit->Act->World->Prop}{L:ZC}{w w0:World}{O:List Bv}{rest:List Oper}{d:Nat}{ty ty' t mt kt et e:TypeId}{pos pos':String}{af af':Array Edge}{x y x' m':Operand}
 {κ α:Type} [DecidableEq κ] {enc:κ->Value}{cw:α->LR}{sz:Nat}{l:List (κ×List α)}{vs:LR}{k:κ}{H:PH}{A:List Bv}
theorem Ad8[Dr](ib:Nat){b:Nat}(hx:ev L x=TI (.map (TI b)))[hy:V9 (ev L y) (TI (enc k))][ht:V9 (P.underlying t) (TI (.map kt et))](hk:RA P kt enc)(hz:Mz P et (.slice none 0 0))[hn:V9 (Uu d n.n) true](hL:AB w0 (A++mT cw e sz l vs) w)
  (hib:Ba A ib=TI (TN enc b l vs)) (hl:l.length=vs.length)
  (h:∀vs' w',(Go.L.D7 k l).length=vs'.length->AB w0 (Ci A ib (TN enc b (Go.L.D7 k l) vs')++mT cw e sz (Go.L.D7 k l) vs') w'->
   Le (fz w (A++mT cw e sz l vs)) (fz w' (Ci A ib (TN enc b (Go.L.D7 k l) vs')++mT cw e sz (Go.L.D7 k l) vs'))->
   S P n ops Q rest ((d,.tuple #[lkV (.slice none 0 0) k ((Go.L.D7 k l).map TJ) vs',.int .i64 (Sx k ((Go.L.D7 k l).map TJ))])::L) w') :
  S P n ops Q (⟨TI d,.mapEntry t x y,ty,pos,af,none⟩::rest) L w:=by
 have hb:w.heap[b]? = TI (.map (mE enc 0 (l.map TJ) vs).toArray l.length):=hL.at (KD _ hib);have hg:(getObj b).run P w=.ok (.map (mE enc 0 (l.map TJ) vs).toArray l.length) w:=by simp[getObj,Sem.run,hb]
 have hs:∀o,(setObj b o).run P w=.ok () (w.putObj b o):=λo=>by simp[setObj,Sem.run,hb,World.putObj]
 have hll:(l.map TJ).length=vs.length:=by rw[Vx];exact hl
 cases hm:mI k (l.map TJ)with
 | some m=>
  obtain⟨f,h2⟩:=ZO hm;have he:=VK (enc:=enc) (l.map TJ) vs 0 m k hll h2;have hp:=hL.putAt (.map (mE enc 0 (l.map TJ) vs).toArray l.length) (KD _ hib);rw[Qb _ _ hib]at hp;have h':=h vs (w.putObj b (.map (mE enc 0 (l.map TJ) vs).toArray l.length));rw[QN hm]at h';have g:(mE enc 0 (l.map TJ) vs).toArray.modify m (λe=>{e with key:=enc k})=(mE enc 0 (l.map TJ) vs).toArray:=by rw[List.modify_toArray,AeO _ vs 0 m hll h2]
  refine Dy (v:=_) (w':=_) hn.e (fun ρ hρ=>?_) (h' hl hp.1 hp.2)
  have hr:(Instr.mapEntry t (.map (TI b)) (enc k)).run P w=.ok (.tuple #[lkV (.slice none 0 0) k (l.map TJ) vs,.int .i64 (Sx k (l.map TJ))]) (w.putObj b (.map (mE enc 0 (l.map TJ) vs).toArray l.length)):=by
   simp only[Instr.mapEntry,Sem.run_bind,run_underlying ht.e,Result.andThen,hg,hk.check];rw[X1 hk hll,hm];simp only[TB,Sem.run_bind,Result.andThen,List.getElem?_toArray,he,Option.getD_some,Instr.keyThatStays,hk.bits,if_true];simp only[Sem.run_pure,Q8];rw[g,hs];simp[lkV,Sx,hm,goInt]
  simp[execOp,hρ x _ hx,hρ y _ hy.e,hr]
 | none=>
  have hp:=hL.putAt (.map (mE enc 0 (l.map TJ++[k]) (vs++[.slice none 0 0])).toArray (l.length+1)) (KD _ hib);rw[Qb _ _ hib]at hp;have hnil:=Xy hp.1 e sz;have h':=h (vs++[.slice none 0 0]) (w.putObj b (.map (mE enc 0 (l.map TJ++[k]) (vs++[.slice none 0 0])).toArray (l.length+1)));rw[QO hm]at h';have hpush:=AaI (enc:=enc) (k:=k) (v:=.slice none 0 0) (l.map TJ) vs 0 hll;rw[Q8]at hpush;have c:(l++[(k,([]:List α))]).map TJ=l.map TJ++[k]:=by simp
  have i:(l++[(k,([]:List α))]).length=l.length+1:=by simp
  have hB:(.obj b (.map (mE enc 0 (l.map TJ++[k]) (vs++[.slice none 0 0])).toArray (l.length+1)):Bv)=TN enc b (l++[(k,([]:List α))]) (vs++[.slice none 0 0]):=by unfold TN;rw[c,i]
  rw[hB]at hp hnil
  have hperm:(Ci A ib (TN enc b (l++[(k,([]:List α))]) (vs++[.slice none 0 0]))++mT cw e sz (l++[(k,([]:List α))]) (vs++[.slice none 0 0])).Perm (.row (.slice none 0 0) e sz 0 []::(Ci A ib (TN enc b (l++[(k,([]:List α))]) (vs++[.slice none 0 0]))++mT cw e sz l vs)):=by
   rw[AaJ k [] (.slice none 0 0) hl,<- YW];exact List.perm_append_singleton _ _
  have hmm:mI k (l.map TJ++[k])=TI l.length:=by
   have hmk:∀(ks:List κ),mI k ks=none->mI k (ks++[k])=TI ks.length:=by
    intro ks
    induction ks with
    | nil=>intro _;simp[mI]
    | cons a ks ih=>
     intro hh;simp only[mI]at hh
     split at hh
     ·cases hh
     ·rename_i ee;simp only[VT,mI,Pb ee];rw[ih (by cases f:mI k ks <;> simp_all)];simp
   have:=hmk _ hm
   rwa [Vx]at this
  refine Dy (v:=_) (w':=_) hn.e (fun ρ hρ=>?_) (h' (by simp[hl]) (hnil.1.perm hperm) (by rw[Js hperm];exact hp.2.trans hnil.2))
  have hr:(Instr.mapEntry t (.map (TI b)) (enc k)).run P w=.ok (.tuple #[lkV (.slice none 0 0) k ((l++[(k,([]:List α))]).map TJ) (vs++[.slice none 0 0]),.int .i64 (Sx k ((l++[(k,([]:List α))]).map TJ))]) (w.putObj b (.map (mE enc 0 (l.map TJ++[k]) (vs++[.slice none 0 0])).toArray (l.length+1))):=by
   rw[c];simp only[Instr.mapEntry,Sem.run_bind,run_underlying ht.e,Result.andThen,hg,hk.check];rw[X1 hk hll,hm];have hz':(zeroValue et).run P w=.ok (.slice none 0 0) w:=hz w;simp only[Option.map_none,Sem.run_bind,Result.andThen,hz',List.push_toArray];rw[Vx]at hpush;rw[hpush,hs];simp[lkV,Sx,hmm,goInt,hl]
  simp[execOp,hρ x _ hx,hρ y _ hy.e,hr]
def Ama[Dr](ib:Nat){b:Nat}{v:Value}{yl:List α}{T:List Bv}(hpd:AlR cw e sz (Go.L.D7 k l) vs k yl v T)(hm:ev L m'=TI (.map (TI b)))[hkx:V9 (ev L x') (TI (.int .i64 (Sx k ((Go.L.D7 k l).map TJ))))][hv:V9 (ev L x) (TI v)]
  (hL:AB w0 (A++T) w) (hib:Ba A ib=TI (TN enc b (Go.L.D7 k l) vs))
  (h:∀vs' w',(Go.L.Ea k yl l).length=vs'.length->AB w0 (Ci A ib (TN enc b (Go.L.Ea k yl l) vs')++mT cw e sz (Go.L.Ea k yl l) vs') w'->
   Le (fz w (A++T)) (fz w' (Ci A ib (TN enc b (Go.L.Ea k yl l) vs')++mT cw e sz (Go.L.Ea k yl l) vs'))->S P n ops Q rest L w') :
  S P n ops Q (⟨none,.entryStore mt m' x' x,ty,pos,af,none⟩::rest) L w:=by
 obtain⟨_,hl,hpm⟩:=hpd;obtain⟨m,hmi⟩:=Ah5 (k:=k) (l:=l);rw[Yw]at hpm;have hll:((Go.L.D7 k l).map TJ).length=vs.length:=by rw[Vx];exact hl
 obtain⟨c,h2⟩:=ZO hmi;have hb:w.heap[b]? = TI (.map (mE enc 0 ((Go.L.D7 k l).map TJ) vs).toArray (Go.L.D7 k l).length):=hL.at (KD T hib);have hg:(getObj b).run P w=.ok (.map (mE enc 0 ((Go.L.D7 k l).map TJ) vs).toArray (Go.L.D7 k l).length) w:=by simp[getObj,Sem.run,hb]
 have hs:∀o,(setObj b o).run P w=.ok () (w.putObj b o):=λo=>by simp[setObj,Sem.run,hb,World.putObj]
 have hU:upV k v ((Go.L.D7 k l).map TJ) vs=vs.set m v:=by unfold upV;rw[hmi]
 have hK:(Go.L.Ea k yl l).map TJ=(Go.L.D7 k l).map TJ:=by
  have:=Ym (k:=k) (y:=yl) (l:=Go.L.D7 k l);rw[Yw]at this;rw[<- this];unfold upK;rw[hmi]
 have hlen:(Go.L.Ea k yl l).length=(Go.L.D7 k l).length:=by have:=congrArg List.length hK;simpa using this
 have hf:=Tq (enc:=enc) _ vs 0 m hll c;rw[Q8]at hf;have hp:=hL.putAt (.map (mE enc 0 ((Go.L.Ea k yl l).map TJ) (vs.set m v)).toArray (Go.L.Ea k yl l).length) (KD T hib);rw[Qb _ _ hib]at hp;have a:=List.Perm.append_left (Ci A ib (TN enc b (Go.L.Ea k yl l) (upV k v ((Go.L.D7 k l).map TJ) vs))) hpm.symm;rw[hU]at a
 have hr:(Instr.entryStore mt (.map (TI b)) (.int .i64 (Sx k ((Go.L.D7 k l).map TJ))) v).run P w=.ok () (w.putObj b (.map (mE enc 0 ((Go.L.Ea k yl l).map TJ) (vs.set m v)).toArray (Go.L.Ea k yl l).length)):=by
  simp only[Instr.entryStore,Sem.run_bind,Result.andThen,hg,Sx,hmi,asInt,asIntOf];simp only[Sem.run_bind,Sem.run_pure,Result.andThen,List.findIdx?_toArray,hf,List.modify_toArray];rw[AeP _ vs 0 m hll,hs,hK,hlen]
 refine Oy _ (fun ρ hρ=>?_) (h (vs.set m v) _ (by rw[hlen,List.length_set];exact hl) (hp.1.perm a) ?_)
 ·simp[execOp,hρ m' _ hm,hρ x' _ hkx.e,hρ x _ hv.e,hr]
 ·rw[Js a];exact hp.2
end
def Vt(v v':Value)(lo:Nat):Prop:=∃a m cap,v=.slice a m cap/\lo<=m/\m<=cap/\v'=.slice (if cap=lo then a else a.map (·.add lo)) (m - lo) (cap - lo)
def Vt.vec{α:Type}{r:Rp α}{H:PH}{v v':Value}{lo:Nat}{l:List α}(h:Vt v v' lo)(hv:As r H v l)(hr:r.sz=1):As r H v' (l.drop lo):=by
 obtain⟨a,m,cap,rfl,c,h2,rfl⟩:=h;obtain⟨a',cap',he⟩:=hv.header;have hm:m=l.length:=by cases he;rfl
 subst hm;obtain⟨a2,f,g,hs⟩:=hv.sub lo l.length c (KN _)
 cases g
 rw[hr,Z5,Sg Rg]at hs;exact hs
section
variable {P:Program}{n:Sz}{ops:Array Oper}{Q:Exit->Act->World->Prop}{L:ZC}{w w0:World}{O:List Bv}{rest:List Oper}{d:Nat}
 {ty:TypeId}{pos:String}{af:Array Edge}{α:Type}{r:Rp α}{x a b:Operand}{v:Value}{t e:TypeId}{H:PH}{k:IntKind}{lo:Int}{m:Nat}{zz:Value}{bt:Nat}{xs:LR}
def Ah6[Dr](i:Nat)(hx:ev L x=TI v)[ha:V9 (ev L a) (TI (.int k lo))](ht:P.underlying t=TI (.slice e))[hz:Qqz P e zz 1 bt](hL:AB w0 O w)(hi:Ba O i=TI (.row v e 1 m xs))(hc:0<=lo/\lo<=(m:Int))[hn:V9 (Uu d n.n) true]
  (h:∀v',Vt v v' lo.toNat->S P n ops Q rest ((d,v')::L) w):S P n ops Q (⟨TI d,.slice t x (TI a) none none,ty,pos,af,none⟩::rest) L w:=by
 have hown:w.ownsRow 0 e 1 v m xs:=hL.at hi;obtain⟨inf,b,f,c,j⟩:=hz.e.parts;obtain⟨q,rfl⟩:=Ph hc.1;have hq:q<=m:=by omega
 have hqi:(q:Int)<=(m:Int):=hc.2
 have key:∃A cap,v=.slice A m cap/\m<=cap:=by
  rcases hown.2 with ⟨rfl,rfl⟩ | ⟨g,cp,cur,rfl,hbg,hg,hnc,hcm,hcs,htake⟩
  ·exact⟨none,0,Z,KN _⟩
  ·exact⟨_,cp,Z,hnc⟩
 obtain⟨A,cap,rfl,hmc⟩:=key;refine AJ (λw' _ ρ hρ dst pos af g=>?_) (hn:=⟨hn.e⟩) (h _ ⟨A,m,cap,Z,hq,hmc,Z⟩);simp[execOp,hρ x _ hx,hρ a _ ha.e,Instr.sliceAt,run_underlying ht,Instr.slice,Instr.sliceBounds,Instr.sliceBound,asIntOf,sizeOf,typeInfo,b,c,hqi,hq]
theorem Amb[Dr](i:Nat){j:Int}{l:List α}(hx:ev L x=TI v)[hb:V9 (ev L b) (TI (.int k j))](ht:P.underlying t=TI (.slice e))[hz:Qqz P e zz 1 bt][hr:V9 r.sz 1](hH:Le H (hp w0))(hL:AB w0 O w)(hi:Ba O i=TI (.row v e 1 l.length xs))(he:Ao r (gz H w0 w O) l xs)(hc:0<=j/\j<=(l.length:Int))[hn:V9 (Uu d n.n) true]
  (h:∀v' xs',AB w0 (Ci O i (.row v' e 1 (l.take j.toNat).length xs')) w->Le (fz w O) (fz w (Ci O i (.row v' e 1 (l.take j.toNat).length xs')))->Ao r (gz H w0 w (Ci O i (.row v' e 1 (l.take j.toNat).length xs'))) (l.take j.toNat) xs'->S P n ops Q rest ((d,v')::L) w):S P n ops Q (⟨TI d,.slice t x none (TI b) none,ty,pos,af,none⟩::rest) L w:=by
 have hown:w.ownsRow 0 e 1 v l.length xs:=hL.at hi;obtain⟨inf,m,z,o,i4⟩:=hz.e.parts;obtain⟨q,rfl⟩:=Ph hc.1;have hq:q<=l.length:=by omega
 rw[SV]at h;have hlt:(l.take q).length=q:=by rw[Y4];omega
 have hel:∀(l:List α) (xs:LR) (G:PH),Ao r G l xs->Ao r G (l.take q) (xs.take q):=by
  intro l xs G he
  have hgen:∀(q:Nat),Ao r G (l.take q) (xs.take q):=by
   induction he with
   | nil=>intro q;simp;exact .nil
   | @cons y l c cs hy hl ih=>
    intro q;have a:c.length=1:=by rw[r.len hy,hr.e]
    obtain⟨u,rfl⟩:=List.length_eq_one_iff.1 a
    cases q with
    | zero=>simp;exact .nil
    | succ q=>exact .cons hy (ih q)
  exact hgen q
 have key:∃A cap,v=.slice A l.length cap/\l.length<=cap/\(∀b,(Bv.row (.slice A q cap) e 1 q (xs.take q)).block=TI b->(Bv.row v e 1 l.length xs).block=TI b)/\(Bv.row (.slice A q cap) e 1 q (xs.take q)).ok w/\(A.map (·.add 0)=A):=by
  rcases hown.2 with ⟨rfl,p⟩ | ⟨g,cp,cur,rfl,hbg,hg,hnc,hcm,hcs,htake⟩
  ·have f:q=0:=by omega
   subst f;refine⟨none,0,by rw[p],by omega,λb h=>h,⟨by simp,.inl ⟨Z,Z⟩⟩,Z⟩
  ·refine⟨_,cp,Z,hnc,λb h=>h,⟨?_,.inr ⟨g,cp,cur,Z,hbg,hg,by omega,hcm,hcs,?_⟩⟩,Z⟩
   ·rw[Y4,hown.1];omega
   ·rw[<- htake,List.take_take,Z5,Z5,VW hq]
 obtain⟨A,cap,rfl,hmc,hbl,hok,hA⟩:=key;have hqc:(q:Int)<=(cap:Int):=by omega
 have hqc':q<=cap:=by omega
 have s:=hL.KV hi (KN _) (World.grownBy.refl _ _) hok (λb e=>.inl (hbl b e));have h2:=ES (r':=.row (.slice A q cap) e 1 q (xs.take q)) hL hi (World.grownBy.refl _ _) (λb e=>.inl (hbl b e));have h':=h (.slice A q cap) (xs.take q);rw[hlt]at h';refine AJ (λw' _ ρ hρ dst pos af g=>?_) (hn:=⟨hn.e⟩) (h' s h2 ((hel l xs _ he).mono (Aa h2)));simp[execOp,hρ x _ hx,hρ b _ hb.e,Instr.sliceAt,run_underlying ht,Instr.slice,Instr.sliceBounds,Instr.sliceBound,asIntOf,sizeOf,typeInfo,m,o,hqc,hqc',hA]
theorem Ah7[Dr](i:Nat){v':Value}{q:Nat}{l:List α}{z:α}[hx:V9 (ev L x) (TI v')](hs:Vt v v' q)(ht:P.underlying t=TI (.slice e))[hz:Qqz P e zz 1 bt][hr:V9 r.sz 1][hzc:V9 zz.cells (#[zz])][s:V9 zz.oneCell' true](hH:Le H (hp w0))(hL:AB w0 O w)(hi:Ba O i=TI (.row v e 1 l.length xs))(he:Ao r (gz H w0 w O) l xs)(hrz:∀G,r.rel G z [zz])
  (h:∀w' xs',AB w0 (Ci O i (.row v e 1 (l.take q++Xk (l.length - q) z).length xs')) w'->Le (fz w O) (fz w' (Ci O i (.row v e 1 (l.take q++Xk (l.length - q) z).length xs')))->Ao r (gz H w0 w' (Ci O i (.row v e 1 (l.take q++Xk (l.length - q) z).length xs'))) (l.take q++Xk (l.length - q) z) xs'->S P n ops Q rest L w') :
  S P n ops Q (⟨none,.call ⟨.builtin .clear,#[x],#[t]⟩,ty,pos,af,none⟩::rest) L w:=by
 have hx:=hx.e
 have hown:w.ownsRow 0 e 1 v l.length xs:=hL.at hi;obtain⟨inf,i1,i2,i3,i4⟩:=hz.e.parts;have hxl:xs.length=l.length:=by rw[hown.1,Z5]
 have aa:∀(G:PH) (l:List α) (xs:LR),Ao r G l xs->∀q,Ao r G (l.take q++Xk (l.length - q) z) (xs.take q++Xk (l.length - q) zz):=by
  intro G l xs he
  have hrep:∀k,Ao r G (Xk k z) (Xk k zz):=by
   intro k
   induction k with
   | zero=>exact .nil
   | succ k ih=>exact .cons (hrz G) ih
  induction he with
  | nil=>intro q;simp;exact .nil
  | @cons y l c cs hy hl ih=>
   intro q;have ac:c.length=1:=by rw[r.len hy,hr.e]
   obtain⟨u,rfl⟩:=List.length_eq_one_iff.1 ac
   cases q with
   | zero=>simpa using hrep (l.length+1)
   | succ q=>
    have:=ih q;simp only[List.take_succ_cons,VT,PF,Nat.add_sub_add_right];exact .cons hy this
 have hel:∀G,Ao r G l xs->Ao r G (l.take q++Xk (l.length - q) z) (xs.take q++Xk (l.length - q) zz):=λG he=>aa G l xs he q;have hle:(l.take q++Xk (l.length - q) z).length=l.length:=by simp;omega
 rw[hle]at h;obtain⟨a,m,cap,hv,hq,hmc,rfl⟩:=hs
 by_cases o:l.length - q=0
 ·have hm:m=l.length:=by
   rcases hown.2 with ⟨p,h0⟩ | ⟨g,cp,cur,d,_⟩
   ·rw[p]at hv;cases hv;exact h0.symm
   ·rw[d]at hv;cases hv;rfl
  subst hm;have e0:l.take q++Xk (l.length - q) z=l:=by rw[o,List.replicate_zero,R0,Sg U]
  rw[e0]at h
  have hrun:(Builtin.clear_ #[t] ty #[.slice (if cap=q then a else a.map (·.add q)) (l.length - q) (cap - q)]).run P w=.ok (.tuple #[]) w:=by
   rw[o];generalize (if cap=q then a else a.map (·.add q))=A'
   cases A' <;> simp[Builtin.clear_,run_underlying ht]
  refine AbG (v:=.tuple #[]) (w':=w) (fun ρ hρ=>by simp[execOp,resolve,invoke,builtin,hρ x _ hx,hrun]) ?_;have t1:=hL.KV hi (KN _) (World.grownBy.refl _ _) (hL.at hi) (λb e=>.inl e);have f:=ES (r':=.row v e 1 l.length xs) hL hi (World.grownBy.refl _ _) (λb e=>.inl e);exact h w xs t1 f (he.mono (Aa f))
 ·rcases hown.2 with ⟨p,h0⟩ | ⟨g,cp,cur,d,hbg,hg,hnc,hcm,hcs,htake⟩
  ·omega
  ·rw[d]at hv
   cases hv
   have hcur:cur.size=cap:=by rw[hcs,Z5]
   have hqc : ¬cap=q:=by omega
   rw[Pb hqc]at hx
   have hcell:∀j,j<l.length - q->(w.cell? ⟨g,q+j,none⟩).isSome=true:=λj hj=>by
    have:q+j<cur.size:=by omega
    simp[World.cell?,hg,this]
   have hfr:∀j,j<l.length - q->w.frozen? ⟨g,q+j,none⟩=false:=λj hj=>by simp[World.frozen?,hg]
   have hzero:∀w,(zeroValue e).run P w=.ok zz w:=λw=>by simp[zeroValue,typeInfo,i1,i2]
   have hst:=run_storeCells_at P g q e (Xk (l.length - q) zz) 0 cur w hg U (by intro u hu;rw[List.eq_of_mem_replicate hu];exact s.e);simp only[Pf,List.length_replicate]at hst;obtain⟨C,hC⟩:∃C,C=(cur.toList.take q++Xk (l.length - q) zz++cur.toList.drop (q+(l.length - q))).toArray:=⟨_,Z⟩;rw[<- hC]at hst
   have hrun:(Builtin.clear_ #[t] ty #[.slice (TI ⟨g,q,none⟩) (l.length - q) (cap - q)]).run P w=.ok (.tuple #[]) (w.setRow g C):=by
    have h2:=Lib.run_clear_slice (P:=P) w t e ty zz ht hzero hzc.e s.e g q (l.length - q) (cap - q) U hcell hfr;have h3:=run_storeCells_cells (P:=P) g q (Xk (l.length - q) zz) 0 w (by simpa using hcell) (by simpa using hfr) (by intro u hu;rw[List.eq_of_mem_replicate hu];exact s.e);simp only[Pf]at h3;rw[hst]at h3;rw[h2]
    injection h3 with _ h4
    rw[h4]
   have hgr:=KW w g C;have hh:=Ju w g cur C e hg
   have hok:Bv.ok (w.setRow g C) (.row v e 1 l.length (xs.take q++Xk (l.length - q) zz)):=by
    subst d;refine⟨by simp;omega,.inr ⟨g,cap,C,Z,hbg,hh,hnc,hcm,by rw[hC];simp;omega,?_⟩⟩;rw[hC,TF,<- htake,Z5,List.take_take,VW hq,List.take_append];have ae:(cur.toList.take q++Xk (l.length - q) zz).length=l.length:=by simp;omega
    rw[Sg U,ae,Nat.sub_self,List.take_zero,R0]
   have hgr':w.grownBy (w.setRow g C) (Bv.row v e 1 l.length xs).block:=by subst d;exact hgr
   have hdr:w.drawn<=(w.setRow g C).drawn:=KN _;have t1:=hL.KV hi hdr hgr' hok (λb e=>.inl e);have f:=ES (r':=.row v e 1 l.length (xs.take q++Xk (l.length - q) zz)) hL hi hgr' (λb e=>.inl e);have hx':ev L x=TI (.slice (TI ⟨g,q,none⟩) (l.length - q) (cap - q)):=by rw[hx];simp[Addr.add];exact λe=>e.symm
   refine AbG (v:=.tuple #[]) (w':=w.setRow g C) (fun ρ hρ=>by simp[execOp,resolve,invoke,builtin,hρ x _ hx',hrun])<|h _ _ t1 f ((hel _ he).mono (Aa f))
end
class Un (P:Program) (t:TypeId) (d:outParam TypeDesc):Prop where
 e:P.underlying t=TI d
class Zc (P:Program) (t:TypeId) (z:outParam Value) (sz bt:outParam Nat):Prop where
 e:Zr P t z sz bt
class Yx (O:List Bv) (b:Nat) (i:outParam Nat) (cs:outParam LR) (t:outParam TypeId):Prop where
 e:Ba O i=TI (.box b cs t)
instance {O:List Bv}{b:Nat}{cs:LR}{t:TypeId}:Yx (.box b cs t::O) b 0 cs t:=⟨Z⟩
instance {O:List Bv}{r:Bv}{b i:Nat}{cs:LR}{t:TypeId} [h:Yx O b i cs t]:Yx (r::O) b (i+1) cs t:=⟨h.e⟩
theorem AeQ:∀{l O:List Bv}{i:Nat}{r:Bv},Ba l i=TI r->Ba (l++O) i=TI r
 | _::_,_,0,_,h=>h
 | _::l,_,i+1,_,h=>AeQ (l:=l) (i:=i) h
instance {l O:List Bv}{b i:Nat}{cs:LR}{t:TypeId} [h:Yx l b i cs t]:Yx (l++O) b i cs t:=⟨AeQ h.e⟩
section
variable {l O:List Bv}{r s:Bv}{b i n:Nat}{cs:LR}{t:TypeId}
instance [h:Yx O b i cs t]:Yx (([]:List Bv)++O) b i cs t:=⟨h.e⟩
instance [h:Yx (s::l) b i cs t]:Yx (Ci (r::l) 0 s) b i cs t:=⟨h.e⟩
instance [h:Yx (r::Ci l n s) b i cs t]:Yx (Ci (r::l) (n+1) s) b i cs t:=⟨h.e⟩
instance [h:Yx l b i cs t]:Yx (LQ (r::l) 0) b i cs t:=⟨h.e⟩
instance [h:Yx (r::LQ l n) b i cs t]:Yx (LQ (r::l) (n+1)) b i cs t:=⟨h.e⟩
instance [h:Yx (s::(l++O)) b i cs t]:Yx (Ci ((r::l)++O) 0 s) b i cs t:=⟨h.e⟩
instance [h:Yx (r::Ci (l++O) n s) b i cs t]:Yx (Ci ((r::l)++O) (n+1) s) b i cs t:=⟨h.e⟩
end
def Amc:List Field->Nat->Option (TypeId×Nat)
 | [],_=>none
 | d::_,0=>TI (d.type,d.offset)
 | _::l,i+1=>Amc l i
theorem AeR:∀{l:List Field}{i:Nat}{y:TypeId}{o:Nat},Amc l i=TI (y,o)->∃d,l[i]? = TI d/\d.type=y/\d.offset=o
 | d::_,0,_,_,h=>by cases h;exact⟨d,Z,Z,Z⟩
 | _::l,i+1,_,_,h=>by simpa using AeR (l:=l) (i:=i) h
def Acn[Dr]{P:Program}{L:ZC}{w:World}{t ty y:TypeId}{x:Operand}{p:Addr}{fs:Array Field}{f o:Nat}{zz:Value}{sz bt:Nat}(hx:ev L x=TI (.pointer (TI p)))(ht:P.underlying t=TI (.struct fs))(hf:Amc fs.toList f=TI (y,o))(hz:Zr P y zz sz bt)(hne:sz≠0):
  AY P L w (.fieldAddr t x f) ty (.pointer (TI (p.add o))):=by
 obtain⟨d,a,rfl,rfl⟩:=AeR hf;exact A7 hx ht (by simpa using a) hz hne
def Aco[Dr]{P:Program}{L:ZC}{w a:World}{O:List Bv}{t ty t':TypeId}{x:Operand}{i b m:Nat}{cs:LR}{dd:TypeDesc}{zz:Value}{bt:Nat}[hx:V9 (ev L x) (TI (.pointer (TI ⟨b,0,none⟩)))](ht:P.underlying t=TI dd)(hd:Zu dd=true)(hL:AB a O w)(hi:Ba O i=TI (.box b cs t'))(hz:Zr P t zz m bt)(hm:cs.length=m):AY P L w (.load t x) ty (.agg cs.toArray):=
 C6 i hx.e (ht:=⟨ht⟩) (hd:=⟨hd⟩) (hm ▸ hz) hL hi
section
variable {P:Program}{n:Sz}{ops:Array Oper}{Q:Exit->Act->World->Prop}{L:ZC}{w:World}{rest:List Oper}{d:Nat}{ty:TypeId}{pos:String}{af:Array Edge}{op:Op}{j t:Nat}{b:Bool}
theorem Als[hq:V9 (((ops[j]?).bind (·.dst),gt L t)) ((TI t,TI (.bool b)))](hw:b=false)[hn:V9 (Uu d n.n) true](h:S P n ops Q rest ((d,undef)::L) w):S P n ops Q (⟨TI d,op,ty,pos,af,TI (j,true)⟩::rest) L w:=AW (hq:=⟨hq.e⟩) hw (hn:=⟨hn.e⟩) h
theorem Alu[hq:V9 (((ops[j]?).bind (·.dst),gt L t)) ((TI t,TI (.bool b)))](hw:b=true)[hn:V9 (Uu d n.n) true](h:S P n ops Q rest ((d,undef)::L) w):S P n ops Q (⟨TI d,op,ty,pos,af,TI (j,false)⟩::rest) L w:=AW (hq:=⟨hq.e⟩) hw (hn:=⟨hn.e⟩) h
end
def AeS[Dr]{P:Program}{L:ZC}{w:World}{t t' ty:TypeId}{x y:Operand}{op:BinOp}{a b c:Int}[hq:V9 (ev L x,ev L y,arI op a b) ((TI (.int .i64 a),TI (.int .i64 b),TI c))](h:Go.L.AL c):AY P L w (.binOp op t x y t') ty (.int .i64 c):=Gq (hq:=⟨hq.e⟩) h
def AmR{P:Program}{n:Sz}{ops:Array Oper}{Q:Exit->Act->World->Prop}{l rest:List Oper}{o:Oper}{L:ZC}{w:World}(e:l=o::rest)(h:S P n ops Q (o::rest) L w):S P n ops Q l L w:=e ▸ h
structure Stp (q:Prop):Prop where
 h:q
theorem Af{p q:Prop}(h:q)(k:Stp q->p:=by
 intro h
 repeat' first
  | (with_reducible show S _ _ _ _ (⟨_,_,_,_,_,TI _⟩::_) _ _);first
   | refine Aj (by with_reducible first | rfl | assumption) ?_
   | refine Als (by with_reducible first | rfl | assumption) ?_
   | refine Alu (by with_reducible first | rfl | assumption) ?_
   | refine IP ?_
  | (with_reducible show S _ _ _ _ (⟨_,.fieldAddr _ _ _,_,_,_,none⟩::_) _ _);refine AJ (Acn Z (by exact Un.e) (by rfl) (by exact Zc.e) Y5) ?_
  | (with_reducible show S _ _ _ _ (⟨_,.load _ _,_,_,_,none⟩::_) _ _);first
   | refine AJ (O2 _ Z (by exact Un.e) (by rfl) (by with_reducible assumption) (by first | exact Yx.e | exact(rfl:Ba _ 0=_) | exact(rfl:Ba _ 1=_) | exact(rfl:Ba _ 2=_) | exact(rfl:Ba _ 3=_) | exact(rfl:Ba _ 4=_) | exact(rfl:Ba _ 5=_) | exact(rfl:Ba _ 6=_) | exact(rfl:Ba _ 7=_) | exact(rfl:Ba _ 8=_) | exact(rfl:Ba _ 9=_) | exact(rfl:Ba _ 10=_) | exact(rfl:Ba _ 11=_) | exact(rfl:Ba _ 12=_) | exact(rfl:Ba _ 13=_) | exact(rfl:Ba _ 14=_) | exact(rfl:Ba _ 15=_) | exact(rfl:Ba _ 16=_) | exact(rfl:Ba _ 17=_) | exact(rfl:Ba _ 18=_) | exact(rfl:Ba _ 19=_)) (by rfl)) ?_
   | refine AJ (Aco (by exact Un.e) (by rfl) (by with_reducible assumption) (by first | exact Yx.e | exact(rfl:Ba _ 0=_) | exact(rfl:Ba _ 1=_) | exact(rfl:Ba _ 2=_) | exact(rfl:Ba _ 3=_) | exact(rfl:Ba _ 4=_) | exact(rfl:Ba _ 5=_) | exact(rfl:Ba _ 6=_) | exact(rfl:Ba _ 7=_) | exact(rfl:Ba _ 8=_) | exact(rfl:Ba _ 9=_) | exact(rfl:Ba _ 10=_) | exact(rfl:Ba _ 11=_) | exact(rfl:Ba _ 12=_) | exact(rfl:Ba _ 13=_) | exact(rfl:Ba _ 14=_) | exact(rfl:Ba _ 15=_) | exact(rfl:Ba _ 16=_) | exact(rfl:Ba _ 17=_) | exact(rfl:Ba _ 18=_) | exact(rfl:Ba _ 19=_)) (by exact Zc.e) (by rfl)) ?_
  | (with_reducible show S _ _ _ _ (⟨_,.call _,_,_,_,none⟩::_) _ _);refine sE (ht:=⟨(by exact Un.e)⟩) (by with_reducible assumption) ?_
  | (with_reducible show S _ _ _ _ (⟨_,.pick _ _ _,_,_,_,none⟩::_) _ _);first
   | refine sF (by with_reducible first | rfl | assumption) Z ?_
   | refine sG (by with_reducible first | rfl | assumption) Z ?_
  | (with_reducible show S _ _ _ _ (⟨_,.binOp _ _ _ _ _,_,_,_,none⟩::_) _ _);first
   | refine sI Z ?_
   | refine AJ (AeS (by first | with_reducible assumption | assumption)) ?_
  | (with_reducible show S _ _ _ _ (⟨_,_,_,_,_,none⟩::_) _ _);refine sI Z ?_
  | (with_reducible show S _ _ _ _ _ _ _);(fail_if_success (with_reducible show S _ _ _ _ (_::_) _ _));first
   | refine AmR Z ?_
   | (with_reducible show S _ _ _ (Si _ _ _) _ _ _);refine Ap ?_
   | refine HX ?_
  | (with_reducible show W _ _ _ _ _ _);with_reducible first
   | refine A5 ?_
   | refine FC ?_
   | refine Ca ?_
   | refine U9 ?_
   | refine Ads ?_
  | (with_reducible show At _ _ _ _ _);with_reducible first
   | refine VA ?_
   | refine Ow ?_
   | refine XL ?_
   | refine KT ?_
   | refine AfB ?_
   | refine Acd ?_
   | refine Aa0 ?_
   | refine XK Y5 ?_
   | refine Sj ?_
   | refine Ae1 ?_
   | refine QE ?_
  | exact h.h):p:=k ⟨h⟩
theorem AR{p q:Prop}(h:q)(k:Stp q->p:=by
 intro h
 repeat' first
  | (with_reducible show S _ _ _ _ (⟨_,_,_,_,_,TI _⟩::_) _ _);first
   | refine Aj (by with_reducible first | rfl | assumption) ?_
   | refine Als (by with_reducible first | rfl | assumption) ?_
   | refine Alu (by with_reducible first | rfl | assumption) ?_
   | refine IP ?_
  | (with_reducible show S _ _ _ _ (⟨_,.fieldAddr _ _ _,_,_,_,none⟩::_) _ _);refine AJ (Acn Z (by exact Un.e) (by rfl) (by exact Zc.e) Y5) ?_
  | (with_reducible show S _ _ _ _ (⟨_,.load _ _,_,_,_,none⟩::_) _ _);first
   | refine AJ (O2 _ Z (by exact Un.e) (by rfl) (by with_reducible assumption) (by first | exact Yx.e | exact(rfl:Ba _ 0=_) | exact(rfl:Ba _ 1=_) | exact(rfl:Ba _ 2=_) | exact(rfl:Ba _ 3=_) | exact(rfl:Ba _ 4=_) | exact(rfl:Ba _ 5=_) | exact(rfl:Ba _ 6=_) | exact(rfl:Ba _ 7=_) | exact(rfl:Ba _ 8=_) | exact(rfl:Ba _ 9=_) | exact(rfl:Ba _ 10=_) | exact(rfl:Ba _ 11=_) | exact(rfl:Ba _ 12=_) | exact(rfl:Ba _ 13=_) | exact(rfl:Ba _ 14=_) | exact(rfl:Ba _ 15=_) | exact(rfl:Ba _ 16=_) | exact(rfl:Ba _ 17=_) | exact(rfl:Ba _ 18=_) | exact(rfl:Ba _ 19=_)) (by rfl)) ?_
   | refine AJ (Aco (by exact Un.e) (by rfl) (by with_reducible assumption) (by first | exact Yx.e | exact(rfl:Ba _ 0=_) | exact(rfl:Ba _ 1=_) | exact(rfl:Ba _ 2=_) | exact(rfl:Ba _ 3=_) | exact(rfl:Ba _ 4=_) | exact(rfl:Ba _ 5=_) | exact(rfl:Ba _ 6=_) | exact(rfl:Ba _ 7=_) | exact(rfl:Ba _ 8=_) | exact(rfl:Ba _ 9=_) | exact(rfl:Ba _ 10=_) | exact(rfl:Ba _ 11=_) | exact(rfl:Ba _ 12=_) | exact(rfl:Ba _ 13=_) | exact(rfl:Ba _ 14=_) | exact(rfl:Ba _ 15=_) | exact(rfl:Ba _ 16=_) | exact(rfl:Ba _ 17=_) | exact(rfl:Ba _ 18=_) | exact(rfl:Ba _ 19=_)) (by exact Zc.e) (by rfl)) ?_
  | (with_reducible show S _ _ _ _ (⟨_,.call _,_,_,_,none⟩::_) _ _);refine sE (ht:=⟨(by exact Un.e)⟩) (by with_reducible assumption) ?_
  | (with_reducible show S _ _ _ _ (⟨_,.pick _ _ _,_,_,_,none⟩::_) _ _);first
   | refine sF (by with_reducible first | rfl | assumption) Z ?_
   | refine sG (by with_reducible first | rfl | assumption) Z ?_
  | (with_reducible show S _ _ _ _ (⟨_,.binOp _ _ _ _ _,_,_,_,none⟩::_) _ _);first
   | refine sI Z ?_
   | refine AJ (AeS (by first | with_reducible assumption | assumption)) ?_
  | (with_reducible show S _ _ _ _ (⟨_,_,_,_,_,none⟩::_) _ _);refine sI Z ?_
  | (with_reducible show S _ _ _ _ _ _ _);(fail_if_success (with_reducible show S _ _ _ _ (_::_) _ _));first
   | refine AmR Z ?_
   | (with_reducible show S _ _ _ (Si _ _ _) _ _ _);refine Ap ?_
   | refine HX ?_
  | (with_reducible show W _ _ _ _ _ _);with_reducible first
   | refine A5 ?_
   | refine FC ?_
   | refine Ca ?_
   | refine U9 ?_
   | refine Ads ?_
   | refine A4 ?_
   | (fail_if_success (show W _ _ (.seq (.region _ _ _) _) _ _ _));refine PW ?_
  | (with_reducible show At _ _ _ _ _);with_reducible first
   | refine VA ?_
   | refine Ow ?_
   | refine XL ?_
   | refine KT ?_
   | refine AfB ?_
   | refine Acd ?_
   | refine Aa0 ?_
   | refine XK Y5 ?_
   | refine Sj ?_
   | refine Ae1 ?_
   | refine QE ?_
  | exact h.h):p:=k ⟨h⟩
def Bu{p:Prop}(k:p:=by
 refine Af ?_
 cases ‹TI _=TI _›
 refine AD Z ?_;exact⟨AB.ext (by assumption),Z⟩):p:=k
end Go.E
end
noncomputable section
namespace Go
abbrev No:Int->Value:=Value.int .i64
abbrev TO:Value:=.slice none 0 0
abbrev SX(b:Nat):Value:=.pointer (TI ⟨b,0,none⟩)
abbrev Pg(l:Qm):Value:=.string ⟨l.toArray⟩
abbrev Wl:=Qm
abbrev PG:LR:=[.int .i64 0,.slice none 0 0,.string ⟨([]:Qm).toArray⟩,.slice none 0 0,.int .i64 0,.int .i64 0,.slice none 0 0]
end Go
namespace Go.Proofs.YtgaljodghpgdmaaGreatDoor
open Go Go.E Go.RowKit Go.L
open _root_.Go.Proofs.Tryz
abbrev un3:=Un.mk TQ
abbrev un9:=Un.mk TH
abbrev AnT:=Un.mk Adh
abbrev AnU:=Un.mk Jk
abbrev AnV:=Un.mk LS
abbrev AnW:=Un.mk U5
abbrev AnX:=Un.mk Vv
abbrev AnY:=Un.mk Xe
abbrev AnZ:=Un.mk Aer
abbrev Aoa:=Un.mk Xi
abbrev Aob:=Un.mk Agt
abbrev Aoc:=Un.mk YL
abbrev Aod:=Un.mk Ag9
abbrev Aoe:=Un.mk Sf
abbrev Aof:=Un.mk QW
abbrev Aog:=Un.mk VV
abbrev Aoh:=Un.mk Vz
abbrev Aoi:=Un.mk KR
abbrev Aoj:=Un.mk LO
abbrev Aok:=Un.mk RO
abbrev Aol:=Un.mk Aho
abbrev Aom:=Un.mk VX
abbrev Aon:=Un.mk PT
abbrev AmS:=Un.mk WD
abbrev AmT:=Un.mk Tk
abbrev AmU:=Un.mk Z6
abbrev AmV:=Un.mk Ajs
abbrev AmW:=Un.mk Zz
abbrev AmX:=Un.mk Aju
abbrev AmY:=Un.mk Aj0
abbrev AmZ:=Un.mk IL
abbrev Ana:=Un.mk RF
abbrev Anb:=Un.mk Aj8
abbrev Anc:=Un.mk Akp
abbrev Ane:=Un.mk AkN
abbrev Anf:=Un.mk R4
abbrev zc3:=Zc.mk DW.e
abbrev zc9:=Zc.mk E7.e
abbrev Aoo:=Zc.mk Up.e
abbrev Aop:=Zc.mk Nu.e
abbrev Aoq:=Zc.mk VM.e
abbrev Aor:=Zc.mk Bs.e
abbrev Aos:=Zc.mk AmL.e
abbrev Aot:=Zc.mk O7.e
abbrev Aou:=Zc.mk Ahw.e
abbrev Aov:=Zc.mk QL.e
abbrev Aow:=Zc.mk AjK.e
abbrev Aox:=Zc.mk QM.e
abbrev Aoy:=Zc.mk Av.e
abbrev Aoz:=Zc.mk AjL.e
abbrev Ao0:=Zc.mk AnR.e
abbrev Ao1:=Zc.mk Is.e
abbrev Ao2:=Zc.mk Ahx.e
abbrev Ao3:=Zc.mk HY.e
abbrev Ao4:=Zc.mk AnS.e
abbrev Ang:=Zc.mk O8.e
abbrev Anh:=Zc.mk F1.e
abbrev Ani:=Zc.mk O9.e
abbrev Anj:=Zc.mk LU.e
attribute [instance] un3 un9 AnT AnU AnV AnW AnX AnY AnZ Aoa Aob Aoc Aod Aoe Aof Aog Aoh Aoi Aoj Aok Aol Aom Aon AmS AmT AmU AmV AmW AmX AmY AmZ Ana Anb Anc Ane Anf zc3 zc9 Aoo Aop Aoq Aor Aos Aot Aou Aov Aow Aox Aoy Aoz Ao0 Ao1 Ao2 Ao3 Ao4 Ang Anh Ani Anj
end Go.Proofs.YtgaljodghpgdmaaGreatDoor
end
noncomputable section
namespace Go
abbrev Li:=Wl×Int×Int×Wl
end Go
namespace Go.Proofs.YtgaljodghpgdmaaGreatDoor
open Go Go.E Go.RowKit Go.L
set_option maxHeartbeats 1000000
set_option maxRecDepth 10000
open _root_.Go.Proofs.Tryz
def Af2(a0:Wl)(a1:Wl):Option Int:=
 TI ((Lib.compareBytes a0 a1))
abbrev Pd[Dr](f:FuncId)(a:LR)(w:World)(R:Value->World->Prop):=Ok prog f a w (λv w'=>Ext w w'/\R v w')
section
variable(w:World)(H:PH)(hH:Le H (hp w)) include hH
theorem Anz[Dr]{a0 a1:Wl}{r:Int}(h:Af2 a0 a1=TI r):
  Pd 186 [Pg a0,Pg a1] w (λv w'=>v=No r):=by
 refine Ai 8 [(0,(Pg a0)),(1,(Pg a1))] func186 Z λhL=>Af ?_;refine AJ (AlM func250 SF SF Z Z)<|Bu
def strings_Compare(a0:Wl)(a1:Wl):Option Int:=
 Xd (Af2 a0 a1) (λa=>TI a)
theorem K2[Dr]{a0 a1:Wl}{r:Int}(h:strings_Compare a0 a1=TI r):
  Pd 142 [Pg a0,Pg a1] w (λv w'=>v=No r):=by
 refine Ai 8 [(0,(Pg a0)),(1,(Pg a1))] func142 Z λhL=>Af ?_;refine Ah h λe a h=>Al hL (Anz _ _ (Ae hL) a) λf c d b=>Bu
def cmp_isNaN_int(a0:Int):Option Bool:=
 TI (!decide (a0=a0))
theorem Qg[Dr]{a0:Int}{r:Bool}(h:cmp_isNaN_int a0=TI r):
  Pd 187 [No a0] w (λv w'=>v=.bool r):=by
 refine Ai 6 [(0,No a0)] func187 Z λhL=>Bu
def HZ(a0 a1:Int):Option Int:=
 Xd (cmp_isNaN_int a0) (λb=>Xd (cmp_isNaN_int a1) (λa=>if b then(if a then TI (0)else TI ((-1)))else(if a then TI (1)else(if a0<a1 then TI ((-1))else(if a1<a0 then TI (1)else TI (0))))))
theorem Aa8[Dr]{a0 a1 r:Int}(h:HZ a0 a1=TI r):
  Pd 143 [No a0,No a1] w (λv w'=>v=No r):=by
 refine Ai 20 [(0,No a0),(1,No a1)] func143 Z λhL=>Af ?_;refine Ah h λp e h=>Al hL (Qg _ _ (Ae hL) e) λq l a j=>Af ?_;refine Ah h λs f h=>Al a (Qg _ _ (Ae a) f) λt m o k=>AR ?_;refine AH h ?_ ?_<;>intro g h
 ·refine AR ?_;refine AH h ?_ ?_<;>intro i h
  ·exact Bu
  exact Bu
 refine AR ?_;refine AH h ?_ ?_<;>intro b h
 ·exact Bu
 refine AR ?_;refine Ar h ?_ ?_<;>intro c h
 ·exact Bu
 refine AR ?_;refine Ar h ?_ ?_<;>intro d h
 ·exact Bu
 exact Bu
def Qja:Option Int:=
 TI (0)
def EF(a0:SB):Int->Option ((Int)⊕(Int)):=λa=>
 if a<(a0.length:Int)then Ay (0<=a/\a<(a0.length:Int)) (if a0.getD a.toNat Qq7=0 then Ay (AL (a+1)) (TI (Sum.inl (a+1)))else Sh Sum.inr (TI (a0.getD a.toNat Qq7)))else Sh Sum.inr Qja
def AbY(a0:SB)(s:Int):Option Int:=Go.L.run (EF a0) s
def QP(a0:SB):Option Int:=
 (AbY a0) (0:Int)
theorem Lfq[Dr]{a0:SB}{b:Value}(g:As (.int .i64) H b a0){r:Int}(h:QP a0=TI r):
  Pd 141 [b] w (λv w'=>v=No r):=by
 refine Ai 18 [(0,b)] func141 Z λhL=>Af ?_;refine AA Unit (λ(_:Unit)=>[(3,No 0)]) (λ(_:Unit) wr=>AB w [] wr/\Qja=TI r) ?_ ?_
 ·refine Af ?_;refine A4 ?_;obtain⟨e,h⟩:=Ax h;refine AF (Int×Nat) (λ⟨a,n⟩=>[(3,No 0),(6,b),(7,No (a0.length:Int)),(8,No a)]) (λ⟨a,n⟩ wr=>AB w [] wr/\D6 (EF a0) n a=TI r) (λ⟨a,n⟩=>n) (0,e) Z ⟨hL,h⟩ ?_;rintro⟨a,nn36⟩ l ⟨c,h⟩;obtain⟨e,q,rfl,h,d⟩:=Aw h;refine AR ?_;refine Ar h ?_ ?_<;>intro i h
  ·refine AR ?_;refine Ag h λf h=>A1 g a.toNat (BP f) (An f) ?_;rintro s _ rfl j;refine sH j (hH.trans c.arg)<|Af ?_;refine Bt h ?_ ?_<;>intro k h
   ·have h:=AX.out h d;exact Bu
   refine Ag h λm h=>Af ?_;have h:=AX.again h d;refine Ak (_,_) Z ⟨c,h⟩
  have h:=AX.out h d;refine Af ?_;refine Am () ⟨c,h⟩
 rintro _ o ⟨p,h⟩;exact Bu
end
def JE(a0:Li)(a1:Li):Option Int:=
 Xd (strings_Compare a0.1 a1.1) (λc=>Xd (HZ a0.2.1 a1.2.1) (λd=>Xd (HZ a0.2.2.1 a1.2.2.1) (λe=>Xd (strings_Compare a0.2.2.2 a1.2.2.2) (λa=>Xd (QP ([c,d,e,a])) (λb=>TI b)))))
def QkQ[Dr](w:World)(H:PH)(hH:Le H (hp w)){a0 a1:Li}{r:Int}(h:JE a0 a1=TI r):
  Ok prog 91 [.agg #[Pg a0.1,No a0.2.1,No a0.2.2.1,Pg a0.2.2.2],.agg #[Pg a1.1,No a1.2.1,No a1.2.2.1,Pg a1.2.2.2]] w (λv w'=>Ext w w'/\v=No r):=by
 refine Ai 27 [(0,.agg #[Pg a0.1,No a0.2.1,No a0.2.2.1,Pg a0.2.2.2]),(1,.agg #[Pg a1.1,No a1.2.1,No a1.2.2.1,Pg a1.2.2.2])] func91 Z λhL=>A5<|B6 (t:=112) Z Z hL λw1 b1 i x _=>B6 (t:=112) Z Z i λw2 b2 j y _=>BJ 1 Z<|BF (Zt 0 20 (.h 20 (.q 21 (.q 22 (.tail 23))))) mixed SF (λw3 k=>?_);have a:=j.call k;refine Bh Z (A7 Z Zz Z E7.e) Z<|Bh Z (AG 1 Z a Z) Z<|Bh Z (A7 Z Zz Z E7.e) Z<|Bh Z (AG 0 Z a Z) Z<|Ah h λz m h=>DY Z Z Z (λw6 ag=>K2 _ _ (Le.refl _) m)<|Bh Z (A7 Z Zz Z DW.e) Z<|Bh Z (AG 1 Z a Z) Z<|Bh Z (A7 Z Zz Z DW.e) Z<|Bh Z (AG 0 Z a Z) Z<|Ah h λx7 o h=>DY Z Z Z (λw8 ah=>Aa8 _ _ (Le.refl _) o)<|Bh Z (A7 Z Zz Z DW.e) Z ?_
 refine Bh Z (AG 1 Z a Z) Z<|Bh Z (A7 Z Zz Z DW.e) Z<|Bh Z (AG 0 Z a Z) Z<|Ah h λx9 p h=>DY Z Z Z (λai ac=>Aa8 _ _ (Le.refl _) p)<|Bh Z (A7 Z Zz Z E7.e) Z<|Bh Z (AG 1 Z a Z) Z<|Bh Z (A7 Z Zz Z E7.e) Z<|Bh Z (AG 0 Z a Z) Z<|Ah h λs c h=>DY Z Z Z (λaj ad=>K2 _ _ (Le.refl _) c)<|St [z,x7,x9,s] (r:=(.int .i64)) Z Z (λ_=>AeL _ _ _ _ _) Z (Bk 4) hH a (.c1 Z (.c1 Z (.c1 Z (.c1 Z .nil)))) λak al ae b u d=>Ah h λam e h=>DY Z Z Z (λan f=>Lfq _ _ (Le.refl _) ((d.mono (Ae b)).mono f.le) e)<|Br 1 Z<|AT (λao g=>?_);have af:=b.call g;exact Bu
def PB(a0:Wl)(a1:Wl):Option Int:=
 TI ((Lib.compareBytes a0 a1))
section
variable(w:World)(H:PH)(hH:Le H (hp w)) include hH
theorem QzZ[Dr]{a0 a1:Wl}{a b:Value}(c:As .byte H a a0)(d:As .byte H b a1){r:Int}(h:PB a0 a1=TI r):
  Pd 126 [a,b] w (λv w'=>v=No r):=by
 refine Ai 8 [(0,a),(1,b)] func126 Z λhL=>Af ?_;refine AJ (AlL func172 SF SF c (hH.trans hL.arg) d (hH.trans hL.arg))<|Bu
end
def OB(a0 a1:Int)(a:Wl):Option Int:=
 Ay (0<=a0/\a0<=(a.length:Int)) (Ay (0<=a1/\a1<=(a.length:Int)) (Xd (PB (a.drop a0.toNat) (a.drop a1.toNat)) (λb=>TI b)))
def Qq3[Dr](w:World)(H:PH)(hH:Le H (hp w)){a0 a1:Int}{g:Wl}{b:Value}{f:Addr}(c:As .byte H b g)(d:Gp H f [b]){r:Int}(h:OB a0 a1 g=TI r):
  Ok prog 125 [No a0,No a1,.pointer (TI f)] w (λv w'=>Ext w w'/\v=No r):=by
 refine Ai 13 [(0,No a0),(1,No a1),(2,.pointer (TI f))] func125 Z λhL=>Bx 1 Z<|BF (Zt 0 8 (.tail 8)) mixed SF (λt i=>?_);have a:=hL.call i;refine Bh Z (B5 d (hH.trans a.arg)) Z<|Br 1 Z<|Ag h λj h=>PZ Z Z LS c j Z λu k=>Bh Z (B5 d (hH.trans a.arg)) Z<|Br 1 Z<|Ag h λl h=>PZ Z Z LS c l Z λx m=>Ah h λy o h=>DY Z Z Z (λz e=>QzZ _ _ (Le.refl _) ((k.mono (hH.trans a.arg)).mono e.le) ((m.mono (hH.trans a.arg)).mono e.le) o)<|Br 1 Z<|AT (λw9 p=>?_);have s:=a.call p;exact Bu
end Go.Proofs.YtgaljodghpgdmaaGreatDoor
end
noncomputable section
namespace Go.E
open Go Go.RowKit
instance AoH:Dr:=⟨false⟩
def Ext.off{w w':World}(h:Below w.heap.size w w'):Ext w w':=⟨h,λo=>absurd o Y5⟩
open Go.Sort Go.Proofs Go.Shelf
def Acp[Dr]{w w':World}(hd:Dr.on=true)(h:Ext w w'):∃q os,w'=grow (w.drewN q) os:=by
 refine⟨w'.drawn - w.drawn,w'.heap.extract w.heap.size w'.heap.size,?_⟩;have hd:=h.drawn hd
 have hh:w.heap++w'.heap.extract w.heap.size w'.heap.size=w'.heap:=by
  apply Array.ext_getElem?;intro k
  rcases TC k w.heap.size with hk | hk
  ·rw[Ug hk,h.block k hk]
  ·rw[Array.getElem?_append_right hk,Array.getElem?_extract];have:=h.size
   split
   ·congr 1;omega
   ·rw[Qo U]
 obtain⟨heap,tape,drawn,os,output⟩:=w;obtain⟨heap',tape',drawn',os',output'⟩:=w';have a:=h.os;have h2:=h.tape;have h3:=h.output;simp only at a h2 h3 hd hh;subst a;subst h2;subst h3;simp only[grow,World.drewN,World.mk.injEq,and_true,true_and];exact⟨hh.symm,by omega⟩
section
variable {α:Type} [Inhabited α]
def OC(enc:α->Value)(w:World)(g m:Nat)(d:Array α)(os:Array Obj)(k:Nat)(hk:k<w.heap.size):(sortWorld enc w g 0 m d os).heap[k]? = if k=g then(w.heap[k]?).map (onCells (putCells enc 0 d))else w.heap[k]?:=by
 unfold sortWorld grow putRow mapBlock Sort.ahead;simp only;rw[Ug (by simpa using hk),Array.getElem?_modify]
 by_cases h:g=k
 ·subst h;simp
 ·rw[Pb h,Pb (λe=>h e.symm)]
def RC(enc:α->Value)(w:World)(g m:Nat)(d:Array α)(os:Array Obj):w.grownBy (sortWorld enc w g 0 m d os) (TI g):=
 ⟨Z,Z,Z,by simp[sortWorld,grow,putRow,mapBlock,Sort.ahead],λk hk hne=>by rw[OC enc w g m d os k hk,Pb (λe=>hne (by rw[e]))]⟩
def Qkw(enc:α->Value)(d:Array α)(c:Array Value)(h:d.size<=c.size):(putCells enc 0 d c).toList.take d.size=d.toList.map enc:=by
 apply List.ext_getElem?;intro k;rw[Tm]
 by_cases hk:k<d.size
 ·rw[Xu hk];have hkc:k<c.size:=by omega
  simp[putCells,hk,hkc]
 ·rw[Pb hk,List.getElem?_eq_none U]
def AeT{enc:α->Value}{w:World}{e:TypeId}{g cap n sz m:Nat}{xs:LR}{d:Array α}{os:Array Obj}(ho:w.ownsRow 0 e sz (.slice (TI ⟨g,0,none⟩) n cap) n xs)(hl:d.size=xs.length):
  (sortWorld enc w g 0 m d os).ownsRow 0 e sz (.slice (TI ⟨g,0,none⟩) n cap) n (d.toList.map enc):=by
 obtain⟨a,h2⟩:=ho;refine⟨by simp;omega,?_⟩
 rcases h2 with ⟨hc,_⟩ | ⟨g',cap',cur,hv,hb,hg,hnc,hcm,hcs,htake⟩
 ·cases hc
 ·cases hv
  have hgl:=lt_of_heap hg;have hle:n * sz<=cap * sz:=Wp _ hnc;refine .inr ⟨g,cap,putCells enc 0 d cur,Z,hb,?_,hnc,hcm,by simp[putCells,hcs],?_⟩
  ·rw[OC enc w g m _ os g hgl,Xu Z,hg]
   rfl
  ·have:=Qkw enc d cur U;rw[show n * sz=d.size by omega];exact this
def Ts(enc:α->Value){w:World}{e:TypeId}{g cap n sz:Nat}{xs:LR}(d:Array α)(ho:w.ownsRow 0 e sz (.slice (TI ⟨g,0,none⟩) n cap) n xs)(hd:d.toList.map enc=xs):Holds enc w g 0 d/\g<w.heap.size:=by
 obtain⟨b,h2⟩:=ho;have hsz:d.size=xs.length:=by rw[<- hd];simp
 rcases h2 with ⟨hc,_⟩ | ⟨g',cap',cur,hv,hb,hg,hnc,hcm,hcs,htake⟩
 ·cases hc
 ·cases hv
  have hle:n * sz<=cap * sz:=Wp _ hnc;refine⟨λj hj=>?_,lt_of_heap hg⟩
  constructor
  ·have a:xs[j]? = TI (enc d[j]!):=by rw[<- hd];simp[hj]
   have:cur.toList[j]? = TI (enc d[j]!):=by
    rw[<- htake,Tm,Xu U]at a;exact a
   simp only[World.cell?,hg,Q8]
   simpa using this
  ·simp[World.frozen?,hg]
end
def AjY{w:World}{e:TypeId}{g cap n q:Nat}{xs:LR}(ho:w.ownsRow 0 e 1 (.slice (TI ⟨g,0,none⟩) n cap) n xs)(hq:q<=n):w.ownsRow 0 e 1 (.slice (TI ⟨g,0,none⟩) q cap) q (xs.take q):=by
 obtain⟨a,h2⟩:=ho
 rcases h2 with ⟨hc,_⟩ | ⟨g',cap',cur,hv,hb,hg,hnc,hcm,hcs,htake⟩
 ·cases hc
 ·cases hv
  refine⟨by rw[Y4,a];omega,.inr ⟨g,cap,cur,Z,hb,hg,by omega,hcm,hcs,?_⟩⟩;rw[<- htake,List.take_take,Z5,Z5,VW hq]
section
variable {P:Program}{n:Sz}{ops:Array Oper}{Q:Exit->Act->World->Prop}{L:ZC}{w w0:World}{O:List Bv}{rest:List Oper}{d:Nat}{ty:TypeId}{pos:String}{af:Array Edge}{v:Value}{e:TypeId}{H:PH}{α β:Type} [Inhabited β] {r:Rp α}
def Yy[Dr]{f i sz:Nat}{at_:Array TypeId}{args:List Operand}{l l':List α}{xs ys:LR}{dd:Array β}{enc:β->Value}{fa:LR}(hc:IN P f)(ha:U8 L args=TI (v::fa))(hn:Uu d n.n=true)(hL:AB w0 O w)(hi:Ba O i=TI (.row v e sz l.length xs))(hd:dd.toList.map enc=ys)(hl:l'.length=l.length)(hy:ys.length=xs.length)(hys:l.length=0->ys=xs)
  (hnil:v=.slice none 0 0->Calls P f (v::fa).toArray w λe w'=>e=.returned (.tuple #[])/\w'=w)
  (hs:∀g cap,v=.slice (TI ⟨g,0,none⟩) l.length cap->l.length<=cap->Calls P f (v::fa).toArray w λe w'=>e=.returned (.tuple #[])/\∃m os,w'=sortWorld enc w g 0 m dd os)
  (h:∀w',AB w0 (Ci O i (.row v e sz l'.length ys)) w'->Le (fz w O) (fz w' (Ci O i (.row v e sz l'.length ys)))->S P n ops Q rest ((d,.tuple #[])::L) w') :
  S P n ops Q (⟨TI d,.call ⟨.value (.func f),args.toArray,at_⟩,ty,pos,af,none⟩::rest) L w:=by
 have hown:w.ownsRow 0 e sz v l.length xs:=hL.at hi;rw[hl]at h
 rcases hown.2 with ⟨hv,c⟩ | ⟨j,cap,cur,hv,k,o,hnc,_⟩
 ·refine UA Z λa fr=>?_;unfold Oper.wp;rw[KU hc ha _ fr.Wz];refine(hnil hv).mono λen w' ⟨he,hw⟩=>?_;subst he;subst hw;have hyx:=hys c;subst hyx;exact h w' (hL.KV hi (KN _) (World.grownBy.refl _ _) (hL.at hi) (λb e=>.inl e)) (ES (r':=.row v e sz l.length ys) hL hi (World.grownBy.refl _ _) (λb e=>.inl e)) _ (fr.put hn)
 ·refine UA Z λa fr=>?_;unfold Oper.wp;rw[KU hc ha _ fr.Wz];refine(hs j cap hv hnc).mono λen w' ⟨he,m,os,hw⟩=>?_;subst he;have hgr:=RC enc w j m dd os;rw[<- hw]at hgr
  have hok:(Bv.row v e sz l.length ys).ok w':=by
   rw[hw,hv,<- hd];refine AeT (by rw[<- hv];exact hown) ?_;have:dd.toList.length=ys.length:=by rw[<- hd];simp
   simpa[hy]using this
  have hdr:w.drawn<=w'.drawn:=by rw[hw];exact Nat.le_add_right _ _
  have hgr':w.grownBy w' (Bv.row v e sz l.length xs).block:=by rw[hv];exact hgr
  exact h w' (hL.KV hi hdr hgr' hok (λb e=>.inl e)) (ES (r':=.row v e sz l.length ys) hL hi hgr' (λb e=>.inl e)) _ (fr.put hn)
def AfF[Dr]{f i:Nat}{at_:Array TypeId}{args:List Operand}{l:List α}{l':List β}{z:β}{xs:LR}{enc:β->Value}(hc:IN P f)(ha:U8 L args=TI [v])(hn:Uu d n.n=true)(hL:AB w0 O w)(hi:Ba O i=TI (.row v e 1 l.length xs))(hle:l'.length<=l.length)
  (hnil:v=.slice none 0 0->Calls P f #[v] w λe w'=>e=.returned v/\w'=w)
  (hs:∀g cap,v=.slice (TI ⟨g,0,none⟩) l.length cap->l.length<=cap->Calls P f #[v] w λe w'=>e=.returned (.slice (TI ⟨g,0,none⟩) l'.length cap)/\∃q,w'=putRow enc (Sort.ahead w q) g 0 (l'++Xk (l.length - l'.length) z).toArray)
  (h:∀v' w',AB w0 (Ci O i (.row v' e 1 l'.length (l'.map enc))) w'->Le (fz w O) (fz w' (Ci O i (.row v' e 1 l'.length (l'.map enc))))->S P n ops Q rest ((d,v')::L) w') :
  S P n ops Q (⟨TI d,.call ⟨.value (.func f),args.toArray,at_⟩,ty,pos,af,none⟩::rest) L w:=by
 have hown:w.ownsRow 0 e 1 v l.length xs:=hL.at hi
 rcases hown.2 with ⟨hv,k⟩ | ⟨c,cap,cur,hv,t,u,hnc,_⟩
 ·have o:l'=[]:=Vu U;subst o;refine UA Z λa fr=>?_;unfold Oper.wp;rw[KU hc ha _ fr.Wz];refine(hnil hv).mono λen w' ⟨he,hw⟩=>?_;subst he;subst hw;have p:xs=[]:=Vu (by rw[hown.1,k])
  have hok:(Bv.row v e 1 ([]:List β).length (([]:List β).map enc)).ok w':=by
   have:=hL.at hi;rw[k,p]at this;exact this
  exact h v w' (hL.KV hi (KN _) (World.grownBy.refl _ _) hok (λb e=>.inl e)) (ES (r':=.row v e 1 ([]:List β).length (([]:List β).map enc)) hL hi (World.grownBy.refl _ _) (λb e=>.inl e)) _ (fr.put hn)
 ·refine UA Z λa fr=>?_;unfold Oper.wp;rw[KU hc ha _ fr.Wz];refine(hs c cap hv hnc).mono λen w' ⟨he,q,hw⟩=>?_;subst he;have j:w'=sortWorld enc w c 0 q (l'++Xk (l.length - l'.length) z).toArray #[]:=by rw[hw];unfold sortWorld;rw[grow_empty]
  have hgr:=RC enc w c q (l'++Xk (l.length - l'.length) z).toArray #[];rw[<- j]at hgr
  have hok:(Bv.row (.slice (TI ⟨c,0,none⟩) l'.length cap) e 1 l'.length (l'.map enc)).ok w':=by
   have s:w'.ownsRow 0 e 1 (.slice (TI ⟨c,0,none⟩) l.length cap) l.length ((l'++Xk (l.length - l'.length) z).map enc):=by
    have r:=AeT (enc:=enc) (m:=q) (d:=(l'++Xk (l.length - l'.length) z).toArray) (os:=#[]) (by rw[<- hv];exact hown) (by have:=hown.1;simp;omega);rw[<- j]at r
    simpa using r
   have h2:=AjY s hle
   rwa [List.map_append,List.take_left' Rg]at h2
  have hdr:w.drawn<=w'.drawn:=by rw[j];exact Nat.le_add_right _ _
  have hgr':w.grownBy w' (Bv.row v e 1 l.length xs).block:=by rw[hv];exact hgr
  have hb:∀b,(Bv.row (.slice (TI ⟨c,0,none⟩) l'.length cap) e 1 l'.length (l'.map enc)).block=TI b->(Bv.row v e 1 l.length xs).block=TI b:=λb e=>by rw[hv];exact e
  exact h _ w' (hL.KV hi hdr hgr' hok (λb e=>.inl (hb b e))) (ES (r':=.row (.slice (TI ⟨c,0,none⟩) l'.length cap) e 1 l'.length (l'.map enc)) hL hi hgr' (λb e=>.inl (hb b e))) _ (fr.put hn)
end
theorem Yz{H:PH}{l:SB}{xs:LR}(h:Ao (.int .i64) H l xs):l.map (Value.int .i64)=xs:=by
 induction h with
 | nil=>rfl
 | cons h _ ih=>cases h;rw[Yu,ih];rfl
theorem UL(H:PH):∀l:SB,Ao (.int .i64) H l (l.map (Value.int .i64))
 | []=>.nil
 | _::l=>.cons (c:=[_]) Z (UL H l)
section
variable {P:Program}{n:Sz}{ops:Array Oper}{Q:Exit->Act->World->Prop}{L:ZC}{w w0:World}{O:List Bv}{rest:List Oper}{d:Nat}{ty:TypeId}{pos:String}{af:Array Edge}{v:Value}{e:TypeId}{H:PH}{ρr:Go.Shelf.Ren}{f i:Nat}{at_:Array TypeId}{args:List Operand}{xs:LR}
def Ms(l:SB):SB:=Go.L.ZH (λx y=>decide (x<=y)) l
def UM(l:SB):Ms l=l.mergeSort λx y=>decide (x<=y):=Go.L.Ss _ l
def X6[Dr]{l:SB}(Ls:Lays.n189 P ρr)[hf:V9 (ρr.f 189) f](hc:IN P f)(ha:U8 L args=TI [v])[hn:V9 (Uu d n.n) true](hH:Le H (hp w0))(hL:AB w0 O w)(hi:Ba O i=TI (.row v e 1 l.length xs))(he:Ao (.int .i64) (gz H w0 w O) l xs)(hlen:l.length<4611686018427387904)
  (h:∀w' xs',AB w0 (Ci O i (.row v e 1 (Ms l).length xs')) w'->Le (fz w O) (fz w' (Ci O i (.row v e 1 (Ms l).length xs')))->Ao (.int .i64) (gz H w0 w' (Ci O i (.row v e 1 (Ms l).length xs'))) (Ms l) xs'->S P n ops Q rest ((d,.tuple #[])::L) w') :
  S P n ops Q (⟨TI d,.call ⟨.value (.func f),args.toArray,at_⟩,ty,pos,af,none⟩::rest) L w:=by
 have hf:=hf.e
 have hxs:=Yz he;have hll:(Ms l).length=l.length:=by rw[UM];exact YJ _
 subst hf;refine Yy (l':=Ms l) (enc:=Value.int .i64) (dd:=(Ms l).toArray) (ys:=(Ms l).map (Value.int .i64)) hc ha hn.e hL hi Rg hll (by rw[<- hxs];simp[hll]) (λa=>?_) (λhv=>?_) (λg cap hv hcap=>?_) (λw' b h2=>h w' _ b h2 (UL _ _))
 ·have:l=[]:=Vu a;subst this;rw[<- hxs,show Ms []=[]from Z]
 ·subst hv;exact Any.slices_Sort_int_none Ls none 0 w
 ·have hown:w.ownsRow 0 e 1 v l.length xs:=hL.at hi;rw[hv]at hown;obtain⟨hH',hblk⟩:=Ts (Value.int .i64) l.toArray hown (by simpa using hxs);subst hv;simp only[UM];exact Any.slices_Sort_int Ls g 0 cap l w hH' hblk hlen
def Y0{α:Type}[Inhabited α][DecidableEq α](l:List α):(Lib.compact l).length<=l.length:=by
 unfold Lib.compact Lib.compactUpTo;rw[Vx];exact Nat.le_trans (List.length_filter_le _ _) Rg
def X7[Dr]{l:SB}(Ls:Lays2.n20 P ρr)[hf:V9 (ρr.f 20) f](hc:IN P f)(ha:U8 L args=TI [v])[hn:V9 (Uu d n.n) true](hH:Le H (hp w0))(hL:AB w0 O w)(hi:Ba O i=TI (.row v e 1 l.length xs))(he:Ao (.int .i64) (gz H w0 w O) l xs)(hlen:l.length<=9223372036854775807)
  (h:∀v' w' xs',AB w0 (Ci O i (.row v' e 1 (Lib.compact l).length xs')) w'->Le (fz w O) (fz w' (Ci O i (.row v' e 1 (Lib.compact l).length xs')))->Ao (.int .i64) (gz H w0 w' (Ci O i (.row v' e 1 (Lib.compact l).length xs'))) (Lib.compact l) xs'->S P n ops Q rest ((d,v')::L) w') :
  S P n ops Q (⟨TI d,.call ⟨.value (.func f),args.toArray,at_⟩,ty,pos,af,none⟩::rest) L w:=by
 have hf:=hf.e
 have hxs:=Yz he;subst hf;refine AfF (l':=Lib.compact l) (enc:=Value.int .i64) (z:=0) hc ha hn.e hL hi (Y0 l) (λhv=>?_) (λg cap hv hcap=>?_) (λv' w' a h2=>h v' w' _ a h2 (UL _ _))
 ·subst hv;exact Any.slices_Compact_int_empty Ls none 0 w
 ·have hown:w.ownsRow 0 e 1 v l.length xs:=hL.at hi;rw[hv]at hown;obtain⟨hH',hblk⟩:=Ts (Value.int .i64) l.toArray hown (by simpa using hxs);subst hv;exact Any.slices_Compact_int Ls g 0 cap l w hH' hlen hcap
end
structure Cb (P:Program) (a:World) (H:PH) (f:FuncId) (cap:LR) {σ:Type} (J:σ->List Bv->PH->Prop) (step:σ->Qm×Int×Int×Qm->Option σ):Prop where
 mono:∀{s:σ}{R:List Bv}{G G':PH},Le G G'->J s R G->J s R G'
 ok:∀{w:World}{O R:List Bv}{s s':σ}{x:Qm×Int×Int×Qm},AB a (Yt O R) w->J s R (gz H a w (Yt O R))->step s x=TI s'->
  Ok P f (KE x::cap) w (λv w'=>v=.tuple #[]/\∃R':List Bv,AB a (Yt O R') w'/\Le (fz w (Yt O R)) (fz w' (Yt O R'))/\J s' R' (gz H a w' (Yt O R')))
section
variable {P:Program}{n:Sz}{ops:Array Oper}{Q:Exit->Act->World->Prop}{L:ZC}{w w0:World}{O:List Bv}{rest:List Oper}{d:Nat}{ty t t':TypeId}{pos:String}{af:Array Edge}{x y:Operand}{v:Value}{e:TypeId}{pv:Value}
def Ad9{a b:Int}(c : -9223372036854775808<=a/\a<=9223372036854775807/\0<b): -9223372036854775808<=a.tdiv b/\a.tdiv b<=9223372036854775807:=by
 obtain⟨c,h2,h3⟩:=c;have e:(a.tdiv b).natAbs<=a.natAbs:=by rw[Int.natAbs_tdiv];exact Nat.div_le_self _ _
 rcases Int.le_total 0 a with h | h
 ·have d:0<=a.tdiv b:=Int.tdiv_nonneg h U;omega
 ·have d:0<=(-a).tdiv b:=Int.tdiv_nonneg U U;rw[Int.neg_tdiv]at d;omega
def Amd{a b:Int}[hx:V9 (ev L x) (TI (.int .i64 a))][hy:V9 (ev L y) (TI (.int .i64 b))](c : -9223372036854775808<=a/\a<=9223372036854775807/\0<b):AY P L w (.binOp .quo t x y t') ty (.int .i64 (a.tdiv b)):=by
 intro w' _ ρ hρ dst pos af g;have hb:b≠0:=by omega
 have⟨d,e⟩:=Ad9 c;simp[execOp,hρ x _ hx.e,hρ y _ hy.e,eqGuard,binOp,Op.intDiv,hb,wrap64 (x:=a.tdiv b) U U]
def Ame{a b:Int}{k:IntKind}(hx:ev L x=TI (.int k a))(hy:ev L y=TI (.int k b))(c : -9223372036854775808<=a/\a<=9223372036854775807/\0<b):AY P L w (.binOp .rem t x y t') ty (.int k (a.tmod b)):=by
 intro w' _ ρ hρ dst pos af g;have hb:b≠0:=by omega
 simp[execOp,hρ x _ hx,hρ y _ hy,eqGuard,binOp,Op.intDiv,hb]
def ZV(i off:Nat){b:Nat}{cs vs ns:LR}{a:TypeId}{zz:Value}{bt:Nat}(hx:ev L x=TI (.pointer (TI ⟨b,off,none⟩)))[hy:V9 (ev L y) (TI v)][hc:V9 v.cells.toList vs][hz:Qqz P t zz vs.length bt](hL:AB w0 O w)(hi:Ba O i=TI (.box b cs a))(hlen:Nat.ble (off+vs.length) cs.length=true)(hns:cs.take off++vs++cs.drop (off+vs.length)=ns)(c:∀u∈vs,u.oneCell'=true)
  (h:∀w',AB w0 (Ci O i (.box b ns a)) w'->Le (fz w O) (fz w' (Ci O i (.box b ns a)))->S P n ops Q rest L w'):S P n ops Q (⟨none,.store t x y,ty,pos,af,none⟩::rest) L w:=by
 have hc:=hc.e
 subst hc;have hlen':=Nat.le_of_ble_eq_true hlen;obtain⟨inf,d,g,f,j⟩:=hz.e.parts;have hb:w.heap[b]? = TI (.cells cs.toArray a (0,0)):=hL.at hi;have hst:=run_storeCells_at P b off a v.cells.toList 0 cs.toArray w hb (by simp at hlen' ⊢;omega) c;simp only[Pf,TF]at hst;rw[hns]at hst;have hsz:v.cells.size=inf.size:=by rw[f];simp
 refine Oy (w.setRow b ns.toArray) (fun ρ hρ=>by
  simp[execOp,hρ x _ hx,hρ y _ hy.e,Instr.storeAt,Instr.sureAddr,storeVar,sizeOf,typeInfo,d,hsz,hst]) ?_
 have hg:=KW w b ns.toArray
 have hnl:ns.length=cs.length:=by
  rw[<- hns];simp only[T6,Y4,U1];omega
 have hok:Bv.ok (w.setRow b ns.toArray) (.box b ns a):=by
  show(w.setRow b ns.toArray).heap[b]? = _
  exact Ju w b cs.toArray ns.toArray a hb
 exact h _ (hL.KV hi (KN _) hg hok (λb' e=>.inl e)) (ES hL hi hg (λb' e=>.inl e))
def Amf{α:Type}{r:Rp α}{l:List α}{H:PH}{b c:Operand}{k k':IntKind}{zz:Value}{bt:Nat}[hx:V9 (ev L x) (TI v)][hb:V9 (ev L b) (TI (.int k (l.length:Int)))][hc:V9 (ev L c) (TI (.int k' (l.length:Int)))][ht:V9 (P.underlying t) (TI (.slice e))][he:Qqz P e zz r.sz bt](hv:As r H v l)[hn:V9 (Uu d n.n) true]
  (h:∀v',As r H v' l->S P n ops Q rest ((d,v')::L) w):S P n ops Q (⟨TI d,.slice t x none (TI b) (TI c),ty,pos,af,none⟩::rest) L w:=by
 obtain⟨inf,i,q,s,u⟩:=he.e.parts;obtain⟨A,cap,j,o,p,a,f⟩:=hv.ex;subst j
 have hr:∀w,AY P L w (.slice t x none (TI b) (TI c)) ty (.slice A l.length l.length):=λw w' _ ρ hρ dst pos af g=>by
  have m:(l.length:Int)<=(cap:Int):=by omega
  simp[execOp,hρ x _ hx.e,hρ b _ hb.e,hρ c _ hc.e,Instr.sliceAt,run_underlying ht.e,Instr.slice,Instr.sliceBounds,Instr.sliceBound,asIntOf,sizeOf,typeInfo,i,m]
  cases A <;> simp[Addr.add_zero'] <;> (intro h;omega)
 exact AJ (hr w) (hn:=⟨hn.e⟩) (h _ ⟨A,l.length,Z,KN _,by omega,λhA=>by have:=a hA;omega,f⟩)
def Acq{b m e:Nat}{a:Int}{k:IntKind}{zz:Value}{bt len:Nat}(hx:ev L x=TI (.pointer (TI ⟨b,0,none⟩)))[hy:V9 (ev L y) (TI (.int k a))][ht:V9 (P.underlying t) (TI (.array len e))][he:Qqz P e zz 1 bt][hl:V9 (Uu 1 len) true](hm:0<=a/\a<(len:Int))(hmm:a.toNat=m):AY P L w (.indexAddr t x y) ty (.pointer (TI ⟨b,m,none⟩)):=by
 have hl:=hl.e
 intro w' _ ρ hρ dst pos af g;obtain⟨inf,c,f,d,i⟩:=he.e.parts;have hl' : ¬len<=1:=by simp only[Nat.blt_eq]at hl;omega
 have i3':inf.size=1:=by rw[d]
 simp[execOp,hρ x _ hx,hρ y _ hy.e,Instr.indexAt,asIntOf,run_underlying ht.e,Instr.sureAddr,sizeOf,typeInfo,c,i3',hm,hmm,Addr.add];intro h;exact h.symm
def AeU(i m:Nat){b:Nat}{l:SB}{cs:LR}{c:TypeId}{k:IntKind}(hx:ev L x=TI (.pointer (TI ⟨b,m,none⟩)))(ht:P.underlying t=TI (.int k))(hL:AB w0 O w)(hi:Ba O i=TI (.box b cs c))(hcs:l.map (Value.int k)=cs)(hm:m<l.length):AY P L w (.load t x) ty (.int k (l.getD m Qq7)):=by
 subst hcs;have a:=(UC hL hi).add m;rw[Addr.add_lit,Q8]at a
 have h2:(l.map (Value.int k)).drop m=.int k (l.getD m Qq7)::(l.map (Value.int k)).drop (m+1):=by
  rw[List.drop_eq_getElem_cons (by simpa using hm)];simp[hm]
 rw[h2]at a;exact B5 (hx:=⟨hx⟩) (ht:=⟨ht⟩) a (Le.refl _)
def Ah8(m:Nat){b off:Nat}{cs c:LR}{d:TypeId}{dd:TypeDesc}{zz:Value}{bt:Nat}(hx:ev L x=TI (.pointer (TI ⟨b,off,none⟩)))[ht:V9 (P.underlying t) (TI dd)][hd:V9 (Zu dd) true](hz:Zr P t zz c.length bt)(h:w.heap[b]? = TI (.cells cs.toArray d (0,0)))(hc:(cs.drop off).take m=c):AY P L w (.load t x) ty (.agg c.toArray):=by
 have a:=((Ad4 h).add off).part m;rw[hc,Addr.add_lit,Q8]at a;exact AU (hx:=⟨hx⟩) (ht:=⟨ht.e⟩) (hd:=⟨hd.e⟩) (hz:=⟨hz⟩) a (Le.refl _)
def Ah9{u:Value}{dd:TypeDesc}(hx:ev L x=TI (.iface t' u))[ht:V9 (P.underlying t') (TI dd)][hd:V9 (Yl dd) true]:AY P L w (.typeAssert x t t' true) ty (.tuple #[u,.bool true]):=have hd:=hd.e;λw' _ ρ hρ dst pos af g=>by
 cases dd <;> simp[Yl]at hd <;> simp[execOp,hρ x _ hx,Instr.typeAssert,run_underlying ht.e]
def ZW{f:FuncId}{args:List Operand}{vs:LR}{at_:Array TypeId}{dst:Option Tmp}{fst cap:LR}{fo:Operand}(hc:IN P f)(hf:ev L fo=TI (.func (.func f) fst.toArray cap.toArray))(ha:U8 L args=TI vs)(ρ:Operand->Value)(hρ:Xm L ρ):
  (execOp ρ ⟨dst,.call ⟨.value fo,args.toArray,at_⟩,ty,pos,af,none⟩).run P w=.ok (.enter f (fst++vs++cap).toArray) w:=by
 obtain ⟨fn, c, a, h2, h3⟩ := hc;have b := hρ.map _ _ ha;have h2' : ¬fn.name = "runtime.NumGoroutine" := by simpa using h2
 simp[execOp,resolve,hρ fo _ hf,Deferred.ofValue,b,invoke,callFunc,a,h2',h3]
def AjZ{f:FuncId}{args:List Operand}{vs:LR}{at_:Array TypeId}(fst cap:LR){fo:Operand}{R:Value->World->Prop}(hf:ev L fo=TI (.func (.func f) fst.toArray cap.toArray))(ha:U8 L args=TI vs)(hn:Uu d n.n=true)(hok:Ok P f (fst++vs++cap) w R)
  (h:∀v w',R v w'->S P n ops Q rest ((d,v)::L) w'):S P n ops Q (⟨TI d,.call ⟨.value fo,args.toArray,at_⟩,ty,pos,af,none⟩::rest) L w:=
 UA Z λa fr=>by
  unfold Oper.wp;rw[ZW hok.1 hf ha _ fr.Wz];refine hok.2.mono λe w' ⟨v,he,hv⟩=>?_;subst he;exact h v w' hv _ (fr.put hn)
def Acr{f:FuncId}{args:List Operand}{vs:LR}{at_:Array TypeId}(fst cap:LR){fo:Operand}{R:Value->World->Prop}(hf:ev L fo=TI (.func (.func f) fst.toArray cap.toArray))(ha:U8 L args=TI vs)[hn:V9 (Uu d n.n) true](hL:AB w0 O w)(hok:Ok P f (fst++vs++cap) w (λv w'=>Ext w w'/\R v w'))
  (h:∀v w',R v w'->Ext w w'->AB w0 O w'->Le (fz w O) (fz w' O)->S P n ops Q rest ((d,v)::L) w'):S P n ops Q (⟨TI d,.call ⟨.value fo,args.toArray,at_⟩,ty,pos,af,none⟩::rest) L w:=
 AjZ fst cap hf ha hn.e hok λv w' hh=>h v w' hh.2 hh.1 (hL.call hh.1) (A3 hL hh.1)
theorem UN{α:Type}{r:Option α}{f:FuncId}{args:List Operand}{vs:LR}{at_:Array TypeId}(fst cap:LR){fo:Operand}{R:World->α->Value->Prop}{N:World->Prop}(hf:ev L fo=TI (.func (.func f) fst.toArray cap.toArray))(ha:U8 L args=TI vs)[hn:V9 (Uu d n.n) true]
  (hok:ZL P f (fst++vs++cap) w pv (λv w'=>Ze r v (R w') (N w'))) (b:r=none->∀w',N w'->At n Q (.panic (pch pv)) L w')
  (h:∀y,r=TI y->∀v w',R w' y v->S P n ops Q rest ((d,v)::L) w'):S P n ops Q (⟨TI d,.call ⟨.value fo,args.toArray,at_⟩,ty,pos,af,none⟩::rest) L w:=
 UA Z λa fr=>by
  unfold Oper.wp;rw[ZW hok.1 hf ha _ fr.Wz];refine hok.2.mono λe w' k=>?_
  cases e with
  | returned v=>
   cases r with
   | none=>exact k.elim
   | some y=>exact h y Z v w' k _ (fr.put hn.e)
  | panicked c=>
   obtain⟨rfl,k⟩:=k
   cases r with
   | none=>exact b Z w' k a fr
   | some y=>exact k.elim
  | outgrown=>exact k.elim
theorem AhA{σ:Type}{c:Code}(I:σ->ZC)(R:σ->World->Prop)(hx:W P n c (KS n I R Q) L w)(hy:∀s w',R s w'->At n Q .normal (I s) w'):W P n c Q L w:=λa fr=>
 wp_mono (hx a fr) λe a' w' q=>by
  cases e with
  | normal=>obtain⟨s,b,h2⟩:=q;exact hy s w' h2 a' b
  | _=>exact q
def Ik{id:Nat}{l:List Oper}{m:Nat}(hq:I6 Q)(Inv:World->World->Prop)(hm:P.follows .mixedOrders=true)(hl:l.length=m)(h:I6 Q->∀w',Ext w w'->Nw (Inv w') P n l Q m (R8 m []) L w'):W P n (.region id l.toArray true) Q L w:=Ahp Inv hm hl (h hq)
def MG{Inv:World->Prop}{l:List Oper}{fuel:Nat}{listed:Array Bool}(hI:Inv w)(h:Inv w->Nw Inv P n l Q fuel listed L w):Nw Inv P n l Q fuel listed L w:=h hI
def AS{Inv:World->Prop}{l:List Oper}{fuel i m:Nat}{done:List Nat}(hI:Inv w)(h:Inv w->Nw Inv P n l Q fuel (R8 m done) L w):S P n l.toArray (nQI Inv P l Q fuel i (R8 m done)) [] L w:=AlT hI (h hI)
def Y1(K L:ZC):Bool:=K.all λx=>(gt L x.1).isNone
theorem AhB{L:ZC}{s:Nat}{u:Value}(hu:gt L s=TI u):∀K:ZC,Y1 K L=true->gt (K++L) s=TI u
 | [],_=>hu
 | (a,z)::K,h=>by
  simp only[Y1,List.all_cons,ZA]at h;have ih:=AhB hu K h.2
  have hne:SC a s=false:=by
   cases hb:SC a s with
   | false=>rfl
   | true=>
    have:=Nat.eq_of_beq_eq_true hb;rw[this,hu]at h;exact absurd h.1 Rg
  show(bif SC a s then TI z else gt (K++L) s)=TI u
  rw[hne];exact ih
theorem Fr.strip{a:Act}{L':ZC}{v':Value}(k:Nat)(fr:Fr n a ((d,v')::L'))(hv:v=v')(hl:L'.drop k=L)(hk:Y1 (L'.take k) L=true):Fr n a ((d,v)::L):=by
 subst hv;refine⟨fr.size,fr.defers,λs u hs=>fr.get s u ?_⟩;have e:L'=L'.take k++L:=by rw[<- hl,List.take_append_drop]
 rw[e];have hs':(bif SC d s then TI v else gt L s)=TI u:=hs
 show(bif SC d s then TI v else gt (L'.take k++L) s)=TI u
 cases hb:SC d s with
 | true=>rw[hb]at hs';exact hs'
 | false=>rw[hb]at hs';exact AhB hs' _ hk
def Gs{l:List Oper}(m d:Nat)(v:Value)(hb:S P n ops Q (l.drop m) ((d,v)::L) w->S P n ops Q l L w)(h:S P n ops Q (l.drop m) ((d,v)::L) w):S P n ops Q l L w:=hb h
def S.to{l:List Oper}{L':ZC}{v':Value}(hm:S P n ops Q l ((d,v)::L) w)(k:Nat)(hv:v=v')(hl:L'.drop k=L)(hk:Y1 (L'.take k) L=true):S P n ops Q l ((d,v')::L') w:=λa fr=>hm a (fr.strip k hv hl hk)
def trq:Nat->Tr->Tr
 | 0,t=>t
 | m+1,.q _ t=>trq m t
 | _+1,t=>t
def Py{l:List Oper}{t:Tr}(m d:Nat)(v:Value)(hb:D P n l Q (trq m t) ((d,v)::L) w->D P n l Q t L w)(h:D P n l Q (trq m t) ((d,v)::L) w):D P n l Q t L w:=hb h
def D.to{l:List Oper}{t:Tr}{L':ZC}{v':Value}(hm:D P n l Q t ((d,v)::L) w)(k:Nat)(hv:v=v')(hl:L'.drop k=L)(hk:Y1 (L'.take k) L=true):D P n l Q t ((d,v')::L') w:=λa fr=>hm a (fr.strip k hv hl hk)
section
variable {b c e:Bool}
def LV(h:b=true):Value.bool (b&&c)=.bool c:=by rw[h];rfl
def LW(h:b=false):Value.bool (b&&c)=.bool false:=by rw[h];rfl
def T3(h:b=true):Value.bool (b||c)=.bool true:=by rw[h];rfl
def T5(h:b=false):Value.bool (b||c)=.bool c:=by rw[h];rfl
end
end
end Go.E
end
noncomputable section
namespace Go.L
def UO{a b:UInt8}(c : ¬a<b)(h2 : ¬b<a):a=b:=UInt8.toNat.inj (by rw[QV]at c h2;omega)
theorem MV:∀l m:Qm,Lib.compareBytes l m = - Lib.compareBytes m l
 | [],[]=>rfl
 | [],_::_=>rfl
 | _::_,[]=>rfl
 | a::l,b::m=>by
  have ih:=MV l m;unfold Lib.compareBytes
  by_cases c:a<b
  ·have h2 : ¬b<a:=λh=>by have:=QV.1 h;have:=QV.1 c;omega
   rw[Xu c,Pb h2,Xu c]
  ·by_cases h2:b<a
   ·rw[Pb c,Xu h2,Xu h2];rfl
   ·rw[Pb c,Pb h2,Pb h2,Pb c,ih]
theorem Sy:∀l m:Qm,Lib.compareBytes l m=0->l=m
 | [],[],_=>rfl
 | [],_::_,h=>by cases h
 | _::_,[],h=>by cases h
 | a::l,b::m,h=>by
  unfold Lib.compareBytes at h
  split at h
  ·cases h
  ·rename_i c
   split at h
   ·cases h
   ·rename_i h2;have e:a=b:=UO c h2;rw[e,Sy l m h]
theorem UP:∀l:Qm,Lib.compareBytes l l=0
 | []=>rfl
 | a::l=>by
  have h : ¬a<a:=λh=>by have:=QV.1 h;omega
  unfold Lib.compareBytes;rw[Pb h,Pb h,UP l]
theorem Qh:∀l m k:Qm,Lib.compareBytes l m<0->Lib.compareBytes m k<0->Lib.compareBytes l k<0
 | [],[],_,h,_=>by simp[Lib.compareBytes]at h
 | [],_::_,[],_,h=>by simp[Lib.compareBytes]at h
 | [],_::_,_::_,_,_=>by simp[Lib.compareBytes]
 | _::_,[],_,h,_=>by simp[Lib.compareBytes]at h
 | _::_,_::_,[],_,h=>by simp[Lib.compareBytes]at h
 | a::l,b::m,c::k,d,h2=>by
  have ih:=Qh l m k;unfold Lib.compareBytes at d h2 ⊢
  by_cases hab:a<b
  ·by_cases hbc:b<c
   ·rw[Xu (QV.2 (by have:=QV.1 hab;have:=QV.1 hbc;omega))];decide
   ·rw[Pb hbc]at h2
    by_cases hcb:c<b
    ·rw[Xu hcb]at h2;omega
    ·have e:b=c:=UO hbc hcb;subst e;rw[Xu hab];decide
  ·rw[Pb hab]at d
   by_cases hba:b<a
   ·rw[Xu hba]at d;omega
   ·rw[Pb hba]at d;have e:a=b:=UO hab hba;subst e
    by_cases hac:a<c
    ·rw[Xu hac];decide
    ·rw[Pb hac]at h2 ⊢
     by_cases hca:c<a
     ·rw[Xu hca]at h2;omega
     ·rw[Pb hca]at h2 ⊢;exact ih d h2
structure Xa {α:Type} (c:α->α->Int):Prop where
 swap:∀x y,c x y = - c y x
 zero:∀x y,c x y=0->x=y
 trans:∀x y z,c x y<0->c y z<0->c x z<0
def Ank:Xa Go.Lib.compareBytes:=⟨MV,Sy,Qh⟩
def Xb(a b:Int):Int:=if a<b then -1 else if b<a then 1 else 0
def Anl:Xa Xb:=by
 constructor
 ·intro x y;unfold Xb;rcases VR x y with h | h | h
  ·rw[Xu h,Pb U,Xu h]
  ·subst h;rw[Pb (Int.lt_irrefl _),Pb (Int.lt_irrefl _)];rfl
  ·rw[Pb U,Xu h,Xu h];rfl
 ·intro x y h;unfold Xb at h;split at h;cases h;split at h;cases h;omega
 ·intro x y z a h2;unfold Xb at *
  split at a
  ·split at h2
   ·rw[Xu U];decide
   ·split at h2 <;> omega
  ·split at a <;> omega
def SK{α β:Type}(c:α->α->Int)(d:β->β->Int)(x y:α×β):Int:=if c x.1 y.1=0 then d x.2 y.2 else c x.1 y.1
def AdA{α β:Type}{c:α->α->Int}{d:β->β->Int}(hc:Xa c)(hd:Xa d):Xa (SK c d):=by
 constructor
 ·intro x y;unfold SK;have:=hc.swap x.1 y.1
  by_cases h:c x.1 y.1=0
  ·rw[Xu h,Xu U];exact hd.swap _ _
  ·rw[Pb h,Pb U];exact this
 ·intro x y h;unfold SK at h
  split at h
  ·rename_i a;exact Prod.ext (hc.zero _ _ a) (hd.zero _ _ h)
  ·rename_i a;exact absurd h a
 ·intro x y z a h2;unfold SK at *
  by_cases e:c x.1 y.1=0
  ·rw[Xu e]at a;have:=hc.zero _ _ e;rw[this]
   by_cases b:c y.1 z.1=0
   ·rw[Xu b]at h2 ⊢;exact hd.trans _ _ _ a h2
   ·rw[Pb b]at h2 ⊢;exact h2
  ·rw[Pb e]at a
   by_cases b:c y.1 z.1=0
   ·have:=hc.zero _ _ b;rw[<- this,Pb e];exact a
   ·rw[Pb b]at h2;have:=hc.trans _ _ _ a h2;rw[Pb U];exact this
def Xa.swo{α:Type}{c:α->α->Int}(h:Xa c):Go.Sort.SWO (Go.Proofs.ltOf c):=by
 have hs:=λx=>h.swap x x
 constructor
 ·intro x;have:=hs x;simp only[Go.Proofs.ltOf,decide_eq_false_iff_not];omega
 ·intro x y z b h2;simp only[Go.Proofs.ltOf,Xf]at *;exact h.trans _ _ _ b h2
 ·intro x y z b h2;simp only[Go.Proofs.ltOf,decide_eq_false_iff_not]at *;intro h3;have s1:=h.swap x y;have d:=h.swap y z
  rcases VR (c y x) 0 with a | a | a
  ·have:=h.trans _ _ _ a h3;omega
  ·rw[h.zero _ _ a]at h2;omega
  ·omega
def Xa.parts{α:Type}{c:α->α->Int}(h:Xa c)(x y:α)(a:Go.Proofs.ltOf c x y=false)(h2:Go.Proofs.ltOf c y x=false):x=y:=by
 simp only[Go.Proofs.ltOf,decide_eq_false_iff_not]at a h2;have:=h.swap x y;exact h.zero _ _ U
abbrev Lf:Type:=Qm×Int×Int×Qm
def D4:Lf->Lf->Int:=SK Go.Lib.compareBytes (SK Xb (SK Xb Go.Lib.compareBytes))
def Ia:Xa D4:=AdA Ank (AdA Anl (AdA Anl Ank))
def IK(l:List Lf):List Lf:=ZH (λx y=>!(Go.Proofs.ltOf D4) y x) l
def Pm(l:List Lf):IK l=l.mergeSort λx y=>!(Go.Proofs.ltOf D4) y x:=Ss _ l
def Pn(l:List Lf):(IK l).length=l.length:=by rw[Pm];exact YJ _
end Go.L
namespace Go.Proofs.YtgaljodghpgdmaaGreatDoor
open Go Go.L Go.E
def Aka(a b:Int):HZ a b=TI (Xb a b):=by
 unfold HZ cmp_isNaN_int Xb;simp only[Wo,decide_true,Bool.not_true,SQ,if_false]
 split
 ·rfl
 ·split <;> rfl
def Akb(a b:Qm):strings_Compare a b=TI (Lib.compareBytes a b):=Z
def Amg(a b c d:Int):QP [a,b,c,d]=TI (if a=0 then(if b=0 then(if c=0 then d else c)else b)else a):=by
 unfold QP AbY
 have step:∀(i:Nat) (x:Int),[a,b,c,d][i]? = TI x->x=0->EF [a,b,c,d] (i:Int)=TI (.inl ((i+1:Nat):Int)):=λi x hx e=>by
  have hi:i<4:=(Z9.1 hx).1;unfold EF;rw[Xu U,Ab U,Xu (by rw[SV,Sb,hx];exact e),Ab U]
  rfl
 have stop:∀(i:Nat) (x:Int),[a,b,c,d][i]? = TI x->x≠0->Go.L.run (EF [a,b,c,d]) (i:Int)=TI x:=λi x hx e=>by
  have hi:i<4:=(Z9.1 hx).1;refine A2 ?_;unfold EF;have hg:[a,b,c,d].getD (i:Int).toNat Qq7=x:=by rw[SV,Sb,hx];rfl
  rw[Xu U,Ab U,hg,Pb e]
 have last:Go.L.run (EF [a,b,c,d]) ((4:Nat):Int)=TI 0:=by
  refine A2 ?_;unfold EF;rw[Pb Rg]
  rfl
 show Go.L.run _ ((0:Nat):Int)=_
 by_cases ha:a=0
 ·rw[Xu ha,AE (step 0 a Z ha)]
  by_cases hb:b=0
  ·rw[Xu hb,AE (step 1 b Z hb)]
   by_cases hc:c=0
   ·rw[Xu hc,AE (step 2 c Z hc)]
    by_cases hd:d=0
    ·rw[AE (step 3 d Z hd)];rw[hd]at last ⊢;exact last
    ·exact stop 3 d Z hd
   ·rw[Pb hc];exact stop 2 c Z hc
  ·rw[Pb hb];exact stop 1 b Z hb
 ·rw[Pb ha];exact stop 0 a Z ha
def AdB(x y:Lf):JE x y=TI (D4 x y):=by
 unfold JE D4 SK;simp only[Akb,Aka,Amg,Wo]
end Go.Proofs.YtgaljodghpgdmaaGreatDoor
end
noncomputable section
namespace Go.L
def iota(n:Nat):SB:=(VO n).map λi:Nat=>(i:Int)
def Gt(n:Nat):(iota n).length=n:=by simp[iota]
def RD(n:Nat):List (Fin (n+1)):=(VO n).map λi=>Fin.ofNat (n+1) i
def ZX(n:Nat):(RD n).map (λx=>(x.val:Int))=iota n:=by
 unfold RD iota;rw[Xc];apply List.map_congr_left;intro i hi;have:=PQ.1 hi
 show((i % (n+1):Nat):Int)=(i:Int)
 rw[Nat.mod_eq_of_lt U]
def Nv(a:Qm)(x y:Fin (a.length+1)):Int:=Lib.compareBytes (a.drop x.val) (a.drop y.val)
def AfG(a:Qm):List (Fin (a.length+1)):=ZH (λx y=>!(Go.Proofs.ltOf (Nv a)) y x) (RD a.length)
def X8(a:Qm):AfG a=(RD a.length).mergeSort λx y=>!(Go.Proofs.ltOf (Nv a)) y x:=Ss _ _
def CK(a:Qm):SB:=(AfG a).map λx=>(x.val:Int)
def AeV{α:Type}(f:α->Qm):Go.Sort.SWO (Go.Proofs.ltOf λx y=>Lib.compareBytes (f x) (f y)):=by
 constructor
 ·intro x;simp[Go.Proofs.ltOf,UP]
 ·intro x y z a h2;unfold Go.Proofs.ltOf at *;simp only[Xf]at *;exact Qh _ _ _ a h2
 ·intro x y z a h2;unfold Go.Proofs.ltOf at *;simp only[decide_eq_false_iff_not]at *;intro h3;have s1:=MV (f x) (f y);have b:=MV (f y) (f z)
  rcases VR (Lib.compareBytes (f y) (f x)) 0 with h | h | h
  ·have:=Qh _ _ _ h h3;omega
  ·rw[Sy _ _ h]at h2;omega
  ·omega
def UQ(a:Qm)(x y:Fin (a.length+1))(b:Go.Proofs.ltOf (Nv a) x y=false)(h2:Go.Proofs.ltOf (Nv a) y x=false):x=y:=by
 unfold Go.Proofs.ltOf at b h2;simp only[decide_eq_false_iff_not]at b h2;have s:=MV (a.drop x.val) (a.drop y.val);unfold Nv at b h2;have:=Sy _ _ (show Lib.compareBytes (a.drop x.val) (a.drop y.val)=0 by omega);have hl:(a.drop x.val).length=(a.drop y.val).length:=by rw[this]
 simp only[U1]at hl;have:=x.isLt;have:=y.isLt;exact Fin.ext U
end Go.L
end
noncomputable section
namespace Go.Proofs
open Go.Shelf
set_option maxRecDepth 100000
def BT {P : Program}{i : FuncId}{f B : Func} (h : P.funcs[i]? = some f) (hn : (f.name == "runtime.NumGoroutine") = false := by decide) (e : f = { B with name := f.name } := by kernel_rfl) : Bears P i B := ⟨f.name, hn, h.trans (congrArg some e)⟩
def Tryz.NU:Go.Shelf.Ren:=⟨fun | 146=>154 | 221=>206 | 268=>263 | 138=>264 | 143=>265 | 195=>293 | 197=>294 | 218=>295 | 219=>296 | 260=>312 | 217=>270 | 225=>299 | 224=>298 | 267=>313 | 266=>300 | 314=>317 | n=>n,fun | 9=>9 | 31=>23 | 3=>3 | 4=>4 | 0=>0 | 105=>239 | 21=>21 | 5=>5 | 46=>205 | 119=>318 | 139=>321 | 138=>320 | 146=>351 | 51=>244 | n=>n,fun | 1=>0 | 3=>1 | 4=>2 | n=>n⟩
def Tryz.Y2:Go.Proofs.Lays.n146 Tryz.prog Tryz.NU:=by repeat' first|kernel_rfl|constructor|intro _
def Tryz.W7:Go.Shelf.Ren:=⟨fun | 156=>88 | 165=>137 | 166=>138 | 169=>139 | 240=>183 | 241=>184 | 276=>240 | 277=>241 | n=>n,fun | 31=>23 | 9=>9 | 3=>3 | 4=>4 | 0=>0 | 20=>20 | 72=>208 | 76=>211 | 70=>206 | 37=>24 | 75=>210 | 127=>246 | 164=>287 | 5=>5 | 80=>213 | n=>n,fun | n=>n⟩
def Tryz.AeW:Go.Proofs.Lays.n156 Tryz.prog Tryz.W7:=by repeat' first|kernel_rfl|constructor|intro _
def Tryz.AfH:Go.Shelf.Ren:=⟨fun | 17=>226 | 15=>279 | 20=>307 | n=>n,fun | 9=>9 | 23=>280 | 4=>4 | 3=>3 | 0=>0 | 21=>21 | n=>n,fun | n=>n⟩
def Tryz.Anm:Go.Proofs.LaysGw.n17 Tryz.prog Tryz.AfH:=by repeat' first|kernel_rfl|constructor|intro _
def Tryz.AfI:Go.Shelf.Ren:=⟨fun | 137=>208 | 217=>270 | 266=>300 | n=>n,fun | 9=>9 | 5=>5 | 3=>3 | n=>n,fun | n=>n⟩
def Tryz.Ann:Go.Proofs.Lays.n137 Tryz.prog Tryz.AfI:=by repeat' first|kernel_rfl|constructor|intro _
def Tryz.AfJ:Go.Shelf.Ren:=⟨fun | 190=>134 | 125=>136 | 258=>180 | 128=>181 | 129=>182 | 302=>231 | 303=>232 | 304=>233 | 305=>234 | 306=>235 | 307=>236 | 308=>237 | 309=>238 | 310=>239 | 333=>280 | 329=>252 | 330=>253 | 334=>281 | 335=>282 | 336=>283 | 344=>308 | n=>n,fun | 31=>23 | 9=>9 | 3=>3 | 46=>205 | 0=>0 | 51=>244 | 53=>177 | 4=>4 | 183=>250 | 182=>249 | 131=>255 | 5=>5 | 218=>294 | 222=>298 | 228=>326 | 229=>270 | n=>n,fun | n=>n⟩
def Tryz.Alv:Go.Proofs.Lays.n190 Tryz.prog Tryz.AfJ:=by repeat' first|kernel_rfl|constructor|intro _
def Tryz.AfK:Go.Shelf.Ren:=⟨fun | 189=>93 | 125=>136 | 257=>144 | 128=>181 | 129=>182 | 294=>188 | 295=>189 | 296=>190 | 297=>191 | 298=>192 | 299=>193 | 216=>194 | 300=>195 | 301=>196 | 328=>251 | 329=>252 | 330=>253 | 331=>254 | 332=>255 | 215=>187 | 343=>287 | n=>n,fun | 28=>47 | 3=>3 | 46=>205 | 0=>0 | 51=>244 | 53=>177 | 4=>4 | 183=>250 | 182=>249 | 131=>255 | 5=>5 | 9=>9 | 218=>294 | 222=>298 | 228=>326 | 229=>270 | n=>n,fun | n=>n⟩
def Tryz.AeX:Go.Proofs.Lays.n189 Tryz.prog Tryz.AfK:=by repeat' first|kernel_rfl|constructor|intro _
def Tryz.AfL:Go.Shelf.Ren:=⟨fun | 20=>94 | n=>n,fun | 22=>47 | 3=>3 | 4=>4 | 0=>0 | n=>n,fun | n=>n⟩
def Tryz.AeY:Go.Proofs.Lays2.n20 Tryz.prog Tryz.AfL:=by repeat' first|kernel_rfl|constructor|intro _
def Tryz.AfM:Go.Shelf.Ren:=⟨fun | 6=>140 | 15=>136 | 14=>185 | 28=>181 | 29=>182 | 20=>242 | 21=>243 | 22=>244 | 23=>245 | 24=>246 | 25=>247 | 26=>248 | 27=>249 | 46=>284 | 47=>252 | 48=>253 | 49=>285 | 50=>286 | 57=>309 | n=>n,fun | 22=>164 | 24=>112 | 25=>166 | 3=>3 | 39=>205 | 0=>0 | 53=>244 | 55=>177 | 4=>4 | 46=>250 | 45=>249 | 50=>255 | 5=>5 | 9=>9 | 66=>294 | 70=>298 | 76=>326 | 77=>270 | n=>n,fun | n=>n⟩
def Tryz.Alw:Go.Proofs.SlLaysF0.n6 Tryz.prog Tryz.AfM:=by apply Go.Proofs.SlLaysF0.n6.mk (f6:=BT Tryz.func140) (f14:=BT Tryz.func185) (f20:=BT Tryz.func242) (f21:=BT Tryz.func243) (f22:=BT Tryz.func244) (f23:=BT Tryz.func245) (f24:=BT Tryz.func246) (f25:=BT Tryz.func247) (f26:=BT Tryz.func248) (f27:=BT Tryz.func249) (f46:=BT Tryz.func284) (f49:=BT Tryz.func285) (f50:=BT Tryz.func286) (f57:=BT Tryz.func309)<;>first|kernel_rfl|(intro _;kernel_rfl)
def Tryz.AfN:Go.Shelf.Ren:=⟨fun | 6=>124 | 15=>136 | 14=>171 | 28=>181 | 29=>182 | 20=>217 | 21=>218 | 22=>219 | 23=>220 | 24=>221 | 25=>222 | 26=>223 | 27=>224 | 46=>276 | 47=>252 | 48=>253 | 49=>277 | 50=>278 | 57=>306 | n=>n,fun | 22=>47 | 24=>3 | 25=>195 | 3=>3 | 39=>205 | 0=>0 | 53=>244 | 55=>177 | 4=>4 | 46=>250 | 45=>249 | 50=>255 | 5=>5 | 9=>9 | 66=>294 | 70=>298 | 76=>326 | 77=>270 | n=>n,fun | n=>n⟩
def Tryz.Ano:Go.Proofs.SlLaysF.n6 Tryz.prog Tryz.AfN:=by apply Go.Proofs.SlLaysF.n6.mk (f6:=BT Tryz.func124) (f14:=BT Tryz.func171) (f20:=BT Tryz.func217) (f21:=BT Tryz.func218) (f22:=BT Tryz.func219) (f23:=BT Tryz.func220) (f24:=BT Tryz.func221) (f25:=BT Tryz.func222) (f26:=BT Tryz.func223) (f27:=BT Tryz.func224) (f46:=BT Tryz.func276) (f49:=BT Tryz.func277) (f50:=BT Tryz.func278) (f57:=BT Tryz.func306)<;>first|kernel_rfl|(intro _;kernel_rfl)
def Tryz.AdC:Go.Shelf.Ren:=⟨fun | 6=>124 | 15=>136 | 14=>171 | 28=>181 | 29=>182 | 20=>217 | 21=>218 | 22=>219 | 23=>220 | 24=>221 | 25=>222 | 26=>223 | 27=>224 | 46=>276 | 47=>252 | 48=>253 | 49=>277 | 50=>278 | 57=>306 | n=>n,fun | 22=>47 | 24=>3 | 25=>195 | 3=>3 | 39=>205 | 0=>0 | 53=>244 | 55=>177 | 4=>4 | 46=>250 | 45=>249 | 50=>255 | 5=>5 | 9=>9 | 66=>294 | 70=>298 | 76=>326 | 77=>270 | n=>n,fun | n=>n⟩
def Tryz.Amh:Go.Proofs.SlLaysF0.n6 Tryz.prog Tryz.AdC:=by apply Go.Proofs.SlLaysF0.n6.mk (f6:=BT Tryz.func124) (f14:=BT Tryz.func171) (f20:=BT Tryz.func217) (f21:=BT Tryz.func218) (f22:=BT Tryz.func219) (f23:=BT Tryz.func220) (f24:=BT Tryz.func221) (f25:=BT Tryz.func222) (f26:=BT Tryz.func223) (f27:=BT Tryz.func224) (f46:=BT Tryz.func276) (f49:=BT Tryz.func277) (f50:=BT Tryz.func278) (f57:=BT Tryz.func306)<;>first|kernel_rfl|(intro _;kernel_rfl)
def Tryz.Jw:Go.Shelf.Ren:=⟨fun | 32=>178 | 49=>230 | n=>n,fun | 30=>24 | 21=>21 | 3=>3 | 0=>0 | 5=>5 | 4=>4 | 33=>239 | 66=>318 | 25=>205 | 69=>321 | 68=>320 | n=>n,fun | 2=>1 | 3=>2 | n=>n⟩
def Tryz.AhC:Go.Proofs.Lays7.n32 Tryz.prog Tryz.Jw:=by repeat' first|kernel_rfl|constructor|intro _
def Tryz.ZY:Go.Shelf.Ren:=⟨fun | 7=>84 | 10=>135 | n=>n,fun | 23=>100 | 26=>9 | 3=>88 | 28=>155 | 0=>0 | 27=>154 | 33=>203 | 4=>4 | n=>n,fun | n=>n⟩
def Tryz.Alx:Go.Proofs.SlLaysZ.n7 Tryz.prog Tryz.ZY:=by apply Go.Proofs.SlLaysZ.n7.mk (f7:=BT Tryz.func84) (f10:=BT Tryz.func135)<;>first|kernel_rfl|(intro _;kernel_rfl)
def Tryz.W8:Go.Shelf.Ren:=⟨fun | 6=>83 | 8=>133 | 9=>134 | 11=>179 | 13=>136 | 12=>180 | 23=>181 | 24=>182 | 14=>231 | 15=>232 | 16=>233 | 17=>234 | 18=>235 | 19=>236 | 20=>237 | 21=>238 | 22=>239 | 25=>280 | 26=>252 | 27=>253 | 28=>281 | 29=>282 | 30=>283 | 31=>308 | n=>n,fun | 26=>9 | 28=>155 | 24=>23 | 0=>0 | 3=>3 | 37=>205 | 48=>244 | 50=>177 | 4=>4 | 40=>250 | 39=>249 | 45=>255 | 5=>5 | 9=>9 | 51=>294 | 55=>298 | 57=>326 | 58=>270 | 33=>203 | n=>n,fun | n=>n⟩
def Tryz.Akc:Go.Proofs.SlLaysZ.n6 Tryz.prog Tryz.W8:=by apply Go.Proofs.SlLaysZ.n6.mk (f6:=BT Tryz.func83) (f8:=BT Tryz.func133) (f11:=BT Tryz.func179)<;>first|kernel_rfl|(intro _;kernel_rfl)
def Tryz.Acu:Go.Shelf.Ren:=⟨fun | 171=>97 | 243=>150 | 246=>203 | 283=>258 | 284=>259 | 285=>260 | 286=>261 | 129=>182 | 317=>288 | 318=>289 | 319=>290 | 320=>291 | 337=>310 | 338=>311 | n=>n,fun | 3=>3 | 9=>9 | 2=>2 | 4=>4 | 171=>302 | 0=>0 | 53=>177 | 37=>24 | 5=>5 | 173=>304 | 212=>329 | 51=>244 | 20=>20 | 213=>330 | 46=>205 | 232=>349 | 233=>350 | n=>n,fun | 17=>3 | 18=>6 | 19=>7 | n=>n⟩
def Tryz.Akd:Go.Proofs.LaysM.n171 Tryz.prog Tryz.Acu:=by repeat' first|kernel_rfl|constructor|intro _
def Tryz.W9:Go.Shelf.Ren:=⟨fun | 172=>209 | 244=>271 | 245=>272 | 247=>301 | 279=>302 | 280=>303 | 281=>304 | 282=>305 | 287=>314 | 316=>315 | 171=>97 | 205=>316 | 321=>318 | 322=>319 | 243=>150 | 246=>203 | 283=>258 | 284=>259 | 285=>260 | 286=>261 | 129=>182 | 317=>288 | 318=>289 | 319=>290 | 320=>291 | 337=>310 | 338=>311 | n=>n,fun | 9=>9 | 3=>3 | 75=>210 | 76=>211 | 4=>4 | 5=>5 | 167=>334 | 37=>24 | 0=>0 | 85=>335 | 2=>2 | 168=>337 | 53=>177 | 175=>344 | 46=>205 | 210=>347 | 127=>246 | 145=>356 | 143=>354 | 21=>21 | 171=>302 | 173=>304 | 212=>329 | 51=>244 | 20=>20 | 213=>330 | 232=>349 | 233=>350 | 80=>213 | n=>n,fun | 15=>4 | 16=>5 | 17=>3 | 18=>6 | 19=>7 | n=>n⟩
def Tryz.VP:Go.Shelf.Ren:=⟨fun | 153=>207 | 152=>266 | 226=>267 | 227=>268 | 228=>269 | 137=>208 | 119=>297 | 224=>298 | 225=>299 | 217=>270 | 266=>300 | n=>n,fun | 9=>9 | 3=>3 | 4=>4 | 5=>5 | 21=>21 | 117=>310 | 116=>309 | 0=>0 | 46=>205 | 124=>333 | n=>n,fun | n=>n⟩
def Tryz.AhD:Go.Proofs.Lays.n153 Tryz.prog Tryz.VP:=by repeat' first|kernel_rfl|constructor|intro _
end Go.Proofs
end
noncomputable section
namespace Go.Proofs.YtgaljodghpgdmaaGreatDoor
open Go Go.E Go.RowKit Go.Sort Go.Shelf
def Ajt(a b:Qm):PB a b=TI (Lib.compareBytes a b):=Z
def Anp{O:List Bv}{i b:Nat}{cs:LR}{t:TypeId}(h:Ba O i=TI (.box b cs t)):Bv.box b cs t∈O:=(DF h).mem_iff.2 (.head _)
def AfO{n:Sz}{ops:Array Oper}{Q:Exit->Act->World->Prop}{L:ZC}{w f:World}{O:List Bv}{rest:List Oper}{d:Nat}{ty:TypeId}{pos:String}{af:Array Edge}{v tv:Value}{H:PH}{i b:Nat}{xs:LR}{a:Qm}{args:List Operand}{at_:Array TypeId}
  (ha:U8 L args=TI [v,.func (.func 125) #[] #[.pointer (TI ⟨b,0,none⟩)]]) (hn:Uu d n.n=true) (hH:Le H (hp f)) (hL:AB f O w) (hi:Ba O i=TI (.row v 3 1 (Go.L.iota a.length).length xs)) (he:Ao (.int .i64) (gz H f w O) (Go.L.iota a.length) xs) (htx:As .byte (gz H f w O) tv a) (hbox:Bv.box b [tv] 24∈O) (hl:a.length<4611686018427387904)
  (h:∀w' xs',AB f (Ci O i (.row v 3 1 (Go.L.CK a).length xs')) w'->Le (fz w O) (fz w' (Ci O i (.row v 3 1 (Go.L.CK a).length xs')))->Ao (.int .i64) (gz H f w' (Ci O i (.row v 3 1 (Go.L.CK a).length xs'))) (Go.L.CK a) xs'->S Tryz.prog n ops Q rest ((d,.tuple #[])::L) w') :
  S Tryz.prog n ops Q (⟨TI d,.call ⟨.value (.func 124),args.toArray,at_⟩,ty,pos,af,none⟩::rest) L w:=by
 have hxs:xs=(Go.L.RD a.length).map (λx:Fin (a.length+1)=>Value.int .i64 (x.val:Int)):=by
  rw[<- Yz he,<- Go.L.ZX,Xc];rfl
 have hfl:(Go.L.RD a.length).length=a.length:=by simp[Go.L.RD]
 have hll:(Go.L.CK a).length=(Go.L.iota a.length).length:=by
  unfold Go.L.CK;rw[Go.L.X8,Vx,YJ,hfl,Go.L.Gt]
 have hys:(Go.L.CK a).map (Value.int .i64)=(Go.L.AfG a).map (λx:Fin (a.length+1)=>Value.int .i64 (x.val:Int)):=by
  unfold Go.L.CK;rw[Xc];rfl
 refine Yy (l':=Go.L.CK a) (enc:=λx:Fin (a.length+1)=>Value.int .i64 (x.val:Int)) (dd:=(Go.L.AfG a).toArray) (ys:=(Go.L.CK a).map (Value.int .i64)) ⟨Tryz.f124,_,Tryz.func124,Z,Z⟩ ha hn hL hi (by rw[hys]) hll (by rw[hxs];simp[hll,hfl,Go.L.Gt]) (λl=>?_) (λhv=>?_) (λg cap hv hcap=>?_) (λw' p h2=>h w' _ p h2 (UL _ _))
 ·have p:(Go.L.CK a).length=0:=by rw[hll];exact l
  have h2:xs.length=0:=by rw[hxs,Vx,hfl];rw[Go.L.Gt]at l;exact l
  rw[Vu p,Vu h2];rfl
 ·subst hv;exact AnyF.slices_SortFunc_none Tryz.Amh none 0 _ w
 ·have hown:w.ownsRow 0 3 1 v (Go.L.iota a.length).length xs:=hL.at hi;rw[hv]at hown;obtain⟨hhk,hblk⟩:=Ts (λx:Fin (a.length+1)=>Value.int .i64 (x.val:Int)) ((Go.L.RD a.length).toArray) hown (by simpa using hxs.symm);have hsz:(Go.L.iota a.length).length=(Go.L.RD a.length).toArray.size:=by rw[Go.L.Gt];simp[hfl]
  have hgo:∀j x,Bv.row v 3 1 j x∈O->True:=λ_ _ _=>trivial;subst hv;simp only[Go.L.X8];have hs:=Any.slices_SortFunc_total (P:=Tryz.prog) Tryz.Ano (λx:Fin (a.length+1)=>Value.int .i64 (x.val:Int)) (λ_=>Z) (Go.L.Nv a) (Go.L.AeV _) 125 #[.pointer (TI ⟨b,0,none⟩)] g 0 cap (Go.L.RD a.length).toArray w (enters_of Tryz.func125 SF Z) ?_ hhk hblk (by rw[<- hsz,Go.L.Gt];exact hl) (Go.L.UQ a)
  ·rw[<- hsz]at hs;exact hs.mono λe w' ⟨he,m,os,hw⟩=>⟨he,m,os,hw⟩
  ·intro m os dk hs x y;have hx:=x.isLt;have hy:=y.isLt
   have hr:OB (x.val:Int) (y.val:Int) a=TI (Go.L.Nv a x y):=by
    unfold OB;rw[Go.L.Ab U,Go.L.Ab U,SV,SV,Ajt]
    rfl
   have hne:∀c,(∃cs t,Bv.box c cs t∈O)->c≠g:=λc ⟨cs,t,hc⟩ e=>by
    subst e;have hd:=List.pairwise_cons.1 (hL.perm (DF hi).symm).dis
    have hm:Bv.box c cs t∈LQ O i:=by
     rcases R7.1 ((DF hi).mem_iff.1 hc)with h | h
     ·cases h
     ·exact h
    exact hd.1 _ hm c Z Z
   have hkeep:∀k o,w.heap[k]? = TI o->k≠g->(sortWorld (λx:Fin (a.length+1)=>Value.int .i64 (x.val:Int)) w g 0 m dk os).heap[k]? = TI o:=λk o hk hkg=>by
    rw[OC _ w g m dk os k (lt_of_heap hk),Pb hkg];exact hk
   have hle:Le (fz w O) (hp (sortWorld (λx:Fin (a.length+1)=>Value.int .i64 (x.val:Int)) w g 0 m dk os)):=λc o hc=>by
    refine hkeep c o (Qn w O c o hc) λe=>?_;subst e;have hown:owned O c=true:=CR.2 ⟨_,(DF hi).mem_iff.2 (.head _),Z⟩;unfold fz at hc;rw[Xu hown]at hc
    cases hc
   have hbx:Gp (hp (sortWorld (λx:Fin (a.length+1)=>Value.int .i64 (x.val:Int)) w g 0 m dk os)) ⟨b,0,none⟩ [tv]:=by
    have hok:w.heap[b]? = TI (.cells #[tv] 24 (0,0)):=hL.res _ hbox;have hh:=hkeep b _ hok (hne b ⟨_,_,hbox⟩);refine⟨Z,λj u hu=>?_⟩;simp only[Addr.add_lit,Q8,GC,hp,hh]
    simpa using hu
   have hk:=@Qq3 ⟨true⟩ (sortWorld (λx:Fin (a.length+1)=>Value.int .i64 (x.val:Int)) w g 0 m dk os) (hp _) (Le.refl _) _ _ _ _ _ (htx.mono ((AgU hH hL).trans hle)) hbx _ hr;refine hk.2.mono λen w' ⟨u,he,hx,hu⟩=>?_;subst he;subst hu;obtain⟨q,os',hw⟩:=@Acp ⟨true⟩ _ _ Z hx;exact⟨Z,q,os',hw⟩
end Go.Proofs.YtgaljodghpgdmaaGreatDoor
end
noncomputable section
namespace Go.L
inductive Qv where
 | mk (kind:Int) (words:Sa) (pattern data:Qm) (low high:Int) (subs:List Qv)
instance:Inhabited Qv:=⟨.mk 0 [] [] [] 0 0 []⟩
abbrev QvF:Type:=Int×Sa×Qm×Qm×Int×Int×List Qv
def Qv.f:Qv->QvF
 | .mk k ws p d l h ss=>(k,ws,p,d,l,h,ss)
end Go.L
namespace Go.E
open Go Go.L
variable {α β:Type}
def Rp.UR(r:Rp Qv):Rp QvF:=.pair (.int .i64) (.pair (.vec .st) (.pair .st (.pair (.vec .byte) (.pair (.int .i64) (.pair (.int .i64) (.vec r))))))
def Rp.K3:Nat->Rp Qv
 | 0=>.no Qv 7
 | d+1=>(Rp.UR (Rp.K3 d)).via Qv.f
theorem Rp.Qi:∀d,(Rp.K3 d).sz=7
 | 0=>rfl
 | _+1=>rfl
def Rp.Y3{r s:Rp Qv}{H:PH}{x:QvF}{c:LR}(hz:r.sz=s.sz)(hrel:∀y∈x.2.2.2.2.2.2,∀c,r.rel H y c->s.rel H y c)(h:(Rp.UR r).rel H x c):(Rp.UR s).rel H x c:=by
 obtain⟨c1,c2,e,f,c3,c4,g,h2,c5,c6,i,h3,c7,c8,j,k,l,a,m,n,b,d,o,p,v,q,t⟩:=h;exact⟨c1,c2,e,f,c3,c4,g,h2,c5,c6,i,h3,c7,c8,j,k,l,a,m,n,b,d,o,p,v,q,t.Ahq hz hrel⟩
theorem Rp.WA{H:PH}:∀(d:Nat) (x:Qv) (c:LR),(Rp.K3 d).rel H x c->(Rp.K3 (d+1)).rel H x c
 | 0,_,_,h=>h.elim
 | d+1,x,c,h=>Rp.Y3 (r:=Rp.K3 d) (s:=Rp.K3 (d+1)) (by rw[Rp.Qi,Rp.Qi]) (λy _ c h=>Rp.WA d y c h) h
theorem Rp.ZZ{H:PH}{d e:Nat}(h:d<=e){x:Qv}{c:LR}(hx:(Rp.K3 d).rel H x c):(Rp.K3 e).rel H x c:=by
 induction h with
 | refl=>exact hx
 | step _ ih=>exact Rp.WA _ _ _ ih
def Rp.AN:Rp Qv:=⟨7,λH x c=>∃d,(Rp.K3 d).rel H x c,λh=>by obtain⟨d,h⟩:=h;rw[(Rp.K3 d).len h,Rp.Qi],λhs h=>by obtain⟨d,h⟩:=h;exact⟨d,(Rp.K3 d).mono hs h⟩,λh=>by obtain⟨d,h⟩:=h;exact(Rp.K3 d).one h⟩
theorem Rp.C2{H:PH}{x:Qv}{c:LR}(h:Rp.AN.rel H x c):(Rp.UR Rp.AN).rel H x.f c:=by
 obtain⟨d,h⟩:=h
 cases d with
 | zero=>exact h.elim
 | succ d=>exact Rp.Y3 (r:=Rp.K3 d) (s:=Rp.AN) (Rp.Qi d) (λy _ c h=>⟨d,h⟩) h
theorem As.Ami{H:PH}{v:Value}{l:List Qv}(h:As Rp.AN H v l):∃d,As (Rp.K3 d) H v l:=by
 obtain⟨a,cap,b,h2,h3,f,g⟩:=h.ex
 cases a with
 | none=>exact⟨0,none,cap,b,h2,h3,f,λA hA=>by cases hA⟩
 | some A=>
  have key:∀n,∃d,∀i x,i<n->l≠[]->l[i]? = TI x->∃c,(Rp.K3 d).rel H x c/\∀j u,c[j]? = TI u->GC H (A.add (i * 7+j))=TI u:=by
   intro n
   induction n with
   | zero=>exact⟨0,λi x hi=>absurd hi (Nat.not_lt_zero i)⟩
   | succ n ih=>
    obtain⟨d,hd⟩:=ih
    by_cases hl:l=[]
    ·exact⟨0,λi x _ hn=>absurd hl hn⟩
    cases hx:l[n]? with
    | none=>
     refine⟨d,λi x hi hn he=>?_⟩
     rcases SH.1 hi with hi | rfl
     ·exact hd i x hi hn he
     ·rw[hx]at he
      cases he
    | some y=>
     obtain⟨c,⟨e,hc⟩,hcell⟩:=(g A Z hl).2 n y hx;refine⟨max d e,λi x hi hn he=>?_⟩
     rcases SH.1 hi with hi | rfl
     ·obtain⟨c',k,m⟩:=hd i x hi hn he;exact⟨c',Rp.ZZ (Nat.le_max_left ..) k,m⟩
     ·rw[hx]at he
      cases he
      exact⟨c,Rp.ZZ (Nat.le_max_right ..) hc,hcell⟩
  obtain⟨d,hd⟩:=key l.length;refine⟨d,TI A,cap,b,h2,h3,f,λB hB hl=>?_⟩
  cases hB
  refine⟨(g A Z hl).1,λi x hx=>?_⟩;rw[Rp.Qi];exact hd i x (Z9.1 hx).1 hl hx
def Rp.Gu{H:PH}{x:Qv}{c:LR}(h:(Rp.UR Rp.AN).rel H x.f c):Rp.AN.rel H x c:=by
 obtain⟨c1,c2,g,i,c3,c4,j,h2,c5,c6,k,h3,c7,c8,l,m,n,a,o,p,b,e,q,r,v,s,t⟩:=h;obtain⟨d,hd⟩:=t.Ami;exact⟨d+1,c1,c2,g,i,c3,c4,j,h2,c5,c6,k,h3,c7,c8,l,m,n,a,o,p,b,e,q,r,v,s,hd⟩
end Go.E
end
noncomputable section
namespace Go
abbrev Z7:=Zv
end Go
namespace Go.Proofs.YtgaljodghpgdmaaGreatDoor
open Go Go.E Go.RowKit Go.L
set_option maxHeartbeats 1000000
set_option maxRecDepth 10000
open _root_.Go.Proofs.Tryz
def Eb(a0 a1 a2:Int):Option Bool:=
 TI (decide ((a1<=a0)/\(a0<=a2)))
section
variable(w:World)(H:PH)(hH:Le H (hp w)) include hH
theorem Db{a0 a1 a2:Int}{r:Bool}(h:Eb a0 a1 a2=TI r):
  Pd 72 [No a0,No a1,No a2] w (λv w'=>v=.bool r):=by
 refine Ai 15 [(0,No a0),(1,No a1),(2,No a2)] func72 Z λhL=>Af ?_;refine NC 3 3 Z Z Z Z Z Z<|Bu
def GF(a0 a1:Int):Option Z7:=
 TI ((a0,a1))
theorem Ec{a0 a1:Int}{r:Z7}(h:GF a0 a1=TI r):
  Pd 8 [No a0,No a1] w (λv w'=>v=.agg #[No r.1,No r.2]):=by
 refine Ai 8 [(0,No a0),(1,No a1)] func8 Z λhL=>A5<|Aq Av.e Z hL λe f b c _=>Af ?_;refine AJ (A8 (λ_=>Mr _ _ _))<|Ac 0 Z b Z λg a d=>Af ?_
 cases h
 refine Bz (.cell Z QW Z Av.e (box_pT 0 a Z)) ⟨a.ext,Z⟩
def QR:Option Bool:=
 TI true
def JW(a0:SB)(a1:SB):Int->Option ((Int)⊕(Bool)):=λa=>
 if a<(a0.length:Int)then Ay (0<=a/\a<(a0.length:Int)) (Ay (0<=a/\a<(a1.length:Int)) (if a0.getD a.toNat Qq7=a1.getD a.toNat Qq7 then Ay (AL (a+1)) (TI (Sum.inl (a+1)))else Sh Sum.inr (TI false)))else Sh Sum.inr QR
def US(a0:SB)(a1:SB)(s:Int):Option Bool:=Go.L.run (JW a0 a1) s
def Oo(a0:SB)(a1:SB):Option Bool:=
 if(a0.length:Int)=(a1.length:Int)then(US a0 a1) (0:Int)else TI false
theorem UT{a0 a1:SB}{b c:Value}(k:As (.int .i64) H b a0)(l:As (.int .i64) H c a1){r:Bool}(h:Oo a0 a1=TI r):
  Pd 13 [b,c] w (λv w'=>v=.bool r):=by
 refine Ai 26 [(0,b),(1,c)] func13 Z λhL=>AR ?_;refine Bt h ?_ ?_<;>intro y h
 ·exact Bu
 refine Af ?_;refine AA Unit (λ(_:Unit)=>[]) (λ(_:Unit) wr=>AB w [] wr/\QR=TI r) ?_ ?_
 ·refine Bx 1 Z<|A4 ?_;obtain⟨f,h⟩:=Ax h;refine AF (Int×Nat) (λ⟨a,n⟩=>[(0,b),(1,c),(5,No a)]) (λ⟨a,n⟩ wr=>AB w [] wr/\D6 (JW a0 a1) n a=TI r) (λ⟨a,n⟩=>n) (0,f) Z ⟨hL,h⟩ ?_;rintro⟨a,nn57⟩ z ⟨g,h⟩;obtain⟨f,ad,rfl,h,d⟩:=Aw h;refine AR ?_;refine Ar h ?_ ?_<;>intro m h
  ·refine AR ?_;refine BF (Zt 0 9 (.tail 9)) mixed SF (λae o=>?_);have e:=g.call o;refine Br 2 Z<|Ag h λi h=>Cj Z Z Z VV k a.toNat (BP i) (An i) Z ?_;rintro af _ rfl p;refine Bh Z (B5 p (hH.trans e.arg)) Z<|Br 2 Z<|Ag h λj h=>Cj Z Z Z VV l a.toNat (BP j) (An j) Z ?_;rintro ag _ rfl s;refine Bh Z (B5 s (hH.trans e.arg)) Z<|Br 1 Z<|AT (λah t=>?_);have u:=e.call t;refine Ap<|Bt h ?_ ?_<;>intro x h
   ·have h:=AX.out h d;exact Bu
   refine Ag h λaa h=>Af ?_;have h:=AX.again h d;refine Ak (_,_) Z ⟨u,h⟩
  have h:=AX.out h d;refine Af ?_;refine Am () ⟨g,h⟩
 rintro _ ab ⟨ac,h⟩;exact Bu
def Lc(a0:Wl)(a1:Wl):Option Bool:=
 TI (decide (a0=a1))
theorem Ld{a0 a1:Wl}{a b:Value}(c:As .byte H a a0)(d:As .byte H b a1){r:Bool}(h:Lc a0 a1=TI r):
  Pd 26 [a,b] w (λv w'=>v=.bool r):=by
 refine Ai 10 [(0,a),(1,b)] func26 Z λhL=>Af ?_;refine AJ (O3 c (hH.trans hL.arg))<|AK 1 Z<|AJ (O3 d (hH.trans hL.arg))<|AJ (I5 Z Z)<|Bu
def MH(a1 a:Int):Option Int:=
 if a1<a then Ay (AL (a1+1)) (TI ((a1+1)))else TI a
def FG(a0:List Wl)(a1:Int):Int×Int->Option (Zv⊕(Int)):=λ⟨b,a⟩=>
 if(a<(a0.length:Int))/\(b<=a1)then Ay (0<=a/\a<(a0.length:Int)) (if a1<((a0.getD a.toNat Qq7).length:Int)then Ay (AL (a1+1)) (Sh Sum.inr (TI ((a1+1))))else Ay (0<=a/\a<(a0.length:Int)) (Ay (AL (b+((a0.getD a.toNat Qq7).length:Int))) (Ay (AL (a+1)) (TI (Sum.inl ((b+((a0.getD a.toNat Qq7).length:Int)),(a+1)))))))else Sh Sum.inr ((MH a1) b)
def TR(a0:List Wl)(a1:Int)(s:Int×Int):Option Int:=Go.L.run (FG a0 a1) s
def QS(a0:List Wl)(a1:Int):Option Int:=
 (TR a0 a1) (0,0)
theorem Src{a0:List Wl}{a1:Int}{d:Value}(g:As (.vec .byte) H d a0){r:Int}(h:QS a0 a1=TI r):
  Pd 27 [d,No a1] w (λv w'=>v=No r):=by
 refine Ai 40 [(0,d),(1,No a1)] func27 Z λhL=>Af ?_;refine AA Int (λc=>[(1,No a1),(5,No c)]) (λc wr=>AB w [] wr/\(MH a1) c=TI r) ?_ ?_
 ·refine Bx 1 Z<|A4 ?_;obtain⟨i,h⟩:=Ax h;refine AF (Int×Int×Nat) (λ⟨b,a,n⟩=>[(0,d),(1,No a1),(5,No b),(6,No a)]) (λ⟨b,a,n⟩ wr=>AB w [] wr/\D6 (FG a0 a1) n (b,a)=TI r) (λ⟨b,a,n⟩=>n) (0,0,i) Z ⟨hL,h⟩ ?_;rintro⟨b,a,nn51⟩ s ⟨e,h⟩;obtain⟨i,ab,rfl,h,f⟩:=Aw h;refine AR ?_;refine NC 3 4 Z Z Z Z Z Z<|Ap<|Ar h ?_ ?_<;>intro l h
  ·refine AR ?_;refine Ag h λj h=>A1 g a.toNat (BP j) (An j) ?_;rintro ac _ ⟨e55v0,rfl,e55h0⟩ m;refine sH m (hH.trans e.arg)<|Af ?_;refine Ar h ?_ ?_<;>intro o h
   ·refine Ag h λt h=>?_;have h:=AX.out h f;exact Bu
   refine Af ?_;refine Ag h λk h=>A1 g a.toNat (BP k) (An k) ?_;rintro ad _ ⟨e61v0,rfl,e61h0⟩ p;refine sH p (hH.trans e.arg)<|Ag h λu h=>Ag h λx h=>Af ?_;have h:=AX.again h f;refine Ak (_,_,_) Z ⟨e,h⟩
  have h:=AX.out h f;refine Af ?_;refine Am _ ⟨e,h⟩
 rintro c y ⟨z,h⟩;refine AR ?_;refine Ar h ?_ ?_<;>intro q h
 ·refine Ag h λaa h=>Bu
 exact Bu
def Il(a0:Int):Option UInt8:=
 if a0<10 then Ay (AL (48+a0)) (TI ((Go.L.u8 (48+a0))))else Ay (AL (97+a0)) (Ay (AL ((97+a0) - 10)) (TI ((Go.L.u8 ((97+a0) - 10)))))
theorem Qj{a0:Int}{r:UInt8}(h:Il a0=TI r):
  Pd 120 [No a0] w (λv w'=>v=.int .u8 (r.toNat:Int)):=by
 refine Ai 12 [(0,No a0)] func120 Z λhL=>AR ?_;refine Ar h ?_ ?_<;>intro a h
 ·refine Ag h λb h=>Af ?_;refine AJ (Er (G7 _))<|Bu
 refine Ag h λc h=>Ag h λd h=>Af ?_;refine AJ (Er (G7 _))<|Bu
def OD(a0:Wl):Option Bool:=
 Xd (Eb (a0.length:Int) (1:Int) (32:Int)) (λa=>TI a)
def CQ(a0:Wl):Int->Option ((Int)⊕(Bool)):=λa=>
 if a<(a0.length:Int)then Ay (0<=a/\a<(a0.length:Int)) (Xd (Eb ((a0.getD a.toNat Qq7).toNat:Int) (97:Int) (122:Int)) (λb=>if !b then if a=0 then Sh Sum.inr (TI false)else Xd (Eb ((a0.getD a.toNat Qq7).toNat:Int) (48:Int) (57:Int)) (λc=>if !c then if((a0.getD a.toNat Qq7).toNat:Int)=45 then Ay (AL (a+1)) (TI (Sum.inl (a+1)))else if((a0.getD a.toNat Qq7).toNat:Int)=95 then Ay (AL (a+1)) (TI (Sum.inl (a+1)))else if((a0.getD a.toNat Qq7).toNat:Int)=46 then Ay (AL (a+1)) (TI (Sum.inl (a+1)))else Sh Sum.inr (TI false)else Ay (AL (a+1)) (TI (Sum.inl (a+1))))else Ay (AL (a+1)) (TI (Sum.inl (a+1)))))else Sh Sum.inr ((OD a0))
def S0(a0:Wl)(s:Int):Option Bool:=Go.L.run (CQ a0) s
def Po(a0:Wl):Option Bool:=
 (S0 a0) (0:Int)
theorem QzD{a0:Wl}{r:Bool}(h:Po a0=TI r):
  Pd 216 [Pg a0] w (λv w'=>v=.bool r):=by
 refine Ai 42 [(0,(Pg a0))] func216 Z λhL=>Bx 1 Z<|AA Unit (λ(_:Unit)=>[(0,(Pg a0))]) (λ(_:Unit) wr=>AB w [] wr/\(OD a0)=TI r) ?_ ?_
 ·refine Bx 1 Z<|A4 ?_;obtain⟨c,h⟩:=Ax h;refine AF (Int×Nat) (λ⟨a,n⟩=>[(0,(Pg a0)),(3,No a)]) (λ⟨a,n⟩ wr=>AB w [] wr/\D6 (CQ a0) n a=TI r) (λ⟨a,n⟩=>n) (0,c) Z ⟨hL,h⟩ ?_;rintro⟨a,nn102⟩ aa ⟨e,h⟩;obtain⟨c,ak,rfl,h,b⟩:=Aw h;refine AR ?_;refine AJ (Dn Z)<|BJ 1 Z<|Ar h ?_ ?_<;>intro i h
  ·refine AR ?_;refine Ag h λj h=>AJ (Mo j)<|AJ (Er (GQ _))<|Af ?_;refine Ah h λal k h=>Al e (Db _ _ (Ae e) k) λam ab f x=>AK 2 Z<|Cf 18 h ?_ ?_<;>intro l h
   ·refine Af ?_;refine Bl 21 h ?_ ?_<;>intro m h
    ·refine Af ?_;refine Cm ?_;have h:=AX.out h b;exact Bu
    refine Af ?_;refine Ah h λan o h=>Al f (Db _ _ (Ae f) o) λao ac d y=>Af ?_;refine Cf 25 h ?_ ?_<;>intro p h
    ·refine Af ?_;refine Dm 29 h ?_ ?_<;>intro q h
     ·refine Af ?_;refine Dm 33 h ?_ ?_<;>intro s h
      ·refine Af ?_;refine Bt h ?_ ?_<;>intro t h
       ·have h:=AX.out h b;exact Bu
       refine Ag h λad h=>Af ?_;have h:=AX.again h b;refine Ak (_,_) Z ⟨d,h⟩
      refine Af ?_;refine BO<|Ag h λae h=>Af ?_;have h:=AX.again h b;refine Ak (_,_) Z ⟨d,h⟩
     refine Af ?_;refine BO<|Ag h λaf h=>Af ?_;have h:=AX.again h b;refine Ak (_,_) Z ⟨d,h⟩
    refine Af ?_;refine BO<|Ag h λag h=>Af ?_;have h:=AX.again h b;refine Ak (_,_) Z ⟨d,h⟩
   refine Af ?_;refine BO<|Ag h λah h=>Af ?_;have h:=AX.again h b;refine Ak (_,_) Z ⟨f,h⟩
  have h:=AX.out h b;refine Af ?_;refine Am () ⟨e,h⟩
 rintro _ ap ⟨g,h⟩;refine FA 1 Z<|AJ (Dn Z)<|Ah h λaq u h=>Al g (Db _ _ (Ae g) u) λar ai aj z=>Bu
def TS(a:List Wl):Option ((List Wl)):=
 TI a
def Dp(a0:Wl):(List Wl)×Int×Int->Option (((List Wl)×Int×Int)⊕((List Wl))):=λ⟨c,b,a⟩=>
 if a<=(a0.length:Int)then(if a=(a0.length:Int)then Ay (0<=b/\b<=a/\a<=(a0.length:Int)) (Ay (Go.E.Dx 16 (c.length+([((a0.drop b.toNat).take (a.toNat - b.toNat))]).length)) (Ay (AL (a+1)) (Ay (AL (a+1)) (TI (Sum.inl ((c++[((a0.drop b.toNat).take (a.toNat - b.toNat))]),(a+1),(a+1)))))))else Ay (0<=a/\a<(a0.length:Int)) (if((a0.getD a.toNat Qq7).toNat:Int)=47 then Ay (0<=b/\b<=a/\a<=(a0.length:Int)) (Ay (Go.E.Dx 16 (c.length+([((a0.drop b.toNat).take (a.toNat - b.toNat))]).length)) (Ay (AL (a+1)) (Ay (AL (a+1)) (TI (Sum.inl ((c++[((a0.drop b.toNat).take (a.toNat - b.toNat))]),(a+1),(a+1)))))))else Ay (AL (a+1)) (TI (Sum.inl (c,b,(a+1))))))else Sh Sum.inr (TS c)
def AnF(a0:Wl)(s:(List Wl)×Int×Int):Option ((List Wl)):=Go.L.run (Dp a0) s
def Mt(a0:Wl):Option ((List Wl)):=
 if a0=([]:Wl)then TI ([])else(AnF a0) (([]:List Wl),0,0)
theorem PC{a0:Wl}{r:(List Wl)}(h:Mt a0=TI r):
  Pd 122 [Pg a0] w (λv w'=>∃u0,v=u0/\B2 9 .st H w w' u0 r):=by
 refine Ai 34 [(0,(Pg a0))] func122 Z λhL=>AR ?_;refine AJ (I5 Z Z)<|Ap<|Ar h ?_ ?_<;>intro av h
 ·refine Af ?_
  cases h
  refine AD Z ⟨hL.ext,_,Z,B2.nil⟩
 obtain⟨aw,a8,ax⟩:=B3 .st H 9 hL;refine Af ?_;refine AA ((List Wl)×Value×LR) (λ⟨p,j,g⟩=>[(3,j)]) (λ⟨p,j,g⟩ wr=>Cd w [.row j 9 1 (p).length g] wr λOz=>Ao .st (gz H w wr Oz) p g/\TS p=TI r) ?_ ?_
 ·refine Bx 1 Z<|A4 ?_;obtain⟨q,h⟩:=Ax h;refine AF ((List Wl)×Int×Int×Value×LR×Nat) (λ⟨e,a,b,f,d,n⟩=>[(0,(Pg a0)),(3,f),(4,No a),(5,No b)]) (λ⟨e,a,b,f,d,n⟩ wr=>Cd w [.row f 9 1 (e).length d] wr λOz=>Ao .st (gz H w wr Oz) e d/\D6 (Dp a0) n (e,a,b)=TI r) (λ⟨e,a,b,f,d,n⟩=>n) (([]:List Wl),0,0,TO,[],q) Z ⟨aw,ax,h⟩ ?_;rintro⟨e,a,b,f,d,nn93⟩ a9 ⟨k,c,h⟩;obtain⟨q,bh,rfl,h,o⟩:=Aw h;refine AR ?_;refine AJ (Dn Z)<|BJ 1 Z<|Ar h ?_ ?_<;>intro ao h
  ·refine AR ?_;refine AJ (Dn Z)<|AK 2 Z<|Bl 18 h ?_ ?_<;>intro ap h
   ·refine Af ?_;refine Cm<|FA 4 Z<|Ag h λx h=>AJ (Aht x)<|Bi [((a0.drop a.toNat).take (b.toNat - a.toNat))] (r:=.st) (λ_=>Kr _ Z _) k (.c1 Z .nil) λba bb a1 y s z=>Ag h λaa h=>?_;have c:=c.mono (Aa s);refine Bf (r:=.st) 0 e [((a0.drop a.toNat).take (b.toNat - a.toNat))] Z Jk y Z c z aa λaq bc ab ac ay ad=>Ag h λa2 h=>Ag h λa3 h=>Af ?_;have h:=AX.again h o;refine Ak ((e++[((a0.drop a.toNat).take (b.toNat - a.toNat))]),(b+1),(b+1),aq,ab,q) Z ⟨ac,ad,h⟩
   refine Af ?_;refine Ag h λae h=>AJ (Mo ae)<|Af ?_;refine Ar h ?_ ?_<;>intro af h
   ·refine FA 4 Z<|Ag h λag h=>AJ (Aht ag)<|Bi [((a0.drop a.toNat).take (b.toNat - a.toNat))] (r:=.st) (λ_=>Kr _ Z _) k (.c1 Z .nil) λbd be a4 ah t ai=>Ag h λaj h=>?_;have c:=c.mono (Aa t);refine Bf (r:=.st) 0 e [((a0.drop a.toNat).take (b.toNat - a.toNat))] Z Jk ah Z c ai aj λar bf ak al az am=>Ag h λa5 h=>Ag h λa6 h=>Af ?_;have h:=AX.again h o;refine Ak ((e++[((a0.drop a.toNat).take (b.toNat - a.toNat))]),(b+1),(b+1),ar,ak,q) Z ⟨al,am,h⟩
   refine Ag h λa7 h=>Af ?_;have h:=AX.again h o;refine Ak (e,a,(b+1),f,d,q) Z ⟨k,c,h⟩
  have h:=AX.out h o;refine Af ?_;refine Am (_,_,_) ⟨k,c,h⟩
 rintro⟨p,j,g⟩ bg ⟨u,an,h⟩;refine Af ?_
 cases h
 refine AD Z ⟨u.ext,_,Z,(u.Ev hH (i:=0) Z an)⟩
def TT:Option Int:=
 TI ((-1))
def FH(a1:Bool)(c:(List Wl)):Int×Int->Option (Zv⊕(Int)):=λ⟨b,a⟩=>
 if a<(c.length:Int)then Ay (0<=a/\a<(c.length:Int)) (Xd (Po (c.getD a.toNat Qq7)) (λd=>if !d then Ay (0<=a/\a<(c.length:Int)) (if c.getD a.toNat Qq7=([35]:Wl)then Ay (0<=a/\a<(c.length:Int)) (Ay (AL (b+((c.getD a.toNat Qq7).length:Int))) (Ay (AL ((b+((c.getD a.toNat Qq7).length:Int))+1)) (Ay (AL (a+1)) (TI (Sum.inl (((b+((c.getD a.toNat Qq7).length:Int))+1),(a+1)))))))else if a1 then Ay (0<=a/\a<(c.length:Int)) (if c.getD a.toNat Qq7=([42]:Wl)then Ay (0<=a/\a<(c.length:Int)) (Ay (AL (b+((c.getD a.toNat Qq7).length:Int))) (Ay (AL ((b+((c.getD a.toNat Qq7).length:Int))+1)) (Ay (AL (a+1)) (TI (Sum.inl (((b+((c.getD a.toNat Qq7).length:Int))+1),(a+1)))))))else Ay (0<=a/\a<(c.length:Int)) (if c.getD a.toNat Qq7=([42,42]:Wl)then Ay (0<=a/\a<(c.length:Int)) (Ay (AL (b+((c.getD a.toNat Qq7).length:Int))) (Ay (AL ((b+((c.getD a.toNat Qq7).length:Int))+1)) (Ay (AL (a+1)) (TI (Sum.inl (((b+((c.getD a.toNat Qq7).length:Int))+1),(a+1)))))))else Sh Sum.inr (TI b)))else Sh Sum.inr (TI b))else Ay (0<=a/\a<(c.length:Int)) (Ay (AL (b+((c.getD a.toNat Qq7).length:Int))) (Ay (AL ((b+((c.getD a.toNat Qq7).length:Int))+1)) (Ay (AL (a+1)) (TI (Sum.inl (((b+((c.getD a.toNat Qq7).length:Int))+1),(a+1)))))))))else Sh Sum.inr TT
def Aeg(a1:Bool)(a:(List Wl))(s:Int×Int):Option Int:=Go.L.run (FH a1 a) s
def OE(a0:Wl)(a1:Bool):Option Int:=
 Xd (Mt a0) (λa=>(Aeg a1 a) (0,0))
theorem TU{a0:Wl}{a1:Bool}{r:Int}(h:OE a0 a1=TI r):
  Pd 169 [Pg a0,.bool a1] w (λv w'=>v=No r):=by
 refine Ai 56 [(0,(Pg a0)),(1,.bool a1)] func169 Z λhL=>Af ?_;refine Ah h λy ao h=>A9 hL (PC _ _ (Ae hL) ao) ?_;rintro z w2 ⟨_,rfl,aa⟩ ap aq bb;have ab:=aa.BB hH hL ap;refine Af ?_;refine AA Unit (λ(_:Unit)=>[]) (λ(_:Unit) wr=>AB w [] wr/\TT=TI r) ?_ ?_
 ·refine Bx 1 Z<|A4 ?_;obtain⟨f,h⟩:=Ax h;refine AF (Int×Int×Nat) (λ⟨c,a,n⟩=>[(1,.bool a1),(5,z),(6,No c),(7,No a)]) (λ⟨c,a,n⟩ wr=>Cd w [] wr λOz=>As .st (gz H w wr Oz) z y/\D6 (FH a1 y) n (c,a)=TI r) (λ⟨c,a,n⟩=>n) (0,0,f) Z ⟨aq,ab,h⟩ ?_;rintro⟨c,a,nn157⟩ ar ⟨g,b,h⟩;obtain⟨f,bc,rfl,h,e⟩:=Aw h;refine AR ?_;refine Ar h ?_ ?_<;>intro ac h
  ·refine AR ?_;refine Ag h λm h=>A1 b a.toNat (BP m) (An m) ?_;rintro bd _ rfl ad;refine sH ad (Ae g)<|Ah h λbe ae h=>Al g (QzD _ _ (Ae g) ae) λbf au d l=>AK 2 Z<|Cf 22 h ?_ ?_<;>intro i h
   ·refine Af ?_;refine Ag h λo h=>?_;have b:=b.mono (Aa l);refine A1 b a.toNat (BP o) (An o) ?_;rintro bg _ rfl af;refine Aj i<|sH af (Ae d)<|Aj i<|AJ (ND Z Z)<|Af ?_;refine Dm 29 h ?_ ?_<;>intro ag h
    ·refine Af ?_;refine Cf 31 h ?_ ?_<;>intro j h
     ·refine Af ?_;refine Ag h λp h=>A1 b a.toNat (BP p) (An p) ?_;rintro bh _ rfl ah;refine Aj j<|sH ah (Ae d)<|Aj j<|AJ (I5 Z Z)<|Af ?_;refine Bl 37 h ?_ ?_<;>intro k h
      ·refine Af ?_;refine BO<|Af ?_;refine Ag h λq h=>A1 b a.toNat (BP q) (An q) ?_;rintro bi _ rfl ai;refine sH ai (Ae d)<|AJ (Dn Z)<|Ag h λav h=>Ag h λaw h=>Ag h λax h=>Af ?_;have h:=AX.again h e;refine Ak (_,_,_) Z ⟨d,b,h⟩
      refine Af ?_;refine Ag h λs h=>A1 b a.toNat (BP s) (An s) ?_;rintro bj _ rfl aj;refine Aj k<|sH aj (Ae d)<|Aj k<|AJ (I5 Z Z)<|Af ?_;refine Bt h ?_ ?_<;>intro ak h
      ·have h:=AX.out h e;exact Bu
      refine Af ?_;refine Ag h λt h=>A1 b a.toNat (BP t) (An t) ?_;rintro bk _ rfl al;refine sH al (Ae d)<|AJ (Dn Z)<|Ag h λay h=>Ag h λaz h=>Ag h λa2 h=>Af ?_;have h:=AX.again h e;refine Ak (_,_,_) Z ⟨d,b,h⟩
     refine Af ?_;refine Cm ?_;have h:=AX.out h e;exact Bu
    refine Af ?_;refine BO<|Af ?_;refine Ag h λu h=>A1 b a.toNat (BP u) (An u) ?_;rintro bl _ rfl am;refine sH am (Ae d)<|AJ (Dn Z)<|Ag h λa3 h=>Ag h λa4 h=>Ag h λa5 h=>Af ?_;have h:=AX.again h e;refine Ak (_,_,_) Z ⟨d,b,h⟩
   refine Af ?_;refine BO<|Af ?_;refine Ag h λx h=>?_;have b:=b.mono (Aa l);refine A1 b a.toNat (BP x) (An x) ?_;rintro bm _ rfl an;refine sH an (Ae d)<|AJ (Dn Z)<|Ag h λa6 h=>Ag h λa7 h=>Ag h λa8 h=>Af ?_;have h:=AX.again h e;refine Ak (_,_,_) Z ⟨d,b,h⟩
  have h:=AX.out h e;refine Af ?_;refine Am () ⟨g,h⟩
 rintro _ a9 ⟨ba,h⟩;exact Bu
def I7(a0:Wl):Option Z7:=
 if 64<(a0.length:Int)then Xd (GF (3:Int) (-1:Int)) (λb=>TI ((b.1,b.2)))else Xd (OE a0 true) (λd=>if 0<=d then Xd (OE a0 true) (λc=>Xd (GF (1:Int) c) (λa=>TI ((a.1,a.2))))else TI ((0,0)))
theorem Wat{a0:Wl}{r:Z7}(h:I7 a0=TI r):
  Pd 119 [Pg a0] w (λv w'=>v=.agg #[No r.1,No r.2]):=by
 refine Ai 14 [(0,(Pg a0))] func119 Z λhL=>A5<|Aq Av.e Z hL λw1 b1 a x _=>AR ?_;refine AJ (Dn Z)<|BJ 1 Z<|Ar h ?_ ?_<;>intro l h
 ·refine A5<|Ah h λx4 m h=>Al a (Ec _ _ (Ae a) m) λw5 ad o y=>Ac 0 Z o Z λw6 f z=>Af ?_
  cases h
  refine Bz (.cell Z QW Z Av.e (box_pT 0 f Z)) ⟨f.ext,Z⟩
 refine AR ?_;refine Ah h λx8 p h=>Al a (TU _ _ (Ae a) p) λw9 ae b aa=>BJ 1 Z<|Ar h ?_ ?_<;>intro g h
 ·refine FA 1 Z<|Ah h λaf i h=>Al b (TU _ _ (Ae b) i) λag ab c q=>Ah h λah j h=>Al c (Ec _ _ (Ae c) j) λai ac k s=>Ac 0 Z k Z λaj d t=>Af ?_
  cases h
  refine Bz (.cell Z QW Z Av.e (box_pT 0 d Z)) ⟨d.ext,Z⟩
 refine Af ?_;refine AJ (A8 (λ_=>Bo _))<|Ac 0 Z b Z λak e u=>Af ?_
 cases h
 refine Bz (.cell Z QW Z Av.e (box_pT 0 e Z)) ⟨e.ext,Z⟩
end
def Lg:Option Bool:=
 TI false
def D8(a0:List Wl)(a1:List Wl)(self:(List Wl)->(List Wl)->Option Bool):Int->Option ((Int)⊕(Bool)):=λa=>
 if a<=(a1.length:Int)then Ay (0<=(1:Int)/\(1:Int)<=(a0.length:Int)) (Ay (0<=a/\a<=(a1.length:Int)) (Xd (self (a0.drop (1:Int).toNat) (a1.drop a.toNat)) (λb=>if b then Sh Sum.inr (TI true)else Ay (AL (a+1)) (TI (Sum.inl (a+1))))))else Sh Sum.inr Lg
def Qxx(a0:List Wl)(a1:List Wl)(self:(List Wl)->(List Wl)->Option Bool)(s:Int):Option Bool:=Go.L.run (D8 a0 a1 self) s
def Lh(a0:List Wl)(a1:List Wl)(self:(List Wl)->(List Wl)->Option Bool):Option Bool:=
 if 0<(a1.length:Int)then Ay (0<=(0:Int)/\(0:Int)<(a0.length:Int)) (if a0.getD ((0:Int).toNat) Qq7=([42]:Wl)then Ay (0<=(1:Int)/\(1:Int)<=(a0.length:Int)) (Ay (0<=(1:Int)/\(1:Int)<=(a1.length:Int)) (Xd (self (a0.drop (1:Int).toNat) (a1.drop (1:Int).toNat)) (λa=>TI a)))else Ay (0<=(0:Int)/\(0:Int)<(a0.length:Int)) (Ay (0<=(0:Int)/\(0:Int)<(a1.length:Int)) (if a0.getD ((0:Int).toNat) Qq7=a1.getD ((0:Int).toNat) Qq7 then Ay (0<=(1:Int)/\(1:Int)<=(a0.length:Int)) (Ay (0<=(1:Int)/\(1:Int)<=(a1.length:Int)) (Xd (self (a0.drop (1:Int).toNat) (a1.drop (1:Int).toNat)) (λb=>TI b)))else TI false)))else TI false
def GV(self:(List Wl)->(List Wl)->Option Bool)(a0:List Wl)(a1:List Wl):Option Bool:=
 if(a0.length:Int)=0 then TI (decide ((a1.length:Int)=0))else Ay (0<=(0:Int)/\(0:Int)<(a0.length:Int)) (if a0.getD ((0:Int).toNat) Qq7=([42,42]:Wl)then(Qxx a0 a1 self) (0:Int)else(Lh a0 a1 self))
def MW(self:(List Wl)->(List Wl)->Option Bool):Prop:=∀(w:World) (H:PH) (hH:Le H (hp w)) {a0:List Wl}{a1:List Wl}{a:Value}{b:Value} (c:As .st H a a0) (d:As .st H b a1) {r:Bool} (h:self a0 a1=TI r),Ok prog 123 [a,b] w (λv w'=>Ext w w'/\v=.bool r)
def Hm:Nat->(List Wl)->(List Wl)->Option Bool
 | 0=>λ_ _=>none
 | n+1=>GV (Hm n)
def VQ:(List Wl)->(List Wl)->Option Bool:=Hm 1000
def Qkv(self:(List Wl)->(List Wl)->Option Bool)(hself:MW self):MW (GV self):=by
 intro w H hH a0 a1 k l f g r h;unfold MW at hself;refine Ai 53 [(0,k),(1,l)] func123 Z λhL=>AR ?_;refine Ar h ?_ ?_<;>intro a9 h
 ·exact Bu
 refine Af ?_;refine AA Unit (λ(_:Unit)=>[(0,k),(1,l)]) (λ(_:Unit) wr=>AB w [] wr/\(Lh a0 a1 self)=TI r) ?_ ?_
 ·refine FA 1 Z<|Ag h λz h=>A1 f ((0:Int).toNat) (BP z) (An z) ?_;rintro b7 _ rfl a6;refine sH a6 (hH.trans hL.arg)<|AJ (I5 Z Z)<|Ap<|Ar h ?_ ?_<;>intro a7 h
  ·refine AA Unit (λ(_:Unit)=>[]) (λ(_:Unit) wr=>AB w [] wr/\Lg=TI r) ?_ ?_
   ·refine Bx 1 Z<|A4 ?_;obtain⟨m,h⟩:=Ax h;refine AF (Int×Nat) (λ⟨e,n⟩=>[(0,k),(1,l),(5,No e)]) (λ⟨e,n⟩ wr=>AB w [] wr/\D6 (D8 a0 a1 self) n e=TI r) (λ⟨e,n⟩=>n) (0,m) Z ⟨hL,h⟩ ?_;rintro⟨e,nn113⟩ ba ⟨o,h⟩;obtain⟨m,bg,rfl,h,i⟩:=Aw h;refine AR ?_;refine Ar h ?_ ?_<;>intro aa h
    ·refine AR ?_;refine BF (Zt 0 6 (.tail 6)) mixed SF (λbh ab=>?_);have j:=o.call ab;refine Br 1 Z<|Ag h λac h=>PZ Z Z Jk f ac Z λbi ad=>Br 2 Z<|Ag h λae h=>PZ Z Z Jk g ae Z λbj af=>Ah h λbk ag h=>DY Z Z Z (λbl p=>hself _ _ (Le.refl _) ((ad.mono (hH.trans j.arg)).mono p.le) ((af.mono (hH.trans j.arg)).mono p.le) ag)<|AT (λbm ah=>?_);have ai:=j.call ah;refine Ap<|AH h ?_ ?_<;>intro aj h
     ·have h:=AX.out h i;exact Bu
     refine Ag h λbb h=>Af ?_;have h:=AX.again h i;refine Ak (_,_) Z ⟨ai,h⟩
    have h:=AX.out h i;refine Af ?_;refine Am () ⟨o,h⟩
   rintro _ bn ⟨bo,h⟩;exact Bu
  refine Ca<|Am () ⟨hL,h⟩
 rintro _ bp ⟨a8,h⟩;refine BF (Zt 0 26 (.tail 26)) mixed SF (λbq ak=>?_);have c:=a8.call ak;refine Br 1 Z<|Bh Z (W2 g) Z<|Br 2 Z<|FX 31 Z (λa=>?_) (λa=>?_)
 ·have h:=JP (Z4 a) h;refine Cr Z (Az Z) Z Z Z a Z<|Ag h λt h=>GP Z Z Z Z a Z Z Jk f ((0:Int).toNat) (BP t) (An t) Z ?_;rintro br _ rfl al;refine Cr Z (B5 al (hH.trans c.arg)) Z Z Z a Z<|Cr Z (I5 Z Z) Z Z Z a Z<|Cr Z (Az Z) Z Z Z a Z<|FX 36 Z (λb=>?_) (λb=>?_)
  ·have h:=JP (Z4 b) h
   iterate 7 refine Mm Z Z Z Z b Z ?_
   refine Cr Z (CA b Z) Z Z Z a Z<|Bh Z (CA a Z) Z<|Br 1 Z<|Cr Z (Az Z) Z Z Z Z Z<|Ag h λam h=>KF Z Z Z Jk f am Z λbs an=>Cr Z (Az Z) Z Z Z Z Z<|Ag h λao h=>KF Z Z Z Jk g ao Z λbt ap=>Ah h λbu aq h=>MC Z Z Z Z Z Z Z (λbv u=>hself _ _ (Le.refl _) ((an.mono (hH.trans c.arg)).mono u.le) ((ap.mono (hH.trans c.arg)).mono u.le) aq)<|Bh Z (CA Z Z) Z<|Br 1 Z<|AT (λbw ar=>?_);have bc:=c.call ar;exact Bu
  have h:=JQ (of_decide_eq_false b) h;refine Cr Z (Az Z) Z Z Z b Z<|Ag h λv h=>GP Z Z Z Z b Z Z Jk f ((0:Int).toNat) (BP v) (An v) Z ?_;rintro bx _ rfl au;refine Cr Z (B5 au (hH.trans c.arg)) Z Z Z b Z<|Cr Z (Az Z) Z Z Z b Z<|Ag h λx h=>GP Z Z Z Z b Z Z Jk g ((0:Int).toNat) (BP x) (An x) Z ?_;rintro bz _ rfl av;refine Cr Z (B5 av (hH.trans c.arg)) Z Z Z b Z<|Cr Z (I5 Z Z) Z Z Z b Z<|Cr Z (B4 b Z) Z Z Z a Z<|Bh Z (CA a Z) Z<|Br 1 Z<|FX 46 Z (λd=>?_) (λd=>?_)
  ·have h:=JP (Z4 d) h;refine Cr Z (Az Z) Z Z Z d Z<|Ag h λaw h=>KF Z d Z Jk f aw Z λb0 ax=>Cr Z (Az Z) Z Z Z d Z<|Ag h λay h=>KF Z d Z Jk g ay Z λb1 az=>Ah h λb2 a2 h=>MC Z Z Z Z d Z Z (λb3 y=>hself _ _ (Le.refl _) ((ax.mono (hH.trans c.arg)).mono y.le) ((az.mono (hH.trans c.arg)).mono y.le) a2)<|Bh Z (CA d Z) Z<|Br 1 Z<|AT (λb4 a3=>?_);have bd:=c.call a3;exact Bu
  have h:=JQ (of_decide_eq_false d) h
  iterate 5 refine Mm Z Z Z Z d Z ?_
  refine Bh Z (B4 d Z) Z<|Br 1 Z<|AT (λb5 a4=>?_);have be:=c.call a4;exact Bu
 have h:=JQ (of_decide_eq_false a) h
 iterate 5 refine Mm Z Z Z Z a Z ?_
 iterate 7 refine Pc Z Z Z Z Z ?_
 refine Mm Z Z Z Z a Z<|Bh Z (B4 a Z) Z<|Br 1 Z ?_
 iterate 5 refine Mm Z Z Z Z Z Z ?_
 refine Bh Z (B4 Z Z) Z<|Br 1 Z<|AT (λb6 a5=>?_);have bf:=c.call a5;exact Bu
theorem Qqb(n:Nat):MW (Hm n):=by
 induction n with
 | zero=>unfold MW;intros;rename_i h;cases h
 | succ n ih=>exact Qkv (Hm n) ih
section
variable(w:World)(H:PH)(hH:Le H (hp w)) include hH
theorem AaT{a0 a1:List Wl}{a b:Value}(c:As .st H a a0)(d:As .st H b a1){r:Bool}(h:VQ a0 a1=TI r):Ok prog 123 [a,b] w (λv w'=>Ext w w'/\v=.bool r):=Qqb 1000 w H hH c d h
def Nx(a1:Wl)(c:List Wl):Option Bool:=
 Xd (Mt a1) (λa=>Xd (VQ c a) (λb=>TI b))
def Jx(a1:Wl)(c:(List Wl)):(List Wl)×Int->Option (((List Wl)×Int)⊕(Bool)):=λ⟨b,a⟩=>
 if a<(c.length:Int)then Ay (0<=a/\a<(c.length:Int)) (if c.getD a.toNat Qq7=([42,42]:Wl)then if(b.length:Int)=0 then Ay (0<=a/\a<(c.length:Int)) (Ay (Go.E.Dx 16 (b.length+([c.getD a.toNat Qq7]).length)) (Ay (AL (a+1)) (TI (Sum.inl ((b++[c.getD a.toNat Qq7]),(a+1))))))else Ay (AL ((b.length:Int) - 1)) (Ay (0<=((b.length:Int) - 1)/\((b.length:Int) - 1)<(b.length:Int)) (if b.getD (((b.length:Int) - 1).toNat) Qq7=([42,42]:Wl)then Ay (AL (a+1)) (TI (Sum.inl (b,(a+1))))else Ay (0<=a/\a<(c.length:Int)) (Ay (Go.E.Dx 16 (b.length+([c.getD a.toNat Qq7]).length)) (Ay (AL (a+1)) (TI (Sum.inl ((b++[c.getD a.toNat Qq7]),(a+1))))))))else Ay (0<=a/\a<(c.length:Int)) (Ay (Go.E.Dx 16 (b.length+([c.getD a.toNat Qq7]).length)) (Ay (AL (a+1)) (TI (Sum.inl ((b++[c.getD a.toNat Qq7]),(a+1)))))))else Sh Sum.inr ((Nx a1) b)
def RE(a1:Wl)(a:(List Wl))(s:(List Wl)×Int):Option Bool:=Go.L.run (Jx a1 a) s
def Fz(a0:Wl)(a1:Wl):Option Bool:=
 Xd (Mt a0) (λa=>(RE a1 a) (([]:List Wl),0))
theorem Ny{a0 a1:Wl}{r:Bool}(h:Fz a0 a1=TI r):
  Pd 74 [Pg a0,Pg a1] w (λv w'=>v=.bool r):=by
 refine Ai 46 [(0,(Pg a0)),(1,(Pg a1))] func74 Z λhL=>Af ?_;refine Ah h λp br h=>A9 hL (PC _ _ (Ae hL) br) ?_;rintro ak w2 ⟨_,rfl,ap⟩ bs bt ca;have q:=ap.BB hH hL bs;obtain⟨bu,bn,bv⟩:=B3 .st H 9 bt;refine Af ?_;refine AA ((List Wl)×Value×LR) (λ⟨y,s,o⟩=>[(1,(Pg a1)),(6,s)]) (λ⟨y,s,o⟩ wr=>Cd w [.row s 9 1 (y).length o] wr λOz=>Ao .st (gz H w wr Oz) y o/\(Nx a1) y=TI r) ?_ ?_
 ·refine Bx 1 Z<|A4 ?_;obtain⟨k,h⟩:=Ax h;have q:=q.mono (Aa bn);refine AF ((List Wl)×Int×Value×LR×Nat) (λ⟨e,a,g,f,n⟩=>[(1,(Pg a1)),(5,ak),(6,g),(7,No a)]) (λ⟨e,a,g,f,n⟩ wr=>Cd w [.row g 9 1 (e).length f] wr λOz=>As .st (gz H w wr Oz) ak p/\Ao .st (gz H w wr Oz) e f/\D6 (Jx a1 p) n (e,a)=TI r) (λ⟨e,a,g,f,n⟩=>n) (([]:List Wl),0,TO,[],k) Z ⟨bu,q,bv,h⟩ ?_;rintro⟨e,a,g,f,nn123⟩ bz ⟨d,b,c,h⟩;obtain⟨k,cb,rfl,h,j⟩:=Aw h;refine AR ?_;refine Ar h ?_ ?_<;>intro aq h
  ·refine AR ?_;refine Ag h λad h=>A1 b a.toNat (BP ad) (An ad) ?_;rintro cc _ rfl ar;refine sH ar (Ae d)<|AJ (ND Z Z)<|AK 1 Z<|Dm 21 h ?_ ?_<;>intro au h
   ·refine Af ?_;refine Cm<|Af ?_;refine Ag h λae h=>A1 b a.toNat (BP ae) (An ae) ?_;rintro cd _ rfl av;refine sH av (Ae d)<|Bi [p.getD a.toNat Qq7] (r:=.st) (λ_=>Kr _ Z _) d (.c1 Z .nil) λce cf b0 aw z ax=>Ag h λay h=>?_;have c:=c.mono (Aa z);refine Bf (r:=.st) 0 e [p.getD a.toNat Qq7] Z Jk aw Z c ax ay λbo cg az a2 al a3=>Ag h λb1 h=>Af ?_;have h:=AX.again h j;have b:=b.mono (Aa (z.trans al));refine Ak (_,_,_,_,_) Z ⟨a2,b,a3,h⟩
   refine Af ?_;refine AJ (O1 0 Z d Z)<|Af ?_;refine Bl 26 h ?_ ?_<;>intro t h
   ·refine Af ?_;refine Cm<|Af ?_;refine Ag h λaf h=>A1 b a.toNat (BP af) (An af) ?_;rintro ch _ rfl a4;refine sH a4 (Ae d)<|Bi [p.getD a.toNat Qq7] (r:=.st) (λ_=>Kr _ Z _) d (.c1 Z .nil) λci cj b2 a5 aa a6=>Ag h λa7 h=>?_;have c:=c.mono (Aa aa);refine Bf (r:=.st) 0 e [p.getD a.toNat Qq7] Z Jk a5 Z c a6 a7 λbp ck a8 a9 am ba=>Ag h λb3 h=>Af ?_;have h:=AX.again h j;have b:=b.mono (Aa (aa.trans am));refine Ak (_,_,_,_,_) Z ⟨a9,b,ba,h⟩
   refine Af ?_;refine AJ (O1 0 Z d Z)<|Ag h λb4 h=>Af ?_;refine Ag h λag h=>A1 (d.Jv hH (i:=0) Z c) (((e.length:Int) - 1).toNat) (BP ag) (An ag) ?_;rintro cl _ rfl bb;refine Aj t<|sH bb (Le.refl _)<|Aj t<|AJ (ND Z Z)<|Af ?_;refine Bt h ?_ ?_<;>intro bc h
   ·refine Af ?_;refine Ag h λah h=>A1 b a.toNat (BP ah) (An ah) ?_;rintro cm _ rfl bd;refine sH bd (Ae d)<|Bi [p.getD a.toNat Qq7] (r:=.st) (λ_=>Kr _ Z _) d (.c1 Z .nil) λcn co b5 be ab bf=>Ag h λbg h=>?_;have c:=c.mono (Aa ab);refine Bf (r:=.st) 0 e [p.getD a.toNat Qq7] Z Jk be Z c bf bg λbq cp bh bi an bj=>Ag h λb6 h=>Af ?_;have h:=AX.again h j;have b:=b.mono (Aa (ab.trans an));refine Ak (_,_,_,_,_) Z ⟨bi,b,bj,h⟩
   refine Ag h λb7 h=>Af ?_;have h:=AX.again h j;refine Ak (_,_,_,_,_) Z ⟨d,b,c,h⟩
  have h:=AX.out h j;refine Af ?_;refine Am (_,_,_) ⟨d,c,h⟩
 rintro⟨y,s,o⟩ cq ⟨ac,u,h⟩;refine FA 2 Z<|Ah h λcr bk h=>A9 ac (PC _ _ (Ae ac) bk) ?_;rintro bw cs ⟨_,rfl,ai⟩ bl x ao;have aj:=ai.BB hH ac bl;refine Ah h λct bm h=>?_;have u:=u.mono (Aa ao);refine Al x (AaT _ _ (Le.refl _) (x.Jv hH (i:=0) Z u) (aj.mono (Ae x)) bm) λcu b8 b9 bx=>Bu
def TV:Option Bool:=
 TI true
def S2(a0:List Wl)(a1:List Wl):Int->Option ((Int)⊕(Bool)):=λa=>
 if a<(a0.length:Int)then Ay (0<=a/\a<(a0.length:Int)) (Ay (0<=a/\a<(a1.length:Int)) (if a0.getD a.toNat Qq7=a1.getD a.toNat Qq7 then Ay (AL (a+1)) (TI (Sum.inl (a+1)))else none))else Sh Sum.inr TV
def QxB(a0:List Wl)(a1:List Wl)(s:Int):Option Bool:=Go.L.run (S2 a0 a1) s
def AaD(a0:List Wl)(a1:List Wl):Option Bool:=
 if(a0.length:Int)=(a1.length:Int)then(QxB a0 a1) (0:Int)else none
theorem Qq5{a0 a1:List Wl}{b c:Value}(k:As .st H b a0)(l:As .st H c a1){r:Bool}(h:AaD a0 a1=TI r):
  Pd 58 [b,c] w (λv w'=>v=.bool r):=by
 refine Ai 26 [(0,b),(1,c)] func58 Z λhL=>AR ?_;refine Bt h ?_ ?_<;>intro y h
 ·cases h
 refine Af ?_;refine AA Unit (λ(_:Unit)=>[]) (λ(_:Unit) wr=>AB w [] wr/\TV=TI r) ?_ ?_
 ·refine Bx 1 Z<|A4 ?_;obtain⟨e,h⟩:=Ax h;refine AF (Int×Nat) (λ⟨a,n⟩=>[(0,b),(1,c),(5,No a)]) (λ⟨a,n⟩ wr=>AB w [] wr/\D6 (S2 a0 a1) n a=TI r) (λ⟨a,n⟩=>n) (0,e) Z ⟨hL,h⟩ ?_;rintro⟨a,nn57⟩ z ⟨f,h⟩;obtain⟨e,ad,rfl,h,g⟩:=Aw h;refine AR ?_;refine Ar h ?_ ?_<;>intro m h
  ·refine AR ?_;refine BF (Zt 0 9 (.tail 9)) mixed SF (λae o=>?_);have d:=f.call o;refine Br 2 Z<|Ag h λi h=>Cj Z Z Z Jk k a.toNat (BP i) (An i) Z ?_;rintro af _ rfl p;refine Bh Z (B5 p (hH.trans d.arg)) Z<|Br 2 Z<|Ag h λj h=>Cj Z Z Z Jk l a.toNat (BP j) (An j) Z ?_;rintro ag _ rfl s;refine Bh Z (B5 s (hH.trans d.arg)) Z<|Bh Z (ND Z Z) Z<|AT (λah t=>?_);have u:=d.call t;refine Ap<|Bt h ?_ ?_<;>intro x h
   ·cases h
   refine Ag h λaa h=>Af ?_;have h:=AX.again h g;refine Ak (_,_) Z ⟨u,h⟩
  have h:=AX.out h g;refine Af ?_;refine Am () ⟨f,h⟩
 rintro _ ab ⟨ac,h⟩;exact Bu
def S3(a0:Int):Option (Pv):=
 TI ((Pv.mk (1:Int) a0 ([]) ([]) ([])))
theorem AaG{a0:Int}{r:Pv}(h:S3 a0=TI r):
  Pd 22 [No a0] w (λv w'=>∃b c d,v=.agg #[No r.f.1,No r.f.2.1,b,c,d]/\B2 5 .byte H w w' b (r.f.2.2.1)/\B2 9 .st H w w' c (r.f.2.2.2.1)/\B2 54 .tree H w w' d (r.f.2.2.2.2)):=by
 refine Ai 5 [(0,No a0)] func22 Z λhL=>A5<|Aq Is.e Z hL λj k e g _=>Af ?_;refine AJ (A8 (λ_=>AfE _ _ _))<|Ac 0 Z e Z λl a i=>Af ?_
 cases h
 refine Bz (.cell Z KR Z Is.e (box_pT 0 a Z)) ⟨a.ext,_,_,_,Z,B2.nil,B2.nil,B2.nil⟩
def Aaa(a0:Wl):Option (Qv):=
 TI ((Qv.mk (1:Int) ([a0]) ([]:Wl) ([]) (0:Int) (0:Int) ([])))
theorem AaU{a0:Wl}{r:Qv}(h:Aaa a0=TI r):
  Pd 19 [Pg a0] w (λv w'=>∃d e g,v=.agg #[No r.f.1,d,Pg r.f.2.2.1,e,No r.f.2.2.2.2.1,No r.f.2.2.2.2.2.1,g]/\As .st (un H (nw w w')) d (r.f.2.1)/\B2 5 .byte H w w' e (r.f.2.2.2.1)/\B2 27 .AN H w w' g (r.f.2.2.2.2.2.2)):=by
 refine Ai 6 [(0,(Pg a0))] func19 Z λhL=>A5<|Aq Bs.e Z hL λp q i k _=>Af ?_;refine Bi [a0] (r:=.st) (λ_=>Kr _ Z _) i (.c1 Z .nil) λs t o j m a=>AJ (A8 (λ_=>Ae4 _ _ a.one _))<|Ac 0 Z j Z (a:=(AV Z (AV a.one (A6 Z)))) λu b c=>Af ?_
 cases h
 refine Bz (.cell Z Vv Z Bs.e (box_pT 0 b Z)) ?_;have a:=a.mono (Aa c);exact⟨b.ext,_,_,_,Z,(a.mono  Dl),B2.nil,B2.nil⟩
end
end Go.Proofs.YtgaljodghpgdmaaGreatDoor
end
