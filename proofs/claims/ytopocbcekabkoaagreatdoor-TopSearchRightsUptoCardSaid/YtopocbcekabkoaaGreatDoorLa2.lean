/- Texts of a claim, merged. -/
import Derived.Test.YtopocbcekabkoaaGreatDoorLa1
import Derived.Lib.Builder
import Derived.Lib.UnsafeStr
import Derived.Lib.OthersKept
import Derived.Lib.SliceRun
import Derived.Test.YtopocbcekabkoaaGreatDoorRows
import Derived.KernelRfl
import Derived.Shelf.Strings.FuncGrows
open _root_.Go.Proofs.Tryz renaming underlying33→Aco,underlying125→Ads,underlying27→Ae1,underlying35→Ae3,underlying26→Ae5
open Option renaming bind_some->Qzq,bind->Qq9,map->Qzx
open List renaming getD_eq_getElem?_getD->Qzj,length_cons->Qzc,replicate->Qzv,length_map->Qza,range->Qzb,getElem?_eq_some_iff->Qz6,append_nil->QzZ,eq_nil_of_length_eq_zero->Qxd,length_nil->QzB,length_take->QzC,map_cons->QzA,take_of_length_le->Qxb,mem_range->QzE,getElem?_map->Qxq,nil_append->Qxe,append_assoc->QxB,cons_append->Qx1,map_congr_left->QkQ,map_map->Qkk
open Int renaming toNat_natCast->Qzk,toNat_of_nonneg->Qx5,eq_ofNat_of_zero_le->Qx4
open Prod renaming fst->Qzz
open Nat renaming le_refl->Qzu,blt->Qzw,zero_add->QzJ,mul_one->Qz9,lt_or_ge->Qxa,add_zero->Qxf,beq->QxA,lt_succ_iff_lt_or_eq->Qjf
open HAppend renaming hAppend->Qzf
open Bool renaming and_eq_true->QzQ,eq_iff_iff->Qz7,false_eq_true->Qxk,or_eq_true->Qxj,not_false->QkB
open Array renaming getD_eq_getD_getElem?->Qke,getElem?_eq_none->Qjq
open BitVec renaming ofInt->QxE
open ByteArray renaming size->Qx6
set_option linter.unusedVariables false
set_option linter.unusedSimpArgs false
set_option linter.unusedSectionVars false
noncomputable section
namespace Go.E
open Go Go.RowKit
structure Nb (α:Type) where
 pre:α->Qq6
 dat:α->Qq4
 upd:α->Qq4->α
 sz:Nat
 len:∀x,(pre x).length+1=sz
 one:∀x,∀u∈pre x,u.oneCell'=true
 AlC:∀x d,pre (upd x d)=pre x
 AlD:∀x d,dat (upd x d)=d
def Nb.b:Nb Qq4:=⟨fun _=>[],fun x=>x,fun _ d=>d,1,fun _=>Z,(fun _ _ h=>by cases h),fun _ _=>Z,fun _ _=>Z⟩
def Nb.s:Nb (Int×Qq4):=⟨fun x=>[.int .i64 x.1],fun x=>x.2,fun x d=>(x.1,d),2,fun _=>Z,(fun _ u h=>by simp at h;subst h;rfl),fun _ _=>Z,fun _ _=>Z⟩
section
variable {α:Type} (N:Nb α) (e:TypeId)
end
section
variable {α:Type}{N:Nb α}{e:TypeId}
theorem T3:∀(A T:List BV) (i:Nat),Dz (A++T) (A.length+i)=Dz T i
 | [],T,i=>by rw[Qxe,QzB,QzJ]
 | a::A,T,i=>by rw[Qzc,show A.length+1+i=(A.length+i)+1 by omega];exact T3 A T i
theorem Aaj:∀(A T:List BV) (i:Nat) (r:BV),CE (A++T) (A.length+i) r=A++CE T i r
 | [],T,i,r=>by rw[Qxe,QzB,QzJ,Qxe]
 | a::A,T,i,r=>by rw[Qzc,show A.length+1+i=(A.length+i)+1 by omega];exact congrArg (a :: ·) (Aaj A T i r)
theorem KT:∀{A:List BV}{i:Nat}{r:BV} (T:List BV),Dz A i=some r->Dz (A++T) i=some r
 | _::_,0,_,_,h=>h
 | _::A,i+1,_,T,h=>KT (A:=A) (i:=i) T h
theorem Py:∀{A:List BV}{i:Nat}{r:BV} (s:BV) (T:List BV),Dz A i=some r->CE (A++T) i s=CE A i s++T
 | _::_,0,_,_,_,_=>rfl
 | a::A,i+1,_,s,T,h=>congrArg (a :: ·) (Py (A:=A) (i:=i) s T h)
end
section
variable {P:Program}{n:Sz}{ops:Array Oper}{Q:Exit->Act->World->Prop}{L:Env}{w w0:World}{O:List BV}{rest:List Oper}
 {d:Nat}{ty:TypeId}{pos:String}{af:Array Edge}{α:Type} [Inhabited α] {N:Nb α}{x y:Operand}{vo:Value}{t e eo:TypeId}{A:List BV}{l:List α}{vs:Qq6}
end
section
variable {P:Program}{n:Sz}{ops:Array Oper}{Q:Exit->Act->World->Prop}{L:Env}{w w0:World}{rest:List Oper}
 {d d':Nat}{ty ty':TypeId}{pos pos':String}{af af':Array Edge}{α:Type}{N:Nb α}{x:Operand}{v vo:Value}{t e eo:TypeId}{H:PH}{l:List α}{vs:Qq6}
end
section
variable {w w' w0:World}{A T O O':List BV}{α:Type}{N:Nb α}{r:Rp α}{vo:Value}{e eo:TypeId}{H:PH}{l:List α}{vs:Qq6}
theorem Aak:∀(A T:List BV) (i:Nat),Pw (A++T) (A.length+i)=A++Pw T i
 | [],T,i=>by rw[Qxe,QzB,QzJ,Qxe]
 | a::A,T,i=>by rw[Qzc,show A.length+1+i=(A.length+i)+1 by omega];exact congrArg (a :: ·) (Aak A T i)
end
end Go.E
namespace Go.L
def BF{κ β:Type}[DecidableEq κ](d:β)(k:κ):List (κ×β)->β
 | []=>d
 | (a,y)::l=>if k=a then y else BF d k l
def Dm{κ β:Type}[DecidableEq κ](k:κ)(y:β):List (κ×β)->List (κ×β)
 | []=>[(k,y)]
 | (a,z)::l=>if k=a then(a,y)::l else(a,z)::Dm k y l
end Go.L
namespace Go.E
open Go Go.RowKit
def mE{κ:Type}(enc:κ->Value):Nat->List κ->Qq6->List MapEntry
 | i,k::l,v::vs=>⟨enc k,v,i⟩::mE enc (i+1) l vs
 | _,_,_=>[]
def mI{κ:Type}[DecidableEq κ](k:κ):List κ->Option Nat
 | []=>none
 | a::l=>if k=a then some 0 else(mI k l).map (· + 1)
section
variable {κ:Type}{enc:κ->Value}{k:κ}
theorem YW{v:Value}:∀(l:List κ) (vs:Qq6) (i:Nat),l.length=vs.length->mE enc i l vs++[⟨enc k,v,i+l.length⟩]=mE enc i (l++[k]) (vs++[v])
 | [],[],i,_=>by simp[mE]
 | a::l,u::vs,i,h=>by
  have:=YW (v:=v) l vs (i+1) (by simpa using h);simp only[mE,Qx1,Qzc];rw[<- this,show i+(l.length+1)=i+1+l.length by omega]
theorem U0:∀(l:List κ) (vs:Qq6) (i m:Nat) (a:κ),l.length=vs.length->l[m]? = some a->(mE enc i l vs)[m]? = some ⟨enc a,vs.getD m Qq2,i+m⟩
 | b::l,u::vs,i,0,a,_,h=>by simp at h;subst h;simp[mE]
 | b::l,u::vs,i,m+1,a,hl,h=>by
  have:=U0 l vs (i+1) m a (by simpa using hl) (by simpa using h);simp only[mE,List.getElem?_cons_succ,this];simp;omega
theorem Yj{v:Value}:∀(l:List κ) (vs:Qq6) (i m:Nat),l.length=vs.length->l[m]? = some k->(mE enc i l vs).modify m (fun e=>{e with key:=enc k,val:=v})=mE enc i l (vs.set m v)
 | b::l,u::vs,i,0,_,h=>by simp at h;subst h;simp[mE]
 | b::l,u::vs,i,m+1,hl,h=>by
  have:=Yj (v:=v) l vs (i+1) m (by simpa using hl) (by simpa using h);simp only[mE,List.modify_succ_cons,List.set_cons_succ,this]
theorem U1:∀(l:List κ) (vs:Qq6) (i:Nat),l.length=vs.length->(mE enc i l vs).length=l.length
 | [],[],_,_=>rfl
 | a::l,u::vs,i,h=>by simp[mE,U1 l vs (i+1) (by simpa using h)]
end
structure MB (P:Program) {κ:Type} [DecidableEq κ] (kt:TypeId) (enc:κ->Value):Prop where
 check:∀(b:Bool) (k:κ) w,(Instr.checkKey b 10000 kt (enc k)).run P w=.ok () w
 bits:∀k,Instr.sameBits 10000 (enc k) (enc k)=true
 find:∃dd,P.underlying kt=some dd/\((∀a b,Instr.sameNow dd (enc a) (enc b)=some (decide (a=b)))\/
  ((∀a b,Instr.sameNow dd (enc a) (enc b)=none)/\∀a b w,(Op.equal kt (enc a) (enc b)).run P w=.ok (decide (a=b)) w))
section
variable {P:Program}{κ:Type} [DecidableEq κ] {kt t et:TypeId}{enc:κ->Value}{k:κ}
theorem Yk:∀{l:List κ}{m:Nat},mI k l=some m->m<l.length/\l[m]? = some k
 | a::l,m,h=>by
  simp only[mI]at h
  split at h
  ·rename_i e;cases h;subst e;simp
  ·cases b:mI k l with
   | none=>rw[b]at h;cases h
   | some j=>
    rw[b]at h;cases h;have:=Yk b
    simpa using this
theorem Wz{dd:TypeDesc}(h:∀a b,Instr.sameNow dd (enc a) (enc b)=some (decide (a=b))):∀(l:List κ) (vs:Qq6) (i j:Nat),l.length=vs.length->
  Instr.findNow dd (enc k) (mE enc i l vs) j=some ((mI k l).map fun m=>(j+m,vs.getD m Qq2))
 | [],_,_,_,_=>by simp[mE,Instr.findNow,mI]
 | a::l,v::vs,i,j,hl=>by
  simp only[mE,Instr.findNow,h,mI]
  by_cases e:k=a
  ·simp[e]
  ·simp only[e,decide_false];rw[Wz h l vs (i+1) (j+1) (by simpa using hl)]
   cases mI k l with
   | none=>simp
   | some m=>simp;omega
theorem SC(h:∀a b w,(Op.equal kt (enc a) (enc b)).run P w=.ok (decide (a=b)) w)(w:World):∀(l:List κ) (vs:Qq6) (i j:Nat),l.length=vs.length->
  (Instr.findAsking kt (enc k) (mE enc i l vs) j).run P w=.ok ((mI k l).map fun m=>(j+m,vs.getD m Qq2)) w
 | [],_,_,_,_=>by simp[mE,Instr.findAsking,mI]
 | a::l,v::vs,i,j,hl=>by
  simp only[mE,Instr.findAsking,mI,Sem.run_bind,h,Result.andThen]
  by_cases e:k=a
  ·simp[e]
  ·simp only[e,decide_false];rw[if_neg Qqd,SC h w l vs (i+1) (j+1) (by simpa using hl)]
   cases mI k l with
   | none=>simp
   | some m=>simp;omega
theorem T5(hk:MB P kt enc){l:List κ}{vs:Qq6}(hl:l.length=vs.length)(w:World):
  (Instr.findKey kt (enc k) (mE enc 0 l vs)).run P w=.ok ((mI k l).map fun m=>(m,vs.getD m Qq2)) w:=by
 obtain⟨dd,hd,h⟩:=hk.find;unfold Instr.findKey
 rcases h with h | ⟨b,h2⟩
 ·simp[run_underlying hd,Wz h l vs 0 0 hl]
 ·cases l with
  | nil=>
   have:vs=[]:=Qxd (by simpa using hl.symm);subst this;simp[run_underlying hd,mE,Instr.findNow,mI]
  | cons a l=>
   cases vs with
   | nil=>cases hl
   | cons v vs=>
    have e:Instr.findNow dd (enc k) (mE enc 0 (a::l) (v::vs)) 0=none:=by simp only[mE,Instr.findNow,b]
    simp only[Sem.run_bind,run_underlying hd,Result.andThen,e];have:=SC (k:=k) h2 w (a::l) (v::vs) 0 0 hl;rw[this];simp
def ZN(z:Value)(k:κ)(l:List κ)(vs:Qq6):Value:=match mI k l with
 | some m=>vs.getD m Qq2
 | none=>z
def Mz(P:Program)(et:TypeId)(z:Value):Prop:=∀w,(zeroValue et).run P w=.ok z w
theorem W0{w:World}{b n:Nat}{l:List κ}{vs:Qq6}{z:Value}(hk:MB P kt enc)(ht:P.underlying t=some (.map kt et))(hz:Mz P et z)(hb:w.heap[b]? = some (.map (mE enc 0 l vs).toArray n))(hl:l.length=vs.length):
  (Instr.lookup t (.map (some b)) (enc k) false).run P w=.ok (ZN z k l vs) w:=by
 have hg:(getObj b).run P w=.ok (.map (mE enc 0 l vs).toArray n) w:=by simp[getObj,Sem.run,hb]
 simp only[Instr.lookup,Sem.run_bind,run_underlying ht,Result.andThen,hg,hk.check];simp only[Sem.run_pure];rw[T5 hk hl];unfold ZN
 cases mI k l with
 | some m=>simp
 | none=>simp[hz w]
def upK(k:κ)(l:List κ):List κ:=match mI k l with
 | some _=>l
 | none=>l++[k]
def upV(k:κ)(v:Value)(l:List κ)(vs:Qq6):Qq6:=match mI k l with
 | some m=>vs.set m v
 | none=>vs++[v]
theorem Aj5{v:Value}{l:List κ}{vs:Qq6}(hl:l.length=vs.length):(upK k l).length=(upV k v l vs).length:=by
 unfold upK upV
 cases mI k l <;> simp[hl]
theorem W2{w:World}{b:Nat}{l:List κ}{vs:Qq6}{v:Value}(hk:MB P kt enc)(ht:P.underlying t=some (.map kt et))(hb:w.heap[b]? = some (.map (mE enc 0 l vs).toArray l.length))(hl:l.length=vs.length):
  (Instr.mapUpdate t (.map (some b)) (enc k) v).run P w=.ok () (w.putObj b (.map (mE enc 0 (upK k l) (upV k v l vs)).toArray (upK k l).length)):=by
 have hg:(getObj b).run P w=.ok (.map (mE enc 0 l vs).toArray l.length) w:=by simp[getObj,Sem.run,hb]
 have hs:∀o,(setObj b o).run P w=.ok () (w.putObj b o):=fun o=>by simp[setObj,Sem.run,hb,World.putObj]
 simp only[Instr.mapUpdate,Sem.run_bind,run_underlying ht,Result.andThen,hg,hk.check];rw[T5 hk hl];unfold upK upV
 cases hm:mI k l with
 | some m=>
  obtain⟨c,h2⟩:=Yk hm;have he:=U0 (enc:=enc) l vs 0 m k hl h2;simp only[Option.map_some,Sem.run_bind,Result.andThen,List.getElem?_toArray,he,Option.getD_some,Instr.keyThatStays,hk.bits,if_true];simp only[Sem.run_pure];have a:(mE enc 0 l vs).toArray.modify m (fun e=>{e with key:=enc k,val:=v})=(mE enc 0 l (vs.set m v)).toArray:=by rw[List.modify_toArray,Yj l vs 0 m hl h2]
  rw[a];exact hs _
 | none=>
  have hp:=YW (enc:=enc) (k:=k) (v:=v) l vs 0 hl;rw[QzJ]at hp;simp only[Option.map_none,List.push_toArray];rw[hp,hs];simp
end
section
variable {κ β:Type} [DecidableEq κ] {k:κ}{z:Value}{enc:κ->Value}{ev':β->Value}
theorem T6:∀{l:List (κ×β)} (d:β),mI k (l.map Qzz)=none->Go.L.BF d k l=d
 | [],_,_=>rfl
 | (a,y)::l,d,h=>by
  simp only[QzA,mI]at h
  split at h
  ·cases h
  ·rename_i e;simp only[Go.L.BF,if_neg e];exact T6 d (by cases b:mI k (l.map Qzz) <;> simp_all)
theorem T7:∀{l:List (κ×β)}{m:Nat} (d:β),mI k (l.map Qzz)=some m->l[m]? = some (k,Go.L.BF d k l)
 | (a,y)::l,m,d,h=>by
  simp only[QzA,mI]at h
  split at h
  ·rename_i e;cases h;subst e;simp[Go.L.BF]
  ·rename_i e
   cases b:mI k (l.map Qzz)with
   | none=>rw[b]at h;cases h
   | some j=>
    rw[b]at h;cases h
    simpa[Go.L.BF,if_neg e]using T7 d b
theorem Pz{y:β}:∀{l:List (κ×β)},mI k (l.map Qzz)=none->Go.L.Dm k y l=l++[(k,y)]
 | [],_=>rfl
 | (a,x)::l,h=>by
  simp only[QzA,mI]at h
  split at h
  ·cases h
  ·rename_i e;simp only[Go.L.Dm,if_neg e,Qx1];rw[Pz (by cases b:mI k (l.map Qzz) <;> simp_all)]
theorem P0{y:β}:∀{l:List (κ×β)}{m:Nat},mI k (l.map Qzz)=some m->Go.L.Dm k y l=l.set m (k,y)
 | (a,x)::l,m,h=>by
  simp only[QzA,mI]at h
  split at h
  ·rename_i e;cases h;subst e;simp[Go.L.Dm]
  ·rename_i e
   cases b:mI k (l.map Qzz)with
   | none=>rw[b]at h;cases h
   | some j=>
    rw[b]at h;cases h;simp only[Go.L.Dm,if_neg e];rw[P0 b]
    rfl
theorem T8(y:β){l:List (κ×β)}:upK k (l.map Qzz)=(Go.L.Dm k y l).map Qzz:=by
 unfold upK
 cases h:mI k (l.map Qzz)with
 | none=>rw[Pz h];simp
 | some m=>
  rw[P0 h];obtain⟨b,h2⟩:=Yk h;simp only[List.map_set];obtain⟨h3,a⟩:=Qz6.1 h2
  conv=>lhs;rw[<- List.set_getElem_self h3,a]
theorem Afb{y:β}{l:List (κ×β)}:upV k (ev' y) (l.map Qzz) (l.map fun x=>ev' x.2)=(Go.L.Dm k y l).map fun x=>ev' x.2:=by
 unfold upV
 cases h:mI k (l.map Qzz)with
 | none=>rw[Pz h];simp
 | some m=>rw[P0 h];simp[List.map_set]
theorem Afc{d:β}{l:List (κ×β)}:ZN (ev' d) k (l.map Qzz) (l.map fun x=>ev' x.2)=ev' (Go.L.BF d k l):=by
 unfold ZN
 cases h:mI k (l.map Qzz)with
 | none=>rw[T6 d h]
 | some m=>
  have:=T7 d h;simp only[Qzj,Qxq,this]
  rfl
end
abbrev QE{κ β:Type}(enc:κ->Value)(b:Nat)(l:List (κ×β))(vs:Qq6):BV:=.obj b (.map (mE enc 0 (l.map Qzz) vs).toArray l.length)
section
variable {P:Program}{n:Sz}{ops:Array Oper}{Q:Exit->Act->World->Prop}{L:Env}{w w0:World}{O:List BV}{rest:List Oper}{d:Nat}{ty t kt et:TypeId}{pos:String}{af:Array Edge}{x y x':Operand}
 {κ β:Type} [DecidableEq κ] {enc:κ->Value}{ev':β->Value}{l:List (κ×β)}{k:κ}{H:PH}
omit [DecidableEq κ] in
theorem U2[Dr](enc:κ->Value)(β:Type)[hn:Qqq (Qzw d n.n) true](hL:Bk w0 O w)
  (h:∀w' b,Bk w0 (QE enc b ([]:List (κ×β)) []::O) w'->Le (fz w O) (fz w' (QE enc b ([]:List (κ×β)) []::O))->S P n ops Q rest ((d,.map (some b))::L) w'):S P n ops Q (⟨some d,.makeMap t none,ty,pos,af,none⟩::rest) L w:=by
 have hb:∀b,(BV.obj w.heap.size (.map (mE enc 0 (([]:List (κ×β)).map Qzz) []).toArray ([]:List (κ×β)).length)).block=some b->w.heap.size<=b:=fun b e=>by cases e;exact Qzu _
 refine Ei (v:=.map (some w.heap.size)) (w':=w.alloc (.map #[] 0)) hn.e (fun ρ hρ=>?_) (h _ _ (hL.new (CW w _) (World.alloc_heap_new w _) hb) (SX hL (CW w (.map #[] 0)) hb));simp[execOp,Instr.makeMap,newObj,Sem.run]
theorem Afd[Dr](i:Nat){b:Nat}{z:β}(hx:ev L x=some (.map (some b)))[hy:Qqq (ev L y) (some (enc k))](hv:ev L x'=some (ev' z))[ht:Qqq (P.underlying t) (some (.map kt et))](hk:MB P kt enc)(hL:Bk w0 O w)
  (hi:Dz O i=some (QE enc b l (l.map fun x=>ev' x.2)))
  (h:∀w',Bk w0 (CE O i (QE enc b (Go.L.Dm k z l) ((Go.L.Dm k z l).map fun x=>ev' x.2))) w'->Le (fz w O) (fz w' (CE O i (QE enc b (Go.L.Dm k z l) ((Go.L.Dm k z l).map fun x=>ev' x.2))))->S P n ops Q rest L w') :
  S P n ops Q (⟨none,.mapUpdate t x y x',ty,pos,af,none⟩::rest) L w:=by
 have hb:w.heap[b]? = some (.map (mE enc 0 (l.map Qzz) (l.map fun x=>ev' x.2)).toArray l.length):=hL.at hi;have hu:=W2 (k:=k) (v:=ev' z) (l:=l.map Qzz) (vs:=l.map fun x=>ev' x.2) hk ht.e (by rw[Qza];exact hb) Qqd;rw[Afb,T8 z,Qza]at hu;have hp:=hL.putAt (.map (mE enc 0 ((Go.L.Dm k z l).map Qzz) ((Go.L.Dm k z l).map fun x=>ev' x.2)).toArray (Go.L.Dm k z l).length) hi;refine NO _ (fun ρ hρ=>?_) (h _ hp.1 hp.2);simp[execOp,hρ x _ hx,hρ y _ hy.e,hρ x' _ hv,hu]
end
section
variable {κ α:Type} (cw:α->Qq6) (e:TypeId) (sz:Nat)
def mR(x:List α)(v:Value):BV:=.row v e sz x.length (x.flatMap cw)
def mT:List (κ×List α)->Qq6->List BV
 | x::l,v::vs=>mR cw e sz x.2 v::mT l vs
 | _,_=>[]
end
section
variable {κ α:Type}{cw:α->Qq6}{e:TypeId}{sz:Nat}
theorem Afe:∀{l:List (κ×List α)}{vs:Qq6},l.length=vs.length->∀{i:Nat}{k:κ}{x:List α},l[i]? = some (k,x)->Dz (mT cw e sz l vs) i=some (mR cw e sz x (vs.getD i Qq2))
 | y::l,v::vs,h,0,k,x,hx=>by simp at hx;subst hx;rfl
 | y::l,v::vs,h,i+1,k,x,hx=>by
  have:=Afe (l:=l) (vs:=vs) (by simpa using h) (i:=i) (by simpa using hx)
  simpa[mT,Dz]using this
theorem Aff:∀{l:List (κ×List α)}{vs:Qq6},l.length=vs.length->∀{i:Nat} (k:κ) (x:List α) (v:Value),i<l.length->CE (mT cw e sz l vs) i (mR cw e sz x v)=mT cw e sz (l.set i (k,x)) (vs.set i v)
 | y::l,u::vs,h,0,k,x,v,_=>rfl
 | y::l,u::vs,h,i+1,k,x,v,hi=>by
  have:=Aff (l:=l) (vs:=vs) (by simpa using h) (i:=i) k x v (by simpa using hi);simp[mT,CE,this]
theorem YX(k:κ)(x:List α)(v:Value):∀{l:List (κ×List α)}{vs:Qq6},l.length=vs.length->mT cw e sz (l++[(k,x)]) (vs++[v])=mT cw e sz l vs++[mR cw e sz x v]
 | [],[],_=>rfl
 | y::l,u::vs,h=>by
  have:=YX k x v (l:=l) (vs:=vs) (by simpa using h);simp[mT,this]
end
section
variable {P:Program}{n:Sz}{ops:Array Oper}{Q:Exit->Act->World->Prop}{L:Env}{w w0:World}{O:List BV}{rest:List Oper}{d:Nat}{ty ty' t mt kt et e:TypeId}{pos pos':String}{af af':Array Edge}{x y x' m':Operand}
 {κ α:Type} [DecidableEq κ] {enc:κ->Value}{cw:α->Qq6}{sz:Nat}{l:List (κ×List α)}{vs:Qq6}{k:κ}{H:PH}{A:List BV}
def Aj6(cw:α->Qq6)(e:TypeId)(sz:Nat)(l:List (κ×List α))(vs:Qq6)(k:κ)(y:List α)(v:Value)(T:List BV):Prop:=
 v.oneCell'=true/\l.length=vs.length/\T.Perm (mT cw e sz (Go.L.Dm k y l) (upV k v (l.map Qzz) vs))
theorem Afg[Dr]{r:Rp α}{bt:Nat}{zz u:Value}{z:α}(hr:∀G (x:α) c,r.rel G x c↔c=cw x)[hsz:Qqq r.sz sz][hx:Qqq (ev L x) (some (ZN (.slice none 0 0) k (l.map Qzz) vs))](hy:ev L y=some u)(ht:P.underlying t=some (.slice e))[hz:Qqx P e zz sz bt][hzs:Qqq zz.cells.size sz](g:0<sz)[hn:Qqq (Qzw d n.n) true]
  (hH:Le H (hp w0)) (hL:Bk w0 (A++mT cw e sz l vs) w) (hl:l.length=vs.length) (hu:AS r (gz H w0 w (A++mT cw e sz l vs)) u [z]) (hby:Fz bt ((Go.L.BF [] k l).length+1))
  (h:∀v' w' T,Aj6 cw e sz l vs k (Go.L.BF [] k l++[z]) v' T->Bk w0 (A++T) w'->Le (fz w (A++mT cw e sz l vs)) (fz w' (A++T))->S P n ops Q rest ((d,v')::L) w') :
  S P n ops Q (⟨some d,.call ⟨.builtin .append,#[x,y],#[t,t]⟩,ty,pos,af,none⟩::rest) L w:=by
 have hx:=hx.e
 have hel:∃news,news=cw z/\Src (hp w) sz u 1 news:=by
  obtain⟨news,b,h2⟩:=hu.elems
  have h3:news=cw z:=by
   cases b with
   | cons hc ht=>cases ht;rw[QzZ];exact(hr _ _ _).1 hc
  rw[hsz.e]at h2;exact⟨news,h3,h2.mono (Av hL)⟩
 obtain⟨news,rfl,hsrc⟩:=hel;have hone:∀c∈cw z,c.oneCell'=true:=fun c hc=>r.one (H:=H) ((hr H z (cw z)).2 Z) c hc
 cases hmi:mI k (l.map Qzz)with
 | some m=>
  obtain⟨b,h2⟩:=Yk hmi;have h1':m<l.length:=by simpa using b
  have hg:=T7 ([]:List α) hmi;have hrow:=Afe (cw:=cw) (e:=e) (sz:=sz) hl hg;have hlk:ZN (.slice none 0 0) k (l.map Qzz) vs=vs.getD m Qq2:=by unfold ZN;rw[hmi]
  rw[hlk]at hx;have hO:Dz (A++mT cw e sz l vs) (A.length+m)=some (.row (vs.getD m Qq2) e sz (Go.L.BF [] k l).length ((Go.L.BF [] k l).flatMap cw)):=by rw[T3];exact hrow
  refine Wp (A.length+m) hx hy ht hz.e hzs.e g hn.e hL hO hsrc hone hby fun v' w' hL' hle'=>?_;have p:(.row v' e sz ((Go.L.BF [] k l).length+1) ((Go.L.BF [] k l).flatMap cw++cw z):BV)=mR cw e sz (Go.L.BF [] k l++[z]) v':=by simp[mR]
  rw[p,Aaj,Aff hl k _ _ h1']at hL' hle';have f:upV k v' (l.map Qzz) vs=vs.set m v':=by unfold upV;rw[hmi]
  refine h v' w' _ ⟨?_,hl,?_⟩ hL' hle'
  ·have j:(l.set m (k,Go.L.BF [] k l++[z])).length=(vs.set m v').length:=by simp[hl]
   have o:(l.set m (k,Go.L.BF [] k l++[z]))[m]? = some (k,Go.L.BF [] k l++[z]):=by simp[h1']
   have a:=Afe (cw:=cw) (e:=e) (sz:=sz) j o;have hgv:(vs.set m v').getD m Qq2=v':=by simp[Qzj,show m<vs.length by omega]
   rw[hgv]at a;have:=hL'.at (i:=A.length+m) (r:=mR cw e sz (Go.L.BF [] k l++[z]) v') (by rw[T3];exact a);exact row_one this
  ·rw[f,P0 hmi]
 | none=>
  have hg:=T6 ([]:List α) hmi;have hlk:ZN (.slice none 0 0) k (l.map Qzz) vs=.slice none 0 0:=by unfold ZN;rw[hmi]
  rw[hlk]at hx;have hnil:=VQ hL e sz;have hby':Fz bt (0+1):=by rw[hg]at hby;exact hby
  refine Wp 0 hx hy ht hz.e hzs.e g hn.e hnil.1 Z hsrc hone hby' fun v' w' hL' hle'=>?_
  have hp:(A++(mT cw e sz l vs++[mR cw e sz [z] v'])).Perm (.row v' e sz (0+1) ([]++cw z)::(A++mT cw e sz l vs)):=by
   rw[<- QxB];have:(mR cw e sz [z] v':BV)=.row v' e sz (0+1) ([]++cw z):=by simp[mR]
   rw[this];exact List.perm_append_singleton _ _
  have f:upV k v' (l.map Qzz) vs=vs++[v']:=by unfold upV;rw[hmi]
  refine h v' w' (mT cw e sz l vs++[mR cw e sz [z] v']) ⟨row_one (hL'.at (i:=0) Z),hl,?_⟩ (hL'.perm hp) ?_
  ·rw[f,Pz hmi,hg,Qxe,YX k [z] v' hl]
  ·rw[JF hp];exact hnil.2.trans hle'
theorem Aj7[Dr](ib:Nat){b:Nat}{v:Value}{yl:List α}{T:List BV}(hpd:Aj6 cw e sz l vs k yl v T)(hm:ev L m'=some (.map (some b)))[hkx:Qqq (ev L x') (some (enc k))][hv:Qqq (ev L x) (some v)][hmt:Qqq (P.underlying mt) (some (.map kt et))](hk:MB P kt enc)
  (hL:Bk w0 (A++T) w) (hib:Dz A ib=some (QE enc b l vs))
  (h:∀vs' w',(Go.L.Dm k yl l).length=vs'.length->Bk w0 (CE A ib (QE enc b (Go.L.Dm k yl l) vs')++mT cw e sz (Go.L.Dm k yl l) vs') w'->
   Le (fz w (A++T)) (fz w' (CE A ib (QE enc b (Go.L.Dm k yl l) vs')++mT cw e sz (Go.L.Dm k yl l) vs'))->S P n ops Q rest L w') :
  S P n ops Q (⟨none,.mapUpdate mt m' x' x,ty,pos,af,none⟩::rest) L w:=by
 obtain⟨_,hl,hpm⟩:=hpd;have hb:w.heap[b]? = some (.map (mE enc 0 (l.map Qzz) vs).toArray l.length):=hL.at (KT T hib);have hur:=W2 (k:=k) (v:=v) (l:=l.map Qzz) (vs:=vs) hk hmt.e (by rw[Qza];exact hb) (by simp[hl]);rw[T8 yl,Qza]at hur;have hp:=hL.putAt (.map (mE enc 0 ((Go.L.Dm k yl l).map Qzz) (upV k v (l.map Qzz) vs)).toArray (Go.L.Dm k yl l).length) (KT T hib);rw[Py _ _ hib]at hp;have a:=List.Perm.append_left (CE A ib (QE enc b (Go.L.Dm k yl l) (upV k v (l.map Qzz) vs))) hpm.symm;have hlen:=Aj5 (k:=k) (v:=v) (l:=l.map Qzz) (vs:=vs) (by simp[hl]);rw[T8 yl,Qza]at hlen;refine NO _ (fun ρ hρ=>?_) (h (upV k v (l.map Qzz) vs) _ hlen (hp.1.perm a) ?_)
 ·simp[execOp,hρ m' _ hm,hρ x' _ hkx.e,hρ x _ hv.e,hur]
 ·rw[JF a];exact hp.2
end
def XH{κ β:Type}(enc:κ->Value)(r:Rp β)(H:PH)(v:Value)(l:List (κ×β)):Prop:=
 ∃b vs,v=.map (some b)/\H b=some (.map (mE enc 0 (l.map Qzz) vs).toArray l.length)/\l.length=vs.length/\∀i x,l[i]? = some x->r.rel H x.2 [vs.getD i Qq2]
theorem XH.mono{κ β:Type}{enc:κ->Value}{r:Rp β}{H H':PH}{v:Value}{l:List (κ×β)}(h:XH enc r H v l)(hs:Le H H'):XH enc r H' v l:=by
 obtain⟨b,vs,a,h2,h3,c⟩:=h;exact⟨b,vs,a,hs _ _ h2,h3,fun i x hx=>r.mono hs (c i x hx)⟩
section
variable {P:Program}{L:Env}{w w0:World}{ty t kt et e:TypeId}{x y:Operand}{κ α:Type} [DecidableEq κ] {enc:κ->Value}{cw:α->Qq6}{r:Rp α}{sz:Nat}{l:List (κ×List α)}{vs:Qq6}{k:κ}{H:PH}{A:List BV}
omit [DecidableEq κ] in
theorem AcO[Dr](hsz:r.sz=sz)(hr:∀G (x:α) c,r.rel G x c↔c=cw x)(hH:Le H (hp w0)):∀{l:List (κ×List α)}{vs:Qq6},l.length=vs.length->Bk w0 (A++mT cw e sz l vs) w->Bk w0 A w/\Le (fz w (A++mT cw e sz l vs)) (fz w A)/\∀i x,l[i]? = some x->AS r (gz H w0 w A) (vs.getD i Qq2) x.2
 | [],[],_,hL=>⟨by simpa[mT]using hL,by simp only[mT,QzZ];exact Le.refl _,fun i x hx=>by cases hx⟩
 | y::l,v::vs,hn,hL=>by
  have hi:Dz (A++mT cw e sz (y::l) (v::vs)) (A.length+0)=some (.row v e r.sz y.2.length (y.2.flatMap cw)):=by rw[T3,hsz];rfl
  have hel:AK r (gz H w0 w (A++mT cw e sz (y::l) (v::vs))) y.2 (y.2.flatMap cw):=by
   generalize gz H w0 w (A++mT cw e sz (y::l) (v::vs))=G
   induction y.2 with
   | nil=>exact .nil
   | cons a m ih=>rw[List.flatMap_cons];exact .cons ((hr _ _ _).2 Z) ih
  have hv:=hL.Cu hH hi hel;have b:=hL.Bl hi;have d:=AB (w:=w) hi;rw[Aak]at hv b d;obtain⟨f,h2,h3⟩:=AcO hsz hr hH (l:=l) (vs:=vs) (by simpa using hn) b;refine⟨f,d.trans h2,fun i x hx=>?_⟩
  cases i with
  | zero=>simp at hx;subst hx;exact hv.mono (Ab h2)
  | succ i=>simpa using h3 i x (by simpa using hx)
 | [],_::_,h,_=>by cases h
 | _::_,[],h,_=>by cases h
omit [DecidableEq κ] in
theorem AcP[Dr](ib:Nat){b:Nat}(hsz:r.sz=sz)(hr:∀G (x:α) c,r.rel G x c↔c=cw x)(hH:Le H (hp w0))(hl:l.length=vs.length)(hL:Bk w0 (A++mT cw e sz l vs) w)(hib:Dz A ib=some (QE enc b l vs)):
  Bk w0 (Pw A ib) w/\Le (fz w (A++mT cw e sz l vs)) (fz w (Pw A ib))/\XH enc (.vec r) (gz H w0 w (Pw A ib)) (.map (some b)) l:=by
 obtain⟨a,h2,h3⟩:=AcO hsz hr hH hl hL;have d:=AB (w:=w) hib;have hb:=a.at hib;refine⟨a.Bl hib,h2.trans d,b,vs,Z,?_,hl,fun i x hx=>⟨_,Z,(h3 i x hx).mono (Ab d)⟩⟩;have hge:=a.own _ ((Es hib).mem_iff.2 (.head _)) b Z;have f:fz w (Pw A ib) b=w.heap[b]?:=Tb hib Z a.dis;refine T0 b _ ?_;unfold nf;rw[if_pos hge,f];exact hb
theorem Ak4[Dr]{v:Value}(hm:XH enc (.vec r) H v l)(hk:MB P kt enc)(ht:P.underlying t=some (.map kt et))(hz:Mz P et (.slice none 0 0))(hx:ev L x=some v)(hy:ev L y=some (enc k))(hs:Le H (hp w)):
  ∃u,B5 P L w (.lookup t x y false) ty u/\AS r H u (Go.L.BF [] k l):=by
 obtain⟨b,vs,rfl,h2,h3,d⟩:=hm;refine⟨ZN (.slice none 0 0) k (l.map Qzz) vs,fun w' hx' ρ hρ dst pos af g=>?_,?_⟩
 ·have:=W0 (k:=k) (l:=l.map Qzz) (vs:=vs) hk ht hz (hx'.le _ _ (hs _ _ h2)) (by simp[h3]);simp[execOp,hρ x _ hx,hρ y _ hy,this]
 ·unfold ZN
  cases hmi:mI k (l.map Qzz)with
  | none=>rw[T6 [] hmi];exact AS.nil r H
  | some m=>
   obtain⟨u,a,c⟩:=d m _ (T7 [] hmi);simp only[List.cons.injEq,and_true]at a
   show AS r H (vs.getD m Qq2) _
   rw[a];exact c
end
theorem W3(a b:Qq4):((⟨a.toArray⟩:ByteArray)==⟨b.toArray⟩)=decide (a=b):=by
 have:((⟨a.toArray⟩:ByteArray)==⟨b.toArray⟩)=(a.toArray==b.toArray):=Z;rw[this,Qz7];simp
def encS(s:Qq4):Value:=.string ⟨s.toArray⟩
theorem AdH{P:Program}{kt:TypeId}(hd:P.underlying kt=some .string):MB P kt encS:=
 ⟨fun b k w=>by
   obtain⟨d,he⟩:∃d,10000=d+1:=⟨9999,Z⟩;rw[he];simp[Instr.checkKey,encS,run_underlying hd],
  fun k=>by simp[Instr.sameBits,encS,W3],
  ⟨_,hd,.inl fun a b=>by simp only[Instr.sameNow,encS,W3]⟩⟩
section
variable {P:Program}{n:Sz}{ops:Array Oper}{Q:Exit->Act->World->Prop}{L:Env}{w:World}{rest:List Oper}{d:Nat}{ty t kt et:TypeId}{pos:String}{af:Array Edge}{x y:Operand}
 {κ α:Type} [DecidableEq κ] {enc:κ->Value}{r:Rp α}{l:List (κ×List α)}{k:κ}{H:PH}{v:Value}
theorem AcQ[Dr][hx:Qqq (ev L x) (some v)][hy:Qqq (ev L y) (some (enc k))][ht:Qqq (P.underlying t) (some (.map kt et))](hk:MB P kt enc)(hz:Mz P et (.slice none 0 0))(hm:XH enc (.vec r) H v l)(hs:Le H (hp w))[hn:Qqq (Qzw d n.n) true]
  (h:∀u,AS r H u (Go.L.BF [] k l)->S P n ops Q rest ((d,u)::L) w):S P n ops Q (⟨some d,.lookup t x y false,ty,pos,af,none⟩::rest) L w:=by
 obtain⟨u,a,h2⟩:=Ak4 (ty:=ty) hm hk ht.e hz hx.e hy.e hs;exact Ag a (hn:=⟨hn.e⟩) (h u h2)
end
abbrev AdI(h:Int×Int):Qq6:=[.int .i64 h.1,.int .i64 h.2]
theorem Afh:∀(G:PH) (x:Int×Int) (c:Qq6),(Rp.pair (.int .i64) (.int .i64)).rel G x c↔c=AdI x:=
 fun _ _ _=>⟨fun⟨_,_,h,a,h2⟩=>by subst a;subst h2;exact h,fun h=>⟨_,_,h,Z,Z⟩⟩
abbrev cwI(h:Int):Qq6:=[.int .i64 h]
theorem AiX:∀(G:PH) (x:Int) (c:Qq6),(Rp.int .i64).rel G x c↔c=cwI x:=fun _ _ _=>Iff.rfl
end Go.E
namespace Go.E
open Go Go.RowKit
def W4(ops:Array Oper)(j:Nat):Bool:=match ops[j]? with
 | some oj=>(Qzb ops.size).all fun k=>k==j||oj.after.any fun e=>Region.binds .any e&&e.on==k
 | none=>false
theorem AdJ{ops:Array Oper}{i j:Nat}{oj:Oper}(hj:ops[j]? = some oj)(hi:i<ops.size)(hne:i≠j)(hnot:∀e∈oj.after,Region.binds .any e=true->e.on≠i):W4 ops j=false:=by
 unfold W4;rw[hj];simp only
 cases h:(Qzb ops.size).all (fun k=>k==j||oj.after.any fun e=>Region.binds .any e&&e.on==k)with
 | false=>rfl
 | true=>
  have a:=List.all_eq_true.1 h i (QzE.2 hi);simp only[Qxj,beq_iff_eq,hne,false_or]at a;obtain⟨e,he,hb⟩:=Array.any_eq_true'.1 a;simp only[QzQ,beq_iff_eq]at hb;exact absurd hb.2 (hnot e he hb.1)
def dpB(ops:Array Oper)(j k:Nat):Bool:=match ops[j]? with
 | some oj=>oj.after.any fun e=>Region.binds .any e&&e.on==k
 | none=>false
def AcR(ops:Array Oper)(j:Nat):List Nat->Bool
 | []=>true
 | x::r=>(dpB ops j x||r.any fun y=>dpB ops y x)&&AcR ops j r
def Yl(ops:Array Oper)(j:Nat)(c:List Nat):Bool:=AcR ops j c&&(Qzb ops.size).all fun k=>k==j||c.contains k||dpB ops k j
def ClP(ops:Array Oper)(listed:Array Bool):Prop:=∀k x,dpB ops k x=true->listed.getD k true=true->listed.getD x true=true
def ClB(ops:Array Oper)(listed:Array Bool):Bool:=Nat.ble listed.size ops.size&&(Qzb ops.size).all fun k=>!(listed.getD k true)||(Qzb ops.size).all fun x=>!(dpB ops k x)||listed.getD x true
theorem Ak5{ops:Array Oper}{listed:Array Bool}(h:ClB ops listed=true):ClP ops listed:=fun k x hd hk=>by
 simp only[ClB,QzQ,List.all_eq_true,QzE,Qxj,Bool.not_eq_true']at h
 have hk':k<ops.size:=by
  rcases Qxa k ops.size with a | a
  ·exact a
  ·simp[dpB,Qjq a]at hd
 rcases Qxa x ops.size with hx | hx
 ·rcases h.2 k hk' with a | a
  ·rw[a]at hk;cases hk
  ·rcases a x hx with h2 | h2
   ·rw[h2]at hd;cases hd
   ·exact h2
 ·have:=Nat.le_of_ble_eq_true h.1;rw[Qke,Qjq U];rfl
theorem AcS{l:Array Bool}{k:Nat}(h:l.getD k false=true):l.getD k true=true:=by
 rw[Qke]at *
 cases hq:l[k]? with
 | none=>rfl
 | some b=>rw[hq]at h;exact h
theorem Vh{ops:Array Oper}{listed:Array Bool}{j:Nat}(hc:ClP ops listed)(hj:∀x,dpB ops j x=true->listed.getD x true=true):∀(c:List Nat),AcR ops j c=true->∀x∈c,listed.getD x true=true
 | [],_,x,hx=>by cases hx
 | y::r,h,x,hx=>by
  simp only[AcR,QzQ,Qxj,List.any_eq_true]at h;have ih:=Vh hc hj r h.2
  rcases List.mem_cons.1 hx with rfl | hx
  ·rcases h.1 with a | ⟨z,hz,a⟩
   ·exact hj _ a
   ·exact hc z _ a (ih z hz)
  ·exact ih x hx
section
variable (Inv:World->Prop) (P:Program) (ops:Array Oper) (Q:Exit->Act->World->Prop)
def OW:Nat->Array Bool->Act->World->Prop
 | 0,listed,a,w=>Region.ready .any ops listed=[]/\Q .normal a w
 | m+1,listed,a,w=>(Region.ready .any ops listed=[]->Q .normal a w)/\
  ∀i∈Region.ready .any ops listed,wpOp P ops Q i (fun a' w'=>(W4 ops i=true\/(∃c,Yl ops i c=true)\/Inv w')/\OW m (listed.setIfInBounds i true) a' w') a w
def Li(o:Oper)(v:Value)(a:Act):Prop:=
 (Region.wanted o (yielded ops a.tmps)=true/\∀w,Inv w->(execOp a.eval o).run P w=.ok (.value v) w)\/
 (Region.wanted o (yielded ops a.tmps)=false/\v=undef)
end
section
variable {Inv:World->Prop}{P:Program}{ops:Array Oper}{Q:Exit->Act->World->Prop}
theorem W5:∀(m:Nat) (listed:Array Bool) (a:Act) (w:World),OW Inv P ops Q m listed a w->wpAny P .any ops Q m listed a w
 | 0,_,_,_,h=>h
 | m+1,_listed,_a,_w,h=>⟨h.1,fun i hi=>wpOp_mono (fun _a' _w' k=>W5 m _ _ _ k.2) (h.2 i hi)⟩
theorem Li.same{o:Oper}{v:Value}{a a':Act}(hy:Li Inv P ops o v a)(he:execOp a'.eval o=execOp a.eval o)(hw:Region.wanted o (yielded ops a'.tmps)=Region.wanted o (yielded ops a.tmps)):Li Inv P ops o v a':=by
 unfold Li at *;rw[he,hw];exact hy
theorem Li.op{i:Nat}{o:Oper}{v:Value}{a:Act}{w:World}(hi:ops[i]? = some o)(hy:Li Inv P ops o v a)(hw:Inv w){K:Act->World->Prop}(h:K (a.put o.dst v) w):wpOp P ops Q i K a w:=by
 unfold wpOp;simp only[hi]
 rcases hy with ⟨b,hv⟩ | ⟨b,rfl⟩
 ·simp only[b,if_true,Oper.wp,hv w hw,Oper.upon];exact .inl h
 ·simp only[b,Qxk,if_false];exact h
theorem Ah6{j:Nat}{oi oj:Oper}{v:Value}(hj:ops[j]? = some oj)(hap:oi.apart ops oj=true)(hsi:∀cs b,oi.op≠.select cs b)(hsj:∀cs b,oj.op≠.select cs b)
  (hQ:∀c a w,Q (.panic c) (a.put oi.dst v) w->Q (.panic c) a w) {K:Act->World->Prop}{a:Act}{w:World} (hy:Li Inv P ops oi v a) (h:wpOp P ops Q j K (a.put oi.dst v) w) :
  wpOp P ops Q j (fun a' w'=>Li Inv P ops oi v a'/\K (a'.put oi.dst v) w') a w:=by
 obtain⟨g,h2,h3⟩:=Oper.apart_spec hap;have keep:∀a,Li Inv P ops oi v a->∀u,Li Inv P ops oi v (a.put oj.dst u):=fun a hy u=>hy.same (execOp_put oi hsi a oj.dst u h3) (wanted_put oi a oj.dst u h3);unfold wpOp at *;simp only[hj]at *;rw[wanted_put oj a oi.dst v g]at h
 split
 ·rename_i hw;simp only[hw,if_true]at h
  rcases h with h | ⟨ha,hl⟩
  case inr=>exact .inr ⟨by unfold Oper.asks at *;rw[execOp_put oj hsj a oi.dst v g]at ha;exact ha,hl⟩
  refine .inl ?_;unfold Oper.wp at *;rw[execOp_put oj hsj a oi.dst v g]at h;generalize (execOp a.eval oj).run P w=r at *
  cases r with
  | ok x w'=>
   cases x <;> simp only[Oper.upon]at h ⊢
   case value u=>exact⟨keep a hy u,by rw[<- Act.put_comm a v u h2];exact h⟩
   case skip=>exact⟨keep a hy _,by rw[<- Act.put_comm a v undef h2];exact h⟩
   case defer d=>
    refine⟨keep {a with defers:=d::a.defers} (hy.same Z Z) _,?_⟩;rw[<- Act.put_comm _ v undef h2,<- Act.put_defers];exact h
   case enter f args=>
    refine h.mono fun e w'' he=>?_
    cases e with
    | returned u=>exact⟨keep a hy u,by rw[<- Act.put_comm a v u h2];exact he⟩
    | panicked c=>exact hQ _ _ _ he
    | outgrown=>exact he
   case row row args=>exact Rows.mono h fun u w'' he=>⟨keep a hy u,by rw[<- Act.put_comm a v u h2];exact he⟩
  | halt x w'=>
   cases x <;> simp only[Oper.upon]at h ⊢
   case panic u=>exact hQ _ _ _ h
 ·rename_i hw;simp only[hw]at h;exact⟨keep a hy _,by rw[<- Act.put_comm a v undef h2];exact h⟩
theorem AbB{i:Nat}{oi:Oper}{v:Value}(hi:ops[i]? = some oi)(hsel:∀(j:Nat) (o:Oper) cs b,ops[j]? = some o->o.op≠.select cs b)(hQ:∀c a w,Q (.panic c) (a.put oi.dst v) w->Q (.panic c) a w):
  ∀
   (m:Nat) (listed:Array Bool) (a:Act) (w:World),
   (∀j oj,ops[j]? = some oj->j≠i->listed.getD j true=false->(∀e∈oj.after,Region.binds .any e=true->e.on≠i)->oi.apart ops oj=true)->
   i∈Region.ready .any ops listed->ClP ops listed->Inv w->Li Inv P ops oi v a->OW Inv P ops Q m (listed.setIfInBounds i true) (a.put oi.dst v) w->OW Inv P ops Q (m+1) listed a w:=by
 intro m
 induction m with
 | zero=>
  intro listed a w _ hr _ hw hy H;refine⟨fun h=>(by rw[h]at hr;cases hr),fun j hj=>?_⟩
  by_cases hji:j=i
  ·subst hji;exact hy.op hi hw ⟨.inr (.inr hw),H⟩
  ·have:=ready_mono hj hji;rw[H.1]at this
   cases this
 | succ m ih=>
  intro listed a w hfree hr hcl hw hy H;refine⟨fun h=>(by rw[h]at hr;cases hr),fun j hj=>?_⟩
  by_cases hji:j=i
  ·subst hji;exact hy.op hi hw ⟨.inr (.inr hw),H⟩
  ·have d:=H.2 j (ready_mono hj hji);obtain⟨hjun,oj,hoj,hall⟩:=mem_ready.1 hj
   have hnot:∀e∈oj.after,Region.binds .any e=true->e.on≠i:=fun e he hb heq=>by
    have d:=hall e he hb;have f:=(mem_ready.1 hr).1;rw[heq]at d
    rcases Qxa i listed.size with h' | h'
    ·simp[h']at f d;rw[f]at d;cases d
    ·simp[Qjq h']at d
   have h2:=Ah6 hoj (hfree j oj hoj hji hjun hnot) (fun cs b=>hsel i oi cs b hi) (fun cs b=>hsel j oj cs b hoj) hQ hy d
   have hfree':∀k ok,ops[k]? = some ok->k≠i->(listed.setIfInBounds j true).getD k true=false->
     (∀e∈ok.after,Region.binds .any e=true->e.on≠i)->oi.apart ops ok=true:=fun k ok hk hki hun hno=>by
    refine hfree k ok hk hki ?_ hno
    by_cases hjk:j=k
    ·subst hjk;exact hjun
    ·rw[getD_set_ne true hjk]at hun;exact hun
   have hri:i∈Region.ready .any ops (listed.setIfInBounds j true):=ready_mono hr (Ne.symm hji);refine wpOp_mono (fun a' w' ⟨hy',hI,hk⟩=>?_) h2
   have hset:OW Inv P ops Q m ((listed.setIfInBounds j true).setIfInBounds i true) (a'.put oi.dst v) w':=by
    rw[Array.setIfInBounds_comm _ _ hji];exact hk
   have hi':=(Array.getElem?_eq_some_iff.1 hi).1
   have hjd:∀x,dpB ops j x=true->listed.getD x true=true:=fun x hx=>by
    simp only[dpB,hoj]at hx;obtain⟨e,he,hb⟩:=Array.any_eq_true'.1 hx;simp only[QzQ,beq_iff_eq]at hb;rw[<- hb.2];exact AcS (hall e he hb.1)
   have hiun:=(mem_ready.1 hr).1
   have hI':Inv w':=by
    rcases hI.resolve_left (by rw[AdJ hoj hi' (Ne.symm hji) hnot];simp)with ⟨c,hc⟩ | hI
    ·exfalso
     simp only[Yl,QzQ,List.all_eq_true,QzE,Qxj,beq_iff_eq]at hc
     rcases hc.2 i hi' with (h3 | h3) | h3
     ·exact hji h3.symm
     ·have g:=Vh hcl hjd c hc.1 i (by simpa using h3);rw[hiun]at g;cases g
     ·obtain⟨_,oi',hoi',hall'⟩:=mem_ready.1 hr;simp only[dpB,hoi']at h3;obtain⟨e,he,hb⟩:=Array.any_eq_true'.1 h3;simp only[QzQ,beq_iff_eq]at hb;have l:=AcS (hall' e he hb.1);rw[hb.2,hjun]at l;cases l
    ·exact hI
   have hcl':ClP ops (listed.setIfInBounds j true):=fun k x hd hk=>by
    by_cases hxj:x=j
    ·subst hxj;rw[Qke,Array.getElem?_setIfInBounds]
     by_cases hs:x<listed.size
     ·simp[hs]
     ·simp[Qjq (Nat.le_of_not_lt hs),hs]
    ·rw[getD_set_ne true (Ne.symm hxj)]
     by_cases hkj:k=j
     ·subst hkj;exact hjd x hd
     ·rw[getD_set_ne true (Ne.symm hkj)]at hk;exact hcl k x hd hk
   exact⟨.inr (.inr hI'),ih _ a' w' hfree' hri hcl' hI' hy' hset⟩
end
def nQI(Inv:World->Prop)(P:Program)(l:List Oper)(Q:Exit->Act->World->Prop)(fuel i:Nat)(listed:Array Bool):Exit->Act->World->Prop:=Exit.then (fun a w=>(W4 l.toArray i=true\/(∃c,Yl l.toArray i c=true)\/Inv w)/\OW Inv P l.toArray Q fuel listed a w) Q
def Nw(Inv:World->Prop)(P:Program)(n:Sz)(l:List Oper)(Q:Exit->Act->World->Prop)(fuel:Nat)(listed:Array Bool)(L:Env)(w:World):Prop:=∀a,Fr n a L->OW Inv P l.toArray Q fuel listed a w
section
variable {Inv:World->Prop}{P:Program}{n:Sz}{l:List Oper}{Q:Exit->Act->World->Prop}{L:Env}{w:World}{y:Code}{fuel:Nat}{m:Nat}{done:List Nat}
theorem Afj[Dr]{id:Nat}(Inv:World->World->Prop)(hm:P.follows .mixedOrders=true)(hl:l.length=m)(h:∀w',Ext w w'->Nw (Inv w') P n l Q m (SB m []) L w'):W P n (.region id l.toArray true) Q L w:=fun a fr=>by
 refine wp_region_any hm ?_;have:=W5 _ _ _ _ (h _ MA a fr);subst hl
 simpa[SB]using this
theorem Ym{i:Nat}{o:Oper}(ho:HF l i=some o)(h:S P n l.toArray (nQI Inv P l Q fuel i (SB m (i::done))) [o] L w):
  ∀a,Fr n a L->wpOp P l.toArray Q i (fun a' w'=>(W4 l.toArray i=true\/(∃c,Yl l.toArray i c=true)\/Inv w')/\OW Inv P l.toArray Q fuel ((SB m done).setIfInBounds i true) a' w') a w:=
 fun a fr=>AdF ho (h a fr) (fun e a w hne he=>by cases e <;> first | exact absurd Z hne | exact he)
theorem W6{rs:List Nat}{listed:Array Bool}{a:Act}(hr:Region.ready .any l.toArray listed=rs)(hne:rs≠[])
  (h:∀i∈rs,wpOp P l.toArray Q i (fun a' w'=>(W4 l.toArray i=true\/(∃c,Yl l.toArray i c=true)\/Inv w')/\OW Inv P l.toArray Q fuel (listed.setIfInBounds i true) a' w') a w):OW Inv P l.toArray Q (fuel+1) listed a w:=
 ⟨fun e=>by rw[hr]at e;exact absurd e hne,fun i hi=>h i (by rw[<- hr];exact hi)⟩
theorem Fg(i:Nat){o:Oper}(ho:HF l i=some o)(h:S P n l.toArray (nQI Inv P l Q fuel i (SB m (i::done))) [o] L w)(hr:Region.ready .any l.toArray (SB m done)=[i]:=by kernel_rfl):Nw Inv P n l Q (fuel+1) (SB m done) L w:=
 fun a fr=>W6 hr Qqd fun k hk=>by
  obtain rfl:k=i:=by simpa using hk
  exact Ym ho h a fr
theorem NI2(i j:Nat){o p:Oper}(ho:HF l i=some o)(hp:HF l j=some p)(h:S P n l.toArray (nQI Inv P l Q fuel i (SB m (i::done))) [o] L w)(h':S P n l.toArray (nQI Inv P l Q fuel j (SB m (j::done))) [p] L w)(hr:Region.ready .any l.toArray (SB m done)=[i,j]:=by kernel_rfl):Nw Inv P n l Q (fuel+1) (SB m done) L w:=
 fun a fr=>W6 hr Qqd fun k hk=>by
  have hk':k=i\/k=j:=by simpa using hk
  rcases hk' with rfl | rfl
  ·exact Ym ho h a fr
  ·exact Ym hp h' a fr
theorem NI3{i j s:Nat}{o p q:Oper}(ho:HF l i=some o)(hr:Region.ready .any l.toArray (SB m done)=[i,j,s])(hp:HF l j=some p)(hq:HF l s=some q)(h:S P n l.toArray (nQI Inv P l Q fuel i (SB m (i::done))) [o] L w)(h':S P n l.toArray (nQI Inv P l Q fuel j (SB m (j::done))) [p] L w)(h'':S P n l.toArray (nQI Inv P l Q fuel s (SB m (s::done))) [q] L w):Nw Inv P n l Q (fuel+1) (SB m done) L w:=
 fun a fr=>W6 hr Qqd fun k hk=>by
  have hk':k=i\/k=j\/k=s:=by simpa using hk
  rcases hk' with rfl | rfl | rfl
  ·exact Ym ho h a fr
  ·exact Ym hp h' a fr
  ·exact Ym hq h'' a fr
theorem Aj8{i:Nat}(hI:Inv w)(h:Nw Inv P n l Q fuel (SB m done) L w):S P n l.toArray (nQI Inv P l Q fuel i (SB m done)) [] L w:=fun a fr=>⟨.inr (.inr hI),h a fr⟩
theorem F0{i:Nat}(h:Nw Inv P n l Q fuel (SB m done) L w)(hl:W4 l.toArray i=true:=by kernel_rfl):S P n l.toArray (nQI Inv P l Q fuel i (SB m done)) [] L w:=fun a fr=>⟨.inl hl,h a fr⟩
theorem CK{i:Nat}(c:List Nat)(h:Nw Inv P n l Q fuel (SB m done) L w)(hl:Yl l.toArray i c=true:=by kernel_rfl):S P n l.toArray (nQI Inv P l Q fuel i (SB m done)) [] L w:=fun a fr=>⟨.inr (.inl ⟨c,hl⟩),h a fr⟩
theorem FW(h:At n Q .normal L w)(hr:Region.ready .any l.toArray (SB m done)=[]:=by kernel_rfl):Nw Inv P n l Q 0 (SB m done) L w:=fun a fr=>⟨hr,h a fr⟩
variable {d:Nat}{op:Op}{ty:TypeId}{pos:String}{af:Array Edge}
theorem Bn[Dr](i:Nat){v:Value}(hq:K8 Q)(hI:Inv w)(ho:HF l i=some ⟨some d,op,ty,pos,af,none⟩)(hr:∀w,Inv w->B5 P L w op ty v)(hn:Qzw d n.n=true)
  (h:Nw Inv P n l Q fuel (SB m (i::done)) ((d,v)::L) w)(hc:(AeQ l m done i&&ClB l.toArray (SB m done))=true:=by kernel_rfl):Nw Inv P n l Q (fuel+1) (SB m done) L w:=fun a fr=>by
 simp only[AeQ,QzQ]at hc;obtain⟨⟨⟨b,h2⟩,h3⟩,e⟩:=hc;have ho':l.toArray[i]? = some ⟨some d,op,ty,pos,af,none⟩:=by rw[HN]at ho;simpa using ho
 exact AbB (v:=v) ho' (Region.noSelect_spec b) (fun c a w k=>hq c a _ _ w k) _ _ a w (Region.free_spec ho' h2) (by simpa using h3) (Ak5 e) hI
  (.inl ⟨by simp[Region.wanted],fun w' hw'=>hr w' hw' w' (Ext.refl _) _ fr.Yb _ _ _ _⟩) (h _ (fr.put hn))
theorem AbC{w:World}{b:Nat}{cs:Qq6}{t:TypeId}(h:w.heap[b]? = some (.cells cs.toArray t (0,0))):Hy (hp w) ⟨b,0,none⟩ cs:=
 ⟨Z,fun j u hu=>by
  show IW (hp w) (Addr.add ⟨b,0,none⟩ j)=some u
  simp only[Addr.add_lit,IW,hp,h]
  simpa using hu⟩
theorem Km[Dr]{b off:Nat}{cs:Qq6}{t t':TypeId}{x:Operand}{u:Value}{dd:TypeDesc}(hx:ev L x=some (.pointer (some ⟨b,off,none⟩)))[ht:Qqq (P.underlying t) (some dd)][hd:Qqq (Ta dd) true](h:w.heap[b]? = some (.cells cs.toArray t' (0,0)))(hu:nth cs off=some u):B5 P L w (.load t x) ty u:=by
 have a:=(AbC h).add off;obtain⟨c,hc⟩:=Wn cs off u hu;rw[hc]at a;simp only[Addr.add_lit,QzJ]at a;exact AT (hx:=⟨hx⟩) (ht:=⟨ht.e⟩) (hd:=⟨hd.e⟩) a (Le.refl _)
theorem Rr[Dr]{b:Nat}{cs:Qq6}{t t':TypeId}{x:Operand}{dd:TypeDesc}{zz:Value}{bt:Nat}[hx:Qqq (ev L x) (some (.pointer (some ⟨b,0,none⟩)))][ht:Qqq (P.underlying t) (some dd)][hd:Qqq (Aaa dd) true][hz:Qqx P t zz cs.length bt](h:w.heap[b]? = some (.cells cs.toArray t' (0,0))):B5 P L w (.load t x) ty (.agg cs.toArray):=
 BI (hx:=⟨hx.e⟩) (ht:=⟨ht.e⟩) (hd:=⟨hd.e⟩) (hz:=⟨hz.e⟩) (AbC h) (Le.refl _)
theorem Ah7[Dr]{κ:Type}[DecidableEq κ]{enc:κ->Value}{l:List κ}{vs:Qq6}{k:κ}{b m:Nat}{t kt et:TypeId}{x y:Operand}{z:Value}[hx:Qqq (ev L x) (some (.map (some b)))](hy:ev L y=some (enc k))[ht:Qqq (P.underlying t) (some (.map kt et))](hk:MB P kt enc)(hz:Mz P et z)
  (h:w.heap[b]? = some (.map (mE enc 0 l vs).toArray m)) (hl:l.length=vs.length):B5 P L w (.lookup t x y false) ty (ZN z k l vs):=fun w' hx' ρ hρ dst pos af g=>by
 have hb:=hx'.le b _ h;have:=W0 (k:=k) hk ht.e hz hb hl;simp[execOp,hρ x _ hx.e,hρ y _ hy,this]
end
end Go.E
namespace Go.E
open Go Go.RowKit
section
variable {P:Program}{L:Env}{w w0:World}{O:List BV}{x y:Operand}{ty t t' e src dst u T:TypeId}{b:Nat}{cs:Qq6}
end
def BAd(b:Nat)(v:Value):Prop:=v=.pointer none\/v=.pointer (some ⟨b,0,none⟩)
theorem BAd.one{b:Nat}{v:Value}(h:BAd b v):v.oneCell'=true:=by rcases h with rfl | rfl <;> rfl
section
variable {P:Program}{n:Sz}{ops:Array Oper}{Q:Exit->Act->World->Prop}{L:Env}{w w0:World}{O:List BV}{rest:List Oper}{d:Nat}{ty pt it e:TypeId}{pos:String}{af:Array Edge}{x y:Operand}{H:PH}
end
end Go.E
end
noncomputable section
namespace Go.L
inductive Pv where
 | mk (kind number:Int) (bytes:Qq4) (names:Qq8) (parts:List Pv)
instance:Inhabited Pv:=⟨.mk 0 0 [] [] []⟩
abbrev PvF:Type:=Int×Int×Qq4×Qq8×List Pv
def Pv.f:Pv->PvF
 | .mk k n b ns ps=>(k,n,b,ns,ps)
end Go.L
namespace Go.E
open Go Go.L
variable {α β:Type}
def Rp.via(r:Rp β)(f:α->β):Rp α:=⟨r.sz,fun H x c=>r.rel H (f x) c,fun h=>r.len h,fun hs h=>r.mono hs h,fun h=>r.one h⟩
def Rp.no(α:Type)(n:Nat):Rp α:=⟨n,fun _ _ _=>False,fun h=>h.elim,fun _ h=>h,fun h=>h.elim⟩
theorem AS.Afk{r s:Rp α}{H:PH}{v:Value}{l:List α}(hz:r.sz=s.sz)(h:AS r H v l)(hrel:∀x∈l,∀c,r.rel H x c->s.rel H x c):AS s H v l:=by
 obtain⟨a,cap,b,h2,h3,d,e⟩:=h.ex;refine⟨a,cap,b,h2,h3,d,fun A hA hl=>?_⟩;obtain⟨f,g⟩:=e A hA hl;refine⟨f,fun i x hx=>?_⟩;obtain⟨c,hc,hcell⟩:=g i x hx;exact⟨c,hrel x (List.mem_of_getElem? hx) c hc,fun j u hu=>by rw[<- hz];exact hcell j u hu⟩
def Rp.fields(r:Rp Pv):Rp PvF:=.pair (.int .i64) (.pair (.int .i64) (.pair (.vec .byte) (.pair (.vec .st) (.vec r))))
def Rp.NV:Nat->Rp Pv
 | 0=>.no Pv 5
 | d+1=>(Rp.fields (Rp.NV d)).via Pv.f
theorem Rp.Rs:∀d,(Rp.NV d).sz=5
 | 0=>rfl
 | _+1=>rfl
theorem Rp.Yn{r s:Rp Pv}{H:PH}{x:PvF}{c:Qq6}(hz:r.sz=s.sz)(hrel:∀y∈x.2.2.2.2,∀c,r.rel H y c->s.rel H y c)(h:(Rp.fields r).rel H x c):(Rp.fields s).rel H x c:=by
 obtain⟨c1,c2,a,b,c3,c4,d,h2,c5,c6,e,h3,c7,c8,f,g,v,i,j⟩:=h;exact⟨c1,c2,a,b,c3,c4,d,h2,c5,c6,e,h3,c7,c8,f,g,v,i,j.Afk hz hrel⟩
theorem Rp.W7{H:PH}:∀(d:Nat) (x:Pv) (c:Qq6),(Rp.NV d).rel H x c->(Rp.NV (d+1)).rel H x c
 | 0,_,_,h=>h.elim
 | d+1,x,c,h=>Rp.Yn (r:=Rp.NV d) (s:=Rp.NV (d+1)) (by rw[Rp.Rs,Rp.Rs]) (fun y _ c h=>Rp.W7 d y c h) h
theorem Rp.Aam{H:PH}{d e:Nat}(h:d<=e){x:Pv}{c:Qq6}(hx:(Rp.NV d).rel H x c):(Rp.NV e).rel H x c:=by
 induction h with
 | refl=>exact hx
 | step _ ih=>exact Rp.W7 _ _ _ ih
def Rp.tree:Rp Pv:=⟨5,fun H x c=>∃d,(Rp.NV d).rel H x c,fun h=>by obtain⟨d,h⟩:=h;rw[(Rp.NV d).len h,Rp.Rs],fun hs h=>by obtain⟨d,h⟩:=h;exact⟨d,(Rp.NV d).mono hs h⟩,fun h=>by obtain⟨d,h⟩:=h;exact(Rp.NV d).one h⟩
theorem Rp.Mb{H:PH}{x:Pv}{c:Qq6}(h:Rp.tree.rel H x c):(Rp.fields Rp.tree).rel H x.f c:=by
 obtain⟨d,h⟩:=h
 cases d with
 | zero=>exact h.elim
 | succ d=>exact Rp.Yn (r:=Rp.NV d) (s:=Rp.tree) (Rp.Rs d) (fun y _ c h=>⟨d,h⟩) h
theorem AS.bound{H:PH}{v:Value}{l:List Pv}(h:AS Rp.tree H v l):∃d,AS (Rp.NV d) H v l:=by
 obtain⟨a,cap,b,h2,h3,f,g⟩:=h.ex
 cases a with
 | none=>exact⟨0,none,cap,b,h2,h3,f,fun A hA=>by cases hA⟩
 | some A=>
  have key:∀n,∃d,∀i x,i<n->l≠[]->l[i]? = some x->∃c,(Rp.NV d).rel H x c/\∀j u,c[j]? = some u->IW H (A.add (i * 5+j))=some u:=by
   intro n
   induction n with
   | zero=>exact⟨0,fun i x hi=>absurd hi (Nat.not_lt_zero i)⟩
   | succ n ih=>
    obtain⟨d,hd⟩:=ih
    by_cases hl:l=[]
    ·exact⟨0,fun i x _ hn=>absurd hl hn⟩
    cases hx:l[n]? with
    | none=>
     refine⟨d,fun i x hi hn he=>?_⟩
     rcases Qjf.1 hi with hi | rfl
     ·exact hd i x hi hn he
     ·rw[hx]at he
      cases he
    | some y=>
     obtain⟨c,⟨e,hc⟩,hcell⟩:=(g A Z hl).2 n y hx;refine⟨max d e,fun i x hi hn he=>?_⟩
     rcases Qjf.1 hi with hi | rfl
     ·obtain⟨c',k,m⟩:=hd i x hi hn he;exact⟨c',Rp.Aam (Nat.le_max_left ..) k,m⟩
     ·rw[hx]at he
      cases he
      exact⟨c,Rp.Aam (Nat.le_max_right ..) hc,hcell⟩
  obtain⟨d,hd⟩:=key l.length;refine⟨d,some A,cap,b,h2,h3,f,fun B hB hl=>?_⟩
  cases hB
  refine⟨(g A Z hl).1,fun i x hx=>?_⟩;rw[Rp.Rs];exact hd i x (Qz6.1 hx).1 hl hx
theorem Rp.Eu{H:PH}{x:Pv}{c:Qq6}(h:(Rp.fields Rp.tree).rel H x.f c):Rp.tree.rel H x c:=by
 obtain⟨c1,c2,a,b,c3,c4,e,h2,c5,c6,g,h3,c7,c8,i,j,v,k,l⟩:=h;obtain⟨d,hd⟩:=l.bound;exact⟨d+1,c1,c2,a,b,c3,c4,e,h2,c5,c6,g,h3,c7,c8,i,j,v,k,hd⟩
end Go.E
namespace Go.E
open Go Go.RowKit
def KU(h:Qq4×Int×Int×Qq4):Value:=.agg #[.string ⟨h.1.toArray⟩,.int .i64 h.2.1,.int .i64 h.2.2.1,.string ⟨h.2.2.2.toArray⟩]
theorem Afl{P:Program}{kt:TypeId}{fs:Array Field}(hd:P.underlying kt=some (.struct fs))(hc:∀(b:Bool) (s m:Qq4) (x y:Int) w,(Instr.checkKey b 10000 kt (.agg #[.string ⟨s.toArray⟩,.int .i64 x,.int .i64 y,.string ⟨m.toArray⟩])).run P w=.ok () w)
  (he:∀(s s' m m':Qq4) (x x' y y':Int) w,(Op.equalIn 10000 kt (.agg #[.string ⟨s.toArray⟩,.int .i64 x,.int .i64 y,.string ⟨m.toArray⟩]) (.agg #[.string ⟨s'.toArray⟩,.int .i64 x',.int .i64 y',.string ⟨m'.toArray⟩])).run P w=.ok (decide (s=s'/\x=x'/\y=y'/\m=m')) w):MB P kt KU:=
 ⟨fun b k w=>hc b k.1 k.2.2.2 k.2.1 k.2.2.1 w,
  fun k=>by
   obtain⟨d,he⟩:∃d,10000=d+1:=⟨9999,Z⟩;rw[he]
   cases d <;> simp[Instr.sameBits,KU,W3],
  ⟨_,hd,.inr ⟨fun a b=>Z,fun a b w=>by
   obtain⟨a1,a2,a3,a4⟩:=a;obtain⟨c,e,f,g⟩:=b;have:=he a1 c a4 g a2 e a3 f w;unfold Op.equal;rw[show Op.maxDepth=10000 from Z];simp only[KU];rw[this]
   congr 1
   rw[Qz7];simp⟩⟩⟩
section
variable {P:Program}{L:Env}{w:World}{t t' ty:TypeId}{x y:Operand}
theorem YY{v:Nat}(h:v<2 ^ 64):IntKind.u64.wrap (v:Int)=(v:Int):=by
 simp only[IntKind.wrap];simp[IntKind.bits,IntKind.signed] <;> omega
theorem Aj9[Dr]{op:BinOp}{c:Nat}{p q:Int}[hx:Qqq (ev L x) (some (.int .u64 p))][hy:Qqq (ev L y) (some (.int .u64 q))](ho:Ak0 op p.toNat q.toNat=some c)(h:(0<=p/\p<2 ^ 64)/\(0<=q/\q<2 ^ 64)):B5 P L w (.binOp op t x y t') ty (.int .u64 (c:Int)):=by
 intro w' _ ρ hρ dst pos af g;obtain⟨a,rfl⟩:=Qx4 h.1.1;obtain⟨b,rfl⟩:=Qx4 h.2.1;rw[Qzk,Qzk]at ho;have ha:a<2 ^ 64:=by omega
 have hb:b<2 ^ 64:=by omega
 have ea:(QxE 64 (a:Int)).toNat=a:=by simp;omega
 have eb:(QxE 64 (b:Int)).toNat=b:=by simp;omega
 cases op <;> simp only[Ak0,Option.some.injEq,reduceCtorEq]at ho <;> subst ho
 ·have e:(Op.intBits .and .u64 (a:Int) (b:Int)).run P w'=.ok (.int .u64 ((a &&& b:Nat):Int)) w':=by
   show Result.ok (Value.int .u64 (IntKind.u64.wrap ((QxE 64 (a:Int) &&& QxE 64 (b:Int)).toNat:Int))) w'=_
   rw[BitVec.toNat_and,ea,eb,YY (Nat.and_lt_two_pow _ hb)]
  simp only[execOp,hρ x _ hx.e,hρ y _ hy.e,eqGuard,binOp,Sem.run_bind,ne_eq,not_true_eq_false,if_false,QkB,if_true,Sem.run_pure,Result.andThen_ok,e]
 ·have e:(Op.intBits .or .u64 (a:Int) (b:Int)).run P w'=.ok (.int .u64 ((a ||| b:Nat):Int)) w':=by
   show Result.ok (Value.int .u64 (IntKind.u64.wrap ((QxE 64 (a:Int) ||| QxE 64 (b:Int)).toNat:Int))) w'=_
   rw[BitVec.toNat_or,ea,eb,YY (Nat.or_lt_two_pow ha hb)]
  simp only[execOp,hρ x _ hx.e,hρ y _ hy.e,eqGuard,binOp,Sem.run_bind,ne_eq,not_true_eq_false,if_false,QkB,if_true,Sem.run_pure,Result.andThen_ok,e]
 ·have e:(Op.intBits .xor .u64 (a:Int) (b:Int)).run P w'=.ok (.int .u64 ((a ^^^ b:Nat):Int)) w':=by
   show Result.ok (Value.int .u64 (IntKind.u64.wrap ((QxE 64 (a:Int) ^^^ QxE 64 (b:Int)).toNat:Int))) w'=_
   rw[BitVec.toNat_xor,ea,eb,YY (Nat.xor_lt_two_pow ha hb)]
  simp only[execOp,hρ x _ hx.e,hρ y _ hy.e,eqGuard,binOp,Sem.run_bind,ne_eq,not_true_eq_false,if_false,QkB,if_true,Sem.run_pure,Result.andThen_ok,e]
end
end Go.E
end
noncomputable section
namespace Go.E
open Go Go.RowKit
section
variable {P:Program}{L:Env}{w:World}{t ty:TypeId}{x a b:Operand}{l:Qq4}{k k':IntKind}{i j:Int}
theorem Qa(l:Qq4)(a b:Nat):(⟨l.toArray⟩:ByteArray).extract a b=⟨((l.drop a).take (b - a)).toArray⟩:=by
 apply ByteArray.ext;rw[ByteArray.data_extract];simp[List.extract_eq_take_drop]
theorem AiY[Dr]{lo hi:Option Operand}(hx:ev L x=some (.string ⟨l.toArray⟩))(ht:P.underlying t=some .string)(a b:Nat)(ha:loB L lo a)(hb:hiB L hi b l.length)(d:a<=b)(h2:b<=l.length):
  B5 P L w (.slice t x lo hi none) ty (.string ⟨((l.drop a).take (b - a)).toArray⟩):=by
 intro w' _ ρ hρ dst pos af g;have hs:(ByteArray.mk l.toArray).size=l.length:=by simp[Qx6]
 have i:(a:Int)<=(b:Int):=by omega
 have j:(b:Int)<=(l.length:Int):=by omega
 have k:(a:Int)<=(l.length:Int):=by omega
 cases lo with
 | none=>
  simp only[loB]at ha;subst ha
  cases hi with
  | none=>
   simp only[hiB]at hb;subst hb;simp[execOp,hρ x _ hx,Instr.sliceAt,run_underlying ht,Instr.slice,Instr.sliceBounds,hs,Qa]
  | some c=>
   obtain⟨f,hb⟩:=hb;simp[execOp,hρ x _ hx,hρ c _ hb,Instr.sliceAt,run_underlying ht,Instr.slice,Instr.sliceBounds,Instr.sliceBound,asIntOf,hs,h2,Qa]
 | some e=>
  obtain⟨m,ha⟩:=ha
  cases hi with
  | none=>
   simp only[hiB]at hb;subst hb;simp[execOp,hρ x _ hx,hρ e _ ha,Instr.sliceAt,run_underlying ht,Instr.slice,Instr.sliceBounds,Instr.sliceBound,asIntOf,hs,d,Qa]
  | some c=>
   obtain⟨f,hb⟩:=hb;simp[execOp,hρ x _ hx,hρ e _ ha,hρ c _ hb,Instr.sliceAt,run_underlying ht,Instr.slice,Instr.sliceBounds,Instr.sliceBound,asIntOf,hs,d,h2,Qa]
theorem Afm[Dr][hx:Qqq (ev L x) (some (.string ⟨l.toArray⟩))][ha:Qqq (ev L a) (some (.int k i))][hb:Qqq (ev L b) (some (.int k' j))][ht:Qqq (P.underlying t) (some .string)](hc:0<=i/\i<=j/\j<=(l.length:Int)):
  B5 P L w (.slice t x (some a) (some b) none) ty (.string ⟨((l.drop i.toNat).take (j.toNat - i.toNat)).toArray⟩):=
 AiY hx.e ht.e i.toNat j.toNat ⟨k,by rw[Qx5 U];exact ha.e⟩ ⟨k',by rw[Qx5 U];exact hb.e⟩ U U
theorem AjA[Dr][hx:Qqq (ev L x) (some (.string ⟨l.toArray⟩))][ha:Qqq (ev L a) (some (.int k i))][ht:Qqq (P.underlying t) (some .string)](hc:0<=i/\i<=(l.length:Int)):
  B5 P L w (.slice t x (some a) none none) ty (.string ⟨(l.drop i.toNat).toArray⟩):=by
 have:=AiY (P:=P) (w:=w) (ty:=ty) hx.e ht.e i.toNat l.length (lo:=some a) (hi:=none) ⟨k,by rw[Qx5 U];exact ha.e⟩ Z U U
 rwa [Qxb Qqd]at this
end
section
variable {P:Program}{n:Sz}{Q:Exit->Act->World->Prop}{L:Env}{w w0:World}{O:List BV}{lop:List Oper}{ix:Nat}{tr:Tr}
 {d:Nat}{ty:TypeId}{pos:String}{af:Array Edge}{α:Type}{r:Rp α}{x a b:Operand}{v:Value}{t t' e:TypeId}{H:PH}{l:List α}{k k':IntKind}{i j:Int}{zz:Value}{bt:Nat}{jg sg:Nat}{want bb:Bool}{oj:Oper}
theorem Afn[Dr]{lo hi:Option Operand}(ho:HF lop ix=some ⟨some d,.slice t x lo hi none,ty,pos,af,some (jg,want)⟩)(hj:HF lop jg=some oj)(hd:oj.dst=some sg)(hg:gt L sg=some (.bool bb))(hw:bb=want)(hx:ev L x=some v)(ht:P.underlying t=some (.slice e))(he:Zr P e zz r.sz bt)(hv:AS r H v l)(a b:Nat)
  (ha:loB L lo a) (hb:hiB L hi b l.length) (hab:a<=b/\b<=l.length) (hn:Qzw d n.n=true)
  (h:∀v',AS r H v' ((l.drop a).take (b - a))->D P n lop Q tr ((d,v')::L) w):D P n lop Q (.q ix tr) L w:=by
 obtain⟨v',c,h2⟩:=YM (P:=P) (ty:=ty) hx ht he hv a b ha hb hab.1 hab.2;exact CM ho (h2 w) hj hd hg hw hn (h v' c)
theorem KV[Dr](ho:HF lop ix=some ⟨some d,.slice t x (some a) none none,ty,pos,af,some (jg,want)⟩)[hj:Qqq (HF lop jg) (some oj)][hd:Qqq oj.dst (some sg)][hg:Qqq (gt L sg) (some (.bool bb))](hw:bb=want)(hx:ev L x=some v)[ha:Qqq (ev L a) (some (.int k i))](ht:P.underlying t=some (.slice e))[he:Qqx P e zz r.sz bt](hv:AS r H v l)(hc:0<=i/\i<=(l.length:Int))(hn:Qzw d n.n=true)
  (h:∀v',AS r H v' (l.drop i.toNat)->D P n lop Q tr ((d,v')::L) w):D P n lop Q (.q ix tr) L w:=
 Afn ho hj.e hd.e hg.e hw hx ht he.e hv i.toNat l.length ⟨k,by rw[Qx5 U];exact ha.e⟩ Z U hn fun v' h'=>h v' (by rwa [Qxb Qqd]at h')
theorem W8[Dr]{l:Qq4}{u:TypeDesc}(ho:HF lop ix=some ⟨some d,.convert t' t x,ty,pos,af,none⟩)(hx:ev L x=some (.string ⟨l.toArray⟩))(ht:P.underlying t'=some u)(ht':P.underlying t=some (.slice e))(he:P.underlying e=some (.int .u8))(hn:Qzw d n.n=true)(hL:Bk w0 O w)(hl:l.length<=9223372036854775807)
  (h:∀v w',Ext w w'->Bk w0 O w'->Le (fz w O) (fz w' O)->AS .byte (gz H w0 w' O) v l->D P n lop Q tr ((d,v)::L) w'):D P n lop Q (.h ix tr) L w:=by
 have hs:(ByteArray.mk l.toArray).size=l.length:=by simp[Qx6]
 refine AcC (fun a u w'=>u=.slice (some ⟨a.heap.size,0,none⟩) l.length (grownCap a l.length 0 e)/\w'=Lib.bytesWorld a e ⟨l.toArray⟩) ho hn (fun a b ρ hρ=>?_) (fun a u w' b j hR=>?_)
 ·have:=Lib.run_convert_string_bytes (P:=P) a t' t e ⟨l.toArray⟩ ht ht' he;rw[hs]at this;exact⟨_,_,by simp[execOp,hρ x _ hx,this],(Uy a e hl).1,Z,Z⟩
 ·obtain⟨rfl,rfl⟩:=hR;obtain⟨g,h2⟩:=Uy a e hl;have c:=hL.call b;exact h _ _ (b.trans g) (c.call g) ((AH hL b).trans (AH c g)) (h2.mono (Wt c))
end
section
variable {P:Program}{n:Sz}{ops:Array Oper}{Q:Exit->Act->World->Prop}{L:Env}{w w0:World}{O:List BV}{l:List Oper}{i:Nat}{t:Tr}{rest:List Oper}
 {d:Nat}{ty:TypeId}{pos:String}{af:Array Edge}{f:FuncId}{args:List Operand}{vs:Qq6}{at_:Array TypeId}{fo:Operand}
theorem P1[Dr]{R:Value->World->Prop}[hf:Qqq (ev L fo) (some (.func (.func f) #[] #[]))][ha:Qqq (Vc L args) (some vs)][hn:Qqq (Qzw d n.n) true](hL:Bk w0 O w)(hok:Ok P f vs w (fun v w'=>Ext w w'/\R v w'))
  (h:∀v w',R v w'->Ext w w'->Bk w0 O w'->Le (fz w O) (fz w' O)->S P n ops Q rest ((d,v)::L) w'):S P n ops Q (⟨some d,.call ⟨.value fo,args.toArray,at_⟩,ty,pos,af,none⟩::rest) L w:=
 D6 (cap:=[]) (R:=fun v w'=>Ext w w'/\R v w') hf.e ha.e (hn:=⟨hn.e⟩) (by rw[QzZ];exact hok) fun v w' hh=>h v w' hh.2 hh.1 (hL.call hh.1) (AH hL hh.1)
end
end Go.E
namespace Go.E
open Go
theorem W9(place:Nat->Option (Nat×Nat)):∀(l m:List (Nat×Value)) (cells:Array Value),l.map (fun p=>(p.1,p.2.cells))=m.map (fun p=>(p.1,p.2.cells))->Instr.fill place cells l=Instr.fill place cells m
 | [],[],_,_=>rfl
 | [],_::_,_,h=>by cases h
 | _::_,[],_,h=>by cases h
 | (i,v)::l,(j,u)::m,cells,h=>by
  simp only[QzA,List.cons.injEq,Prod.mk.injEq]at h;obtain⟨⟨rfl,a⟩,h2⟩:=h;unfold Instr.fill;rw[a]
  split
  ·rfl
  ·split
   ·rfl
   ·exact W9 place l m _ h2
theorem Aan{P:Program}{t:TypeId}{n:Nat}{ps qs:Array (Nat×Value)}{w:World}(h:ps.toList.map (fun p=>(p.1,p.2.cells))=qs.toList.map (fun p=>(p.1,p.2.cells))):(Instr.buildSlice t n ps).run P w=(Instr.buildSlice t n qs).run P w:=by
 unfold Instr.buildSlice;simp only[W9 _ _ _ _ h]
theorem Mc{v:Value}(h:v.oneCell'=true):v.cells=(Value.agg #[v]).cells:=by
 cases v <;> first | rfl | cases h
end Go.E
namespace Go.E
open Go
theorem Ak6 {P : Program}{t : TypeId}{f0 f1 f2 f3 : Field}{d f : IntKind} (ht : P.underlying t = some (.struct (P.fieldsOf t))) (hp : P.stoodInHeld t = false) (hf : (P.fieldsOf t).toList = [f0, f1, f2, f3]) (i : f0.name ≠ "_" /\ f0.offset = 0) (j : f1.name ≠ "_" /\ f1.offset = 1) (h2 : f2.name ≠ "_" /\ f2.offset = 2) (h3 : f3.name ≠ "_" /\ f3.offset = 3)
  (k:P.underlying f0.type=some .string) (l:P.underlying f1.type=some (.int d)) (o:P.underlying f2.type=some (.int f)) (p:P.underlying f3.type=some .string) (s m:Qq4) (a b:Int) (g h:Qq4) (c e:Int) (w:World) :
  (Op.equalIn 10000 t (.agg #[.string ⟨s.toArray⟩,.int d a,.int f b,.string ⟨m.toArray⟩]) (.agg #[.string ⟨g.toArray⟩,.int d c,.int f e,.string ⟨h.toArray⟩])).run P w=.ok (decide (s=g/\a=c/\b=e/\m=h)) w:=by
 rw[run_equalIn_struct w 9999 t _ _ ht hp,hf]
 have hs:∀(dd:Nat) (s m:Qq4),(Op.equalIn (dd+1) f0.type (.string ⟨s.toArray⟩) (.string ⟨m.toArray⟩)).run P w=.ok (decide (s=m)) w:=fun dd s m=>by
  simp[Op.equalIn,run_underlying k,W3]
 have q:∀(dd:Nat) (s m:Qq4),(Op.equalIn (dd+1) f3.type (.string ⟨s.toArray⟩) (.string ⟨m.toArray⟩)).run P w=.ok (decide (s=m)) w:=fun dd s m=>by
  simp[Op.equalIn,run_underlying p,W3]
 have key:∀dd:Nat,(Op.eqFields (dd+1) #[.string ⟨s.toArray⟩,.int d a,.int f b,.string ⟨m.toArray⟩] #[.string ⟨g.toArray⟩,.int d c,.int f e,.string ⟨h.toArray⟩] [f0,f1,f2,f3]).run P w=.ok (decide (s=g/\a=c/\b=e/\m=h)) w:=by
  intro dd
  by_cases z:s=g <;> by_cases e1:a=c <;> by_cases e2:b=e <;> by_cases e3:m=h <;>
   simp[Op.eqFields,i.1,j.1,h2.1,h3.1,i.2,j.2,h2.2,h3.2,part,isAgg,run_underlying k,run_underlying l,run_underlying o,run_underlying p,hs,q,run_equalIn_int w dd _ _ _ _ _ l,run_equalIn_int w dd _ _ _ _ _ o,z,e1,e2,e3]
 exact key 9998
end Go.E
namespace Go.E
open Go Go.RowKit
section
variable {P:Program}{n:Sz}{ops:Array Oper}{Q:Exit->Act->World->Prop}{L:Env}{w w0:World}{O:List BV}{rest:List Oper}
 {ty:TypeId}{pos:String}{af:Array Edge}{α:Type}{r:Rp α}{x y:Operand}{u v:Value}{t e:TypeId}{H:PH}
end
end Go.E
end
noncomputable section
namespace Go.L
def Fi(r:Int):Qq4:=(Go.Utf8.encode r).data.toList
def XI(l:Qq4)(p:Nat):Nat×Nat:=Go.Utf8.decode ⟨l.toArray⟩ p
def DT{κ α:Type}[DecidableEq κ](k:κ)(l:List (κ×List α)):List (κ×List α):=Dm k (BF [] k l) l
end Go.L
namespace Go.E
open Go Go.RowKit
section
variable {P:Program}{n:Sz}{ops:Array Oper}{Q:Exit->Act->World->Prop}{L:Env}{w w0:World}{O:List BV}{rest:List Oper}{d:Nat}{ty t t':TypeId}{pos:String}{af:Array Edge}{x y x':Operand}{l:Qq4}
theorem Ak7[Dr]{a:Int}(hx:ev L x=some (.int .i32 a))[ht:Qqq (P.underlying t) (some (.int .i32))][ht':Qqq (P.underlying t') (some .string)]:B5 P L w (.convert t t' x) ty (.string ⟨(Go.L.Fi a).toArray⟩):=by
 intro w' _ ρ hρ dst pos af g;have e:(⟨(Go.L.Fi a).toArray⟩:ByteArray)=Utf8.encode a:=by unfold Go.L.Fi;rw[Array.toArray_toList]
 rw[e];simp[execOp,hρ x _ hx,convert,run_underlying ht.e,run_underlying ht'.e,Conv.intToString]
theorem Afo[Dr](hx:ev L x=some (.string ⟨l.toArray⟩))[ht:Qqq (P.underlying t) (some .string)][hn:Qqq (Qzw d n.n) true](hL:Bk w0 O w)
  (h:∀w' b,Bk w0 (.obj b (.stringIter ⟨l.toArray⟩ 0)::O) w'->Le (fz w O) (fz w' (.obj b (.stringIter ⟨l.toArray⟩ 0)::O))->S P n ops Q rest ((d,.pointer (some ⟨b,0,none⟩))::L) w'):S P n ops Q (⟨some d,.range t x,ty,pos,af,none⟩::rest) L w:=by
 have hb:∀b,(BV.obj w.heap.size (.stringIter ⟨l.toArray⟩ 0)).block=some b->w.heap.size<=b:=fun b e=>by cases e;exact Qzu _
 refine Ei (v:=.pointer (some ⟨w.heap.size,0,none⟩)) (w':=w.alloc (.stringIter ⟨l.toArray⟩ 0)) hn.e (fun ρ hρ=>?_) (h _ _ (hL.new (CW w _) (World.alloc_heap_new w _) hb) (SX hL (CW w _) hb));simp[execOp,Instr.range,run_underlying ht.e,hρ x _ hx,newObj,Sem.run]
theorem Ah8[Dr](i:Nat){b p:Nat}(hx:ev L x=some (.pointer (some ⟨b,0,none⟩)))[hn:Qqq (Qzw d n.n) true](hL:Bk w0 O w)(hi:Dz O i=some (.obj b (.stringIter ⟨l.toArray⟩ p)))
  (a:p<l.length->∀w',Bk w0 (CE O i (.obj b (.stringIter ⟨l.toArray⟩ (p+(Go.L.XI l p).2)))) w'->Le (fz w O) (fz w' (CE O i (.obj b (.stringIter ⟨l.toArray⟩ (p+(Go.L.XI l p).2)))))->S P n ops Q rest ((d,.tuple #[.bool true,.int .i64 (p:Int),.int .i32 ((Go.L.XI l p).1:Int)])::L) w')
  (h2 : ¬p<l.length->S P n ops Q rest ((d,.tuple #[.bool false])::L) w):S P n ops Q (⟨some d,.next x true,ty,pos,af,none⟩::rest) L w:=by
 have hb:w.heap[b]? = some (.stringIter ⟨l.toArray⟩ p):=hL.at hi;have hs:(ByteArray.mk l.toArray).size=l.length:=by simp[Qx6]
 by_cases hp:p<l.length
 ·have hr:=Lib.run_next_any_at (P:=P) w b ⟨l.toArray⟩ p ty hb (by rw[hs];exact hp);have hput:=hL.putAt (.stringIter ⟨l.toArray⟩ (p+(Go.L.XI l p).2)) hi;refine Ei (v:=.tuple #[.bool true,.int .i64 (p:Int),.int .i32 ((Go.L.XI l p).1:Int)]) (w':=_) hn.e (fun ρ hρ=>?_) (a hp _ hput.1 hput.2);have e:w.iterAt b ⟨l.toArray⟩ (p+(Utf8.decode ⟨l.toArray⟩ p).2)=w.putObj b (.stringIter ⟨l.toArray⟩ (p+(Go.L.XI l p).2)):=Z;rw[e]at hr;simp[execOp,hρ x _ hx,hr,Go.L.XI]
 ·have hr:=Lib.run_next_end_at (P:=P) w b ⟨l.toArray⟩ p ty hb (by rw[hs];exact hp);refine Ei (v:=.tuple #[.bool false]) (w':=w) hn.e (fun ρ hρ=>?_) (h2 hp);simp[execOp,hρ x _ hx,hr]
end
section
variable {κ:Type}{enc:κ->Value}{k:κ}
theorem AcT:∀(l:List κ) (vs:Qq6) (i m:Nat),l.length=vs.length->l[m]? = some k->(mE enc i l vs).modify m (fun e=>{e with key:=enc k})=mE enc i l vs
 | b::l,u::vs,i,0,_,h=>by simp at h;subst h;simp[mE]
 | b::l,u::vs,i,m+1,hl,h=>by
  have:=AcT l vs (i+1) m (by simpa using hl) (by simpa using h);simp only[mE,List.modify_succ_cons,this]
theorem AcU{v:Value}:∀(l:List κ) (vs:Qq6) (i m:Nat),l.length=vs.length->(mE enc i l vs).modify m (fun e=>{e with val:=v})=mE enc i l (vs.set m v)
 | [],[],_,_,_=>by simp[mE]
 | b::l,u::vs,i,0,_=>by simp[mE]
 | b::l,u::vs,i,m+1,hl=>by
  have:=AcU (v:=v) l vs (i+1) m (by simpa using hl);simp only[mE,List.modify_succ_cons,List.set_cons_succ,this]
theorem Sg:∀(l:List κ) (vs:Qq6) (i m:Nat),l.length=vs.length->m<l.length->(mE enc i l vs).findIdx? (fun e=>(e.born:Int)==((i+m:Nat):Int))=some m
 | b::l,u::vs,i,0,_,_=>by simp[mE,List.findIdx?_cons]
 | b::l,u::vs,i,m+1,hl,h=>by
  have:=Sg l vs (i+1) m (by simpa using hl) (by simpa using h);rw[show i+(m+1)=i+1+m by omega];have hne:((i:Int)==((i+1+m:Nat):Int))=false:=by simp;omega
  simp only[mE,List.findIdx?_cons,hne,Qxk,if_false,this,Option.map_some]
end
section
variable {κ α:Type} [DecidableEq κ] {k:κ}{l:List (κ×List α)}
theorem Qb{m:Nat}(h:mI k (l.map Qzz)=some m):Go.L.DT k l=l:=by
 unfold Go.L.DT;rw[P0 h];have:=T7 ([]:List α) h;obtain⟨a,h2⟩:=Qz6.1 this
 conv=>lhs;rw[<- h2]
 exact List.set_getElem_self a
theorem Qc(h:mI k (l.map Qzz)=none):Go.L.DT k l=l++[(k,[])]:=by
 unfold Go.L.DT;rw[Pz h,T6 [] h]
theorem WA:Go.L.BF [] k (Go.L.DT k l)=Go.L.BF [] k l:=by
 cases h:mI k (l.map Qzz)with
 | some m=>rw[Qb h]
 | none=>
  rw[Qc h];clear h
  induction l with
  | nil=>simp[Go.L.BF]
  | cons a l ih=>
   obtain⟨a,y⟩:=a;simp only[Qx1,Go.L.BF]
   split
   ·rfl
   ·exact ih
theorem Afp:∃m,mI k ((Go.L.DT k l).map Qzz)=some m:=by
 cases h:mI k (l.map Qzz)with
 | some m=>rw[Qb h];exact⟨m,h⟩
 | none=>
  rw[Qc h];clear h
  induction l with
  | nil=>exact⟨0,by simp[mI]⟩
  | cons a l ih=>
   obtain⟨a,y⟩:=a;obtain⟨m,hm⟩:=ih;simp only[Qx1,QzA,mI]
   split
   ·exact⟨_,Z⟩
   ·rw[hm];exact⟨_,Z⟩
theorem Aao{y z:List α}:∀{l:List (κ×List α)},mI k (l.map Qzz)=none->Go.L.Dm k y (l++[(k,z)])=Go.L.Dm k y l
 | [],_=>by simp[Go.L.Dm]
 | (a,x)::l,h=>by
  simp only[QzA,mI]at h
  split at h
  ·cases h
  ·rename_i e;simp only[Qx1,Go.L.Dm,if_neg e];rw[Aao (by cases b:mI k (l.map Qzz) <;> simp_all)]
theorem WB{y:List α}:Go.L.Dm k y (Go.L.DT k l)=Go.L.Dm k y l:=by
 cases h:mI k (l.map Qzz)with
 | some m=>rw[Qb h]
 | none=>rw[Qc h,Aao h]
def Rt(k:κ)(l:List κ):Int:=match mI k l with | some m=>(m:Int) | none=>0
end
section
variable {P:Program}{n:Sz}{ops:Array Oper}{Q:Exit->Act->World->Prop}{L:Env}{w w0:World}{O:List BV}{rest:List Oper}{d:Nat}{ty ty' t mt kt et e:TypeId}{pos pos':String}{af af':Array Edge}{x y x' m':Operand}
 {κ α:Type} [DecidableEq κ] {enc:κ->Value}{cw:α->Qq6}{sz:Nat}{l:List (κ×List α)}{vs:Qq6}{k:κ}{H:PH}{A:List BV}
theorem AbD[Dr](ib:Nat){b:Nat}(hx:ev L x=some (.map (some b)))[hy:Qqq (ev L y) (some (enc k))][ht:Qqq (P.underlying t) (some (.map kt et))](hk:MB P kt enc)(hz:Mz P et (.slice none 0 0))[hn:Qqq (Qzw d n.n) true](hL:Bk w0 (A++mT cw e sz l vs) w)
  (hib:Dz A ib=some (QE enc b l vs)) (hl:l.length=vs.length)
  (h:∀vs' w',(Go.L.DT k l).length=vs'.length->Bk w0 (CE A ib (QE enc b (Go.L.DT k l) vs')++mT cw e sz (Go.L.DT k l) vs') w'->
   Le (fz w (A++mT cw e sz l vs)) (fz w' (CE A ib (QE enc b (Go.L.DT k l) vs')++mT cw e sz (Go.L.DT k l) vs'))->
   S P n ops Q rest ((d,.tuple #[ZN (.slice none 0 0) k ((Go.L.DT k l).map Qzz) vs',.int .i64 (Rt k ((Go.L.DT k l).map Qzz))])::L) w') :
  S P n ops Q (⟨some d,.mapEntry t x y,ty,pos,af,none⟩::rest) L w:=by
 have hb:w.heap[b]? = some (.map (mE enc 0 (l.map Qzz) vs).toArray l.length):=hL.at (KT _ hib);have hg:(getObj b).run P w=.ok (.map (mE enc 0 (l.map Qzz) vs).toArray l.length) w:=by simp[getObj,Sem.run,hb]
 have hs:∀o,(setObj b o).run P w=.ok () (w.putObj b o):=fun o=>by simp[setObj,Sem.run,hb,World.putObj]
 have hll:(l.map Qzz).length=vs.length:=by rw[Qza];exact hl
 cases hm:mI k (l.map Qzz)with
 | some m=>
  obtain⟨f,h2⟩:=Yk hm;have he:=U0 (enc:=enc) (l.map Qzz) vs 0 m k hll h2;have hp:=hL.putAt (.map (mE enc 0 (l.map Qzz) vs).toArray l.length) (KT _ hib);rw[Py _ _ hib]at hp;have h':=h vs (w.putObj b (.map (mE enc 0 (l.map Qzz) vs).toArray l.length));rw[Qb hm]at h';have g:(mE enc 0 (l.map Qzz) vs).toArray.modify m (fun e=>{e with key:=enc k})=(mE enc 0 (l.map Qzz) vs).toArray:=by rw[List.modify_toArray,AcT _ vs 0 m hll h2]
  refine Ei (v:=_) (w':=_) hn.e (fun ρ hρ=>?_) (h' hl hp.1 hp.2)
  have hr:(Instr.mapEntry t (.map (some b)) (enc k)).run P w=.ok (.tuple #[ZN (.slice none 0 0) k (l.map Qzz) vs,.int .i64 (Rt k (l.map Qzz))]) (w.putObj b (.map (mE enc 0 (l.map Qzz) vs).toArray l.length)):=by
   simp only[Instr.mapEntry,Sem.run_bind,run_underlying ht.e,Result.andThen,hg,hk.check];rw[T5 hk hll,hm];simp only[Option.map_some,Sem.run_bind,Result.andThen,List.getElem?_toArray,he,Option.getD_some,Instr.keyThatStays,hk.bits,if_true];simp only[Sem.run_pure,QzJ];rw[g,hs];simp[ZN,Rt,hm,goInt]
  simp[execOp,hρ x _ hx,hρ y _ hy.e,hr]
 | none=>
  have hp:=hL.putAt (.map (mE enc 0 (l.map Qzz++[k]) (vs++[.slice none 0 0])).toArray (l.length+1)) (KT _ hib);rw[Py _ _ hib]at hp;have hnil:=VQ hp.1 e sz;have h':=h (vs++[.slice none 0 0]) (w.putObj b (.map (mE enc 0 (l.map Qzz++[k]) (vs++[.slice none 0 0])).toArray (l.length+1)));rw[Qc hm]at h';have hpush:=YW (enc:=enc) (k:=k) (v:=.slice none 0 0) (l.map Qzz) vs 0 hll;rw[QzJ]at hpush;have c:(l++[(k,([]:List α))]).map Qzz=l.map Qzz++[k]:=by simp
  have i:(l++[(k,([]:List α))]).length=l.length+1:=by simp
  have hB:(.obj b (.map (mE enc 0 (l.map Qzz++[k]) (vs++[.slice none 0 0])).toArray (l.length+1)):BV)=QE enc b (l++[(k,([]:List α))]) (vs++[.slice none 0 0]):=by unfold QE;rw[c,i]
  rw[hB]at hp hnil
  have hperm:(CE A ib (QE enc b (l++[(k,([]:List α))]) (vs++[.slice none 0 0]))++mT cw e sz (l++[(k,([]:List α))]) (vs++[.slice none 0 0])).Perm (.row (.slice none 0 0) e sz 0 []::(CE A ib (QE enc b (l++[(k,([]:List α))]) (vs++[.slice none 0 0]))++mT cw e sz l vs)):=by
   rw[YX k [] (.slice none 0 0) hl,<- QxB];exact List.perm_append_singleton _ _
  have hmm:mI k (l.map Qzz++[k])=some l.length:=by
   have hmk:∀(ks:List κ),mI k ks=none->mI k (ks++[k])=some ks.length:=by
    intro ks
    induction ks with
    | nil=>intro _;simp[mI]
    | cons a ks ih=>
     intro hh;simp only[mI]at hh
     split at hh
     ·cases hh
     ·rename_i ee;simp only[Qx1,mI,if_neg ee];rw[ih (by cases f:mI k ks <;> simp_all)];simp
   have:=hmk _ hm
   rwa [Qza]at this
  refine Ei (v:=_) (w':=_) hn.e (fun ρ hρ=>?_) (h' (by simp[hl]) (hnil.1.perm hperm) (by rw[JF hperm];exact hp.2.trans hnil.2))
  have hr:(Instr.mapEntry t (.map (some b)) (enc k)).run P w=.ok (.tuple #[ZN (.slice none 0 0) k ((l++[(k,([]:List α))]).map Qzz) (vs++[.slice none 0 0]),.int .i64 (Rt k ((l++[(k,([]:List α))]).map Qzz))]) (w.putObj b (.map (mE enc 0 (l.map Qzz++[k]) (vs++[.slice none 0 0])).toArray (l.length+1))):=by
   rw[c];simp only[Instr.mapEntry,Sem.run_bind,run_underlying ht.e,Result.andThen,hg,hk.check];rw[T5 hk hll,hm];have hz':(zeroValue et).run P w=.ok (.slice none 0 0) w:=hz w;simp only[Option.map_none,Sem.run_bind,Result.andThen,hz',List.push_toArray];rw[Qza]at hpush;rw[hpush,hs];simp[ZN,Rt,hmm,goInt,hl]
  simp[execOp,hρ x _ hx,hρ y _ hy.e,hr]
theorem AjB[Dr](ib:Nat){b:Nat}{v:Value}{yl:List α}{T:List BV}(hpd:Aj6 cw e sz (Go.L.DT k l) vs k yl v T)(hm:ev L m'=some (.map (some b)))[hkx:Qqq (ev L x') (some (.int .i64 (Rt k ((Go.L.DT k l).map Qzz))))][hv:Qqq (ev L x) (some v)]
  (hL:Bk w0 (A++T) w) (hib:Dz A ib=some (QE enc b (Go.L.DT k l) vs))
  (h:∀vs' w',(Go.L.Dm k yl l).length=vs'.length->Bk w0 (CE A ib (QE enc b (Go.L.Dm k yl l) vs')++mT cw e sz (Go.L.Dm k yl l) vs') w'->
   Le (fz w (A++T)) (fz w' (CE A ib (QE enc b (Go.L.Dm k yl l) vs')++mT cw e sz (Go.L.Dm k yl l) vs'))->S P n ops Q rest L w') :
  S P n ops Q (⟨none,.entryStore mt m' x' x,ty,pos,af,none⟩::rest) L w:=by
 obtain⟨_,hl,hpm⟩:=hpd;obtain⟨m,hmi⟩:=Afp (k:=k) (l:=l);rw[WB]at hpm;have hll:((Go.L.DT k l).map Qzz).length=vs.length:=by rw[Qza];exact hl
 obtain⟨c,h2⟩:=Yk hmi;have hb:w.heap[b]? = some (.map (mE enc 0 ((Go.L.DT k l).map Qzz) vs).toArray (Go.L.DT k l).length):=hL.at (KT T hib);have hg:(getObj b).run P w=.ok (.map (mE enc 0 ((Go.L.DT k l).map Qzz) vs).toArray (Go.L.DT k l).length) w:=by simp[getObj,Sem.run,hb]
 have hs:∀o,(setObj b o).run P w=.ok () (w.putObj b o):=fun o=>by simp[setObj,Sem.run,hb,World.putObj]
 have hU:upV k v ((Go.L.DT k l).map Qzz) vs=vs.set m v:=by unfold upV;rw[hmi]
 have hK:(Go.L.Dm k yl l).map Qzz=(Go.L.DT k l).map Qzz:=by
  have:=T8 yl (k:=k) (l:=Go.L.DT k l);rw[WB]at this;rw[<- this];unfold upK;rw[hmi]
 have hlen:(Go.L.Dm k yl l).length=(Go.L.DT k l).length:=by have:=congrArg List.length hK;simpa using this
 have hf:=Sg (enc:=enc) _ vs 0 m hll c;rw[QzJ]at hf;have hp:=hL.putAt (.map (mE enc 0 ((Go.L.Dm k yl l).map Qzz) (vs.set m v)).toArray (Go.L.Dm k yl l).length) (KT T hib);rw[Py _ _ hib]at hp;have a:=List.Perm.append_left (CE A ib (QE enc b (Go.L.Dm k yl l) (upV k v ((Go.L.DT k l).map Qzz) vs))) hpm.symm;rw[hU]at a
 have hr:(Instr.entryStore mt (.map (some b)) (.int .i64 (Rt k ((Go.L.DT k l).map Qzz))) v).run P w=.ok () (w.putObj b (.map (mE enc 0 ((Go.L.Dm k yl l).map Qzz) (vs.set m v)).toArray (Go.L.Dm k yl l).length)):=by
  simp only[Instr.entryStore,Sem.run_bind,Result.andThen,hg,Rt,hmi,asInt,asIntOf];simp only[Sem.run_bind,Sem.run_pure,Result.andThen,List.findIdx?_toArray,hf,List.modify_toArray];rw[AcU _ vs 0 m hll,hs,hK,hlen]
 refine NO _ (fun ρ hρ=>?_) (h (vs.set m v) _ (by rw[hlen,List.length_set];exact hl) (hp.1.perm a) ?_)
 ·simp[execOp,hρ m' _ hm,hρ x' _ hkx.e,hρ x _ hv.e,hr]
 ·rw[JF a];exact hp.2
end
end Go.E
end
noncomputable section
namespace Go.E
open Go Go.RowKit
def Aap(v v':Value)(lo:Nat):Prop:=∃a m cap,v=.slice a m cap/\lo<=m/\m<=cap/\v'=.slice (if cap=lo then a else a.map (·.add lo)) (m - lo) (cap - lo)
theorem Aap.vec{α:Type}{r:Rp α}{H:PH}{v v':Value}{lo:Nat}{l:List α}(h:Aap v v' lo)(hv:AS r H v l)(hr:r.sz=1):AS r H v' (l.drop lo):=by
 obtain⟨a,m,cap,rfl,c,h2,rfl⟩:=h;obtain⟨a',cap',he⟩:=hv.header;have hm:m=l.length:=by cases he;rfl
 subst hm;obtain⟨a2,f,g,hs⟩:=hv.sub lo l.length c (Qzu _)
 cases g
 rw[hr,Qz9,Qxb Qqd]at hs;exact hs
section
variable {P:Program}{n:Sz}{ops:Array Oper}{Q:Exit->Act->World->Prop}{L:Env}{w w0:World}{O:List BV}{rest:List Oper}{d:Nat}
 {ty:TypeId}{pos:String}{af:Array Edge}{α:Type}{r:Rp α}{x a b:Operand}{v:Value}{t e:TypeId}{H:PH}{k:IntKind}{lo:Int}{m:Nat}{zz:Value}{bt:Nat}{xs:Qq6}
theorem Afq[Dr](i:Nat)(hx:ev L x=some v)[ha:Qqq (ev L a) (some (.int k lo))](ht:P.underlying t=some (.slice e))[hz:Qqx P e zz 1 bt](hL:Bk w0 O w)(hi:Dz O i=some (.row v e 1 m xs))(hc:0<=lo/\lo<=(m:Int))[hn:Qqq (Qzw d n.n) true]
  (h:∀v',Aap v v' lo.toNat->S P n ops Q rest ((d,v')::L) w):S P n ops Q (⟨some d,.slice t x (some a) none none,ty,pos,af,none⟩::rest) L w:=by
 have hown:w.ownsRow 0 e 1 v m xs:=hL.at hi;obtain⟨inf,b,f,c,j⟩:=hz.e.parts;obtain⟨q,rfl⟩:=Qx4 hc.1;have hq:q<=m:=by omega
 have hqi:(q:Int)<=(m:Int):=hc.2
 have key:∃A cap,v=.slice A m cap/\m<=cap:=by
  rcases hown.2 with ⟨rfl,rfl⟩ | ⟨g,cp,cur,rfl,hbg,hg,hnc,hcm,hcs,htake⟩
  ·exact⟨none,0,Z,Qzu _⟩
  ·exact⟨_,cp,Z,hnc⟩
 obtain⟨A,cap,rfl,hmc⟩:=key;refine Ag (fun w' _ ρ hρ dst pos af g=>?_) (hn:=⟨hn.e⟩) (h _ ⟨A,m,cap,Z,hq,hmc,Z⟩);simp[execOp,hρ x _ hx,hρ a _ ha.e,Instr.sliceAt,run_underlying ht,Instr.slice,Instr.sliceBounds,Instr.sliceBound,asIntOf,sizeOf,typeInfo,b,c,hqi,hq]
theorem AjC[Dr](i:Nat){j:Int}{l:List α}(hx:ev L x=some v)[hb:Qqq (ev L b) (some (.int k j))](ht:P.underlying t=some (.slice e))[hz:Qqx P e zz 1 bt][hr:Qqq r.sz 1](hH:Le H (hp w0))(hL:Bk w0 O w)(hi:Dz O i=some (.row v e 1 l.length xs))(he:AK r (gz H w0 w O) l xs)(hc:0<=j/\j<=(l.length:Int))[hn:Qqq (Qzw d n.n) true]
  (h:∀v' xs',Bk w0 (CE O i (.row v' e 1 (l.take j.toNat).length xs')) w->Le (fz w O) (fz w (CE O i (.row v' e 1 (l.take j.toNat).length xs')))->AK r (gz H w0 w (CE O i (.row v' e 1 (l.take j.toNat).length xs'))) (l.take j.toNat) xs'->S P n ops Q rest ((d,v')::L) w):S P n ops Q (⟨some d,.slice t x none (some b) none,ty,pos,af,none⟩::rest) L w:=by
 have hown:w.ownsRow 0 e 1 v l.length xs:=hL.at hi;obtain⟨inf,m,z,o,i4⟩:=hz.e.parts;obtain⟨q,rfl⟩:=Qx4 hc.1;have hq:q<=l.length:=by omega
 rw[Qzk]at h;have hlt:(l.take q).length=q:=by rw[QzC];omega
 have hel:∀(l:List α) (xs:Qq6) (G:PH),AK r G l xs->AK r G (l.take q) (xs.take q):=by
  intro l xs G he
  have hgen:∀(q:Nat),AK r G (l.take q) (xs.take q):=by
   induction he with
   | nil=>intro q;simp;exact .nil
   | @cons y l c cs hy hl ih=>
    intro q;have a:c.length=1:=by rw[r.len hy,hr.e]
    obtain⟨u,rfl⟩:=List.length_eq_one_iff.1 a
    cases q with
    | zero=>simp;exact .nil
    | succ q=>exact .cons hy (ih q)
  exact hgen q
 have key:∃A cap,v=.slice A l.length cap/\l.length<=cap/\(∀b,(BV.row (.slice A q cap) e 1 q (xs.take q)).block=some b->(BV.row v e 1 l.length xs).block=some b)/\(BV.row (.slice A q cap) e 1 q (xs.take q)).ok w/\(A.map (·.add 0)=A):=by
  rcases hown.2 with ⟨rfl,p⟩ | ⟨g,cp,cur,rfl,hbg,hg,hnc,hcm,hcs,htake⟩
  ·have f:q=0:=by omega
   subst f;refine⟨none,0,by rw[p],by omega,fun b h=>h,⟨by simp,.inl ⟨Z,Z⟩⟩,Z⟩
  ·refine⟨_,cp,Z,hnc,fun b h=>h,⟨?_,.inr ⟨g,cp,cur,Z,hbg,hg,by omega,hcm,hcs,?_⟩⟩,Z⟩
   ·rw[QzC,hown.1];omega
   ·rw[<- htake,List.take_take,Qz9,Qz9,Nat.min_eq_left hq]
 obtain⟨A,cap,rfl,hmc,hbl,hok,hA⟩:=key;have hqc:(q:Int)<=(cap:Int):=by omega
 have hqc':q<=cap:=by omega
 have s:=hL.LY hi (Qzu _) (World.grownBy.refl _ _) hok (fun b e=>.inl (hbl b e));have h2:=Gj (r':=.row (.slice A q cap) e 1 q (xs.take q)) hL hi (World.grownBy.refl _ _) (fun b e=>.inl (hbl b e));have h':=h (.slice A q cap) (xs.take q);rw[hlt]at h';refine Ag (fun w' _ ρ hρ dst pos af g=>?_) (hn:=⟨hn.e⟩) (h' s h2 ((hel l xs _ he).mono (Ab h2)));simp[execOp,hρ x _ hx,hρ b _ hb.e,Instr.sliceAt,run_underlying ht,Instr.slice,Instr.sliceBounds,Instr.sliceBound,asIntOf,sizeOf,typeInfo,m,o,hqc,hqc',hA]
theorem Afr[Dr](i:Nat){v':Value}{q:Nat}{l:List α}{z:α}[hx:Qqq (ev L x) (some v')](hs:Aap v v' q)(ht:P.underlying t=some (.slice e))[hz:Qqx P e zz 1 bt][hr:Qqq r.sz 1][hzc:Qqq zz.cells (#[zz])][s:Qqq zz.oneCell' true](hH:Le H (hp w0))(hL:Bk w0 O w)(hi:Dz O i=some (.row v e 1 l.length xs))(he:AK r (gz H w0 w O) l xs)(hrz:∀G,r.rel G z [zz])
  (h:∀w' xs',Bk w0 (CE O i (.row v e 1 (l.take q++Qzv (l.length - q) z).length xs')) w'->Le (fz w O) (fz w' (CE O i (.row v e 1 (l.take q++Qzv (l.length - q) z).length xs')))->AK r (gz H w0 w' (CE O i (.row v e 1 (l.take q++Qzv (l.length - q) z).length xs'))) (l.take q++Qzv (l.length - q) z) xs'->S P n ops Q rest L w') :
  S P n ops Q (⟨none,.call ⟨.builtin .clear,#[x],#[t]⟩,ty,pos,af,none⟩::rest) L w:=by
 have hx:=hx.e
 have hown:w.ownsRow 0 e 1 v l.length xs:=hL.at hi;obtain⟨inf,i1,i2,i3,i4⟩:=hz.e.parts;have hxl:xs.length=l.length:=by rw[hown.1,Qz9]
 have aa:∀(G:PH) (l:List α) (xs:Qq6),AK r G l xs->∀q,AK r G (l.take q++Qzv (l.length - q) z) (xs.take q++Qzv (l.length - q) zz):=by
  intro G l xs he
  have hrep:∀k,AK r G (Qzv k z) (Qzv k zz):=by
   intro k
   induction k with
   | zero=>exact .nil
   | succ k ih=>exact .cons (hrz G) ih
  induction he with
  | nil=>intro q;simp;exact .nil
  | @cons y l c cs hy hl ih=>
   intro q;have ac:c.length=1:=by rw[r.len hy,hr.e]
   obtain⟨u,rfl⟩:=List.length_eq_one_iff.1 ac
   cases q with
   | zero=>simpa using hrep (l.length+1)
   | succ q=>
    have:=ih q;simp only[List.take_succ_cons,Qx1,Qzc,Nat.add_sub_add_right];exact .cons hy this
 have hel:∀G,AK r G l xs->AK r G (l.take q++Qzv (l.length - q) z) (xs.take q++Qzv (l.length - q) zz):=fun G he=>aa G l xs he q;have hle:(l.take q++Qzv (l.length - q) z).length=l.length:=by simp;omega
 rw[hle]at h;obtain⟨a,m,cap,hv,hq,hmc,rfl⟩:=hs
 by_cases o:l.length - q=0
 ·have hm:m=l.length:=by
   rcases hown.2 with ⟨p,h0⟩ | ⟨g,cp,cur,d,_⟩
   ·rw[p]at hv;cases hv;exact h0.symm
   ·rw[d]at hv;cases hv;rfl
  subst hm;have e0:l.take q++Qzv (l.length - q) z=l:=by rw[o,List.replicate_zero,QzZ,Qxb U]
  rw[e0]at h
  have hrun:(Builtin.clear_ #[t] ty #[.slice (if cap=q then a else a.map (·.add q)) (l.length - q) (cap - q)]).run P w=.ok (.tuple #[]) w:=by
   rw[o];generalize (if cap=q then a else a.map (·.add q))=A'
   cases A' <;> simp[Builtin.clear_,run_underlying ht]
  refine ZR (v:=.tuple #[]) (w':=w) (fun ρ hρ=>by simp[execOp,resolve,invoke,builtin,hρ x _ hx,hrun]) ?_;have t1:=hL.LY hi (Qzu _) (World.grownBy.refl _ _) (hL.at hi) (fun b e=>.inl e);have f:=Gj (r':=.row v e 1 l.length xs) hL hi (World.grownBy.refl _ _) (fun b e=>.inl e);exact h w xs t1 f (he.mono (Ab f))
 ·rcases hown.2 with ⟨p,h0⟩ | ⟨g,cp,cur,d,hbg,hg,hnc,hcm,hcs,htake⟩
  ·omega
  ·rw[d]at hv
   cases hv
   have hcur:cur.size=cap:=by rw[hcs,Qz9]
   have hqc : ¬cap=q:=by omega
   rw[if_neg hqc]at hx
   have hcell:∀j,j<l.length - q->(w.cell? ⟨g,q+j,none⟩).isSome=true:=fun j hj=>by
    have:q+j<cur.size:=by omega
    simp[World.cell?,hg,this]
   have hfr:∀j,j<l.length - q->w.frozen? ⟨g,q+j,none⟩=false:=fun j hj=>by simp[World.frozen?,hg]
   have hzero:∀w,(zeroValue e).run P w=.ok zz w:=fun w=>by simp[zeroValue,typeInfo,i1,i2]
   have hst:=run_storeCells_at P g q e (Qzv (l.length - q) zz) 0 cur w hg (by simp;omega) (by intro u hu;rw[List.eq_of_mem_replicate hu];exact s.e);simp only[Qxf,List.length_replicate]at hst;obtain⟨C,hC⟩:∃C,C=(cur.toList.take q++Qzv (l.length - q) zz++cur.toList.drop (q+(l.length - q))).toArray:=⟨_,Z⟩;rw[<- hC]at hst
   have hrun:(Builtin.clear_ #[t] ty #[.slice (some ⟨g,q,none⟩) (l.length - q) (cap - q)]).run P w=.ok (.tuple #[]) (w.setRow g C):=by
    have h2:=Lib.run_clear_slice (P:=P) w t e ty zz ht hzero hzc.e s.e g q (l.length - q) (cap - q) U hcell hfr;have h3:=run_storeCells_cells (P:=P) g q (Qzv (l.length - q) zz) 0 w (by simpa using hcell) (by simpa using hfr) (by intro u hu;rw[List.eq_of_mem_replicate hu];exact s.e);simp only[Qxf]at h3;rw[hst]at h3;rw[h2]
    injection h3 with _ h4
    rw[h4]
   have hgr:=NR w g C;have hh:=LZ w g cur C e hg
   have hok:BV.ok (w.setRow g C) (.row v e 1 l.length (xs.take q++Qzv (l.length - q) zz)):=by
    subst d;refine⟨by simp;omega,.inr ⟨g,cap,C,Z,hbg,hh,hnc,hcm,by rw[hC];simp;omega,?_⟩⟩;rw[hC,List.toList_toArray,<- htake,Qz9,List.take_take,Nat.min_eq_left hq,List.take_append];have ae:(cur.toList.take q++Qzv (l.length - q) zz).length=l.length:=by simp;omega
    rw[Qxb U,ae,Nat.sub_self,List.take_zero,QzZ]
   have hgr':w.grownBy (w.setRow g C) (BV.row v e 1 l.length xs).block:=by subst d;exact hgr
   have hdr:w.drawn<=(w.setRow g C).drawn:=Qzu _;have t1:=hL.LY hi hdr hgr' hok (fun b e=>.inl e);have f:=Gj (r':=.row v e 1 l.length (xs.take q++Qzv (l.length - q) zz)) hL hi hgr' (fun b e=>.inl e);have hx':ev L x=some (.slice (some ⟨g,q,none⟩) (l.length - q) (cap - q)):=by rw[hx];simp[Addr.add];exact fun e=>e.symm
   refine ZR (v:=.tuple #[]) (w':=w.setRow g C) (fun ρ hρ=>by simp[execOp,resolve,invoke,builtin,hρ x _ hx',hrun])<|h _ _ t1 f ((hel _ he).mono (Ab f))
end
instance Al7:Dr:=⟨false⟩
theorem Ext.off{w w':World}(h:Below w.heap.size w w'):Ext w w':=⟨h,fun o=>absurd o Qqc⟩
end Go.E
end
noncomputable section
namespace Go.L
def AdK{κ β:Type}[DecidableEq κ](k:κ):List (κ×β)->Bool
 | []=>false
 | (a,_)::l=>if k=a then true else AdK k l
end Go.L
namespace Go.E
open Go Go.RowKit
section
variable [Dr] {P:Program}{κ β:Type} [DecidableEq κ] {kt t et:TypeId}{enc:κ->Value}{k:κ}{ev':β->Value}{l:List (κ×β)}
omit [Dr] in
theorem Afs:∀{l:List (κ×β)},(mI k (l.map Qzz)).isSome=Go.L.AdK k l
 | []=>rfl
 | (a,y)::l=>by
  simp only[QzA,mI,Go.L.AdK]
  by_cases e:k=a
  ·simp[e]
  ·simp only[if_neg e,Option.isSome_map];exact Afs
omit [Dr] in
theorem Aaq{w:World}{b n:Nat}{dv:β}(hk:MB P kt enc)(ht:P.underlying t=some (.map kt et))(hz:Mz P et (ev' dv))(hb:w.heap[b]? = some (.map (mE enc 0 (l.map Qzz) (l.map fun x=>ev' x.2)).toArray n)):
  (Instr.lookup t (.map (some b)) (enc k) true).run P w=.ok (.tuple #[ev' (Go.L.BF dv k l),.bool (Go.L.AdK k l)]) w:=by
 have hg:(getObj b).run P w=.ok (.map (mE enc 0 (l.map Qzz) (l.map fun x=>ev' x.2)).toArray n) w:=by simp[getObj,Sem.run,hb]
 simp only[Instr.lookup,Sem.run_bind,run_underlying ht,Result.andThen,hg,hk.check];simp only[Sem.run_pure];rw[T5 hk Qqd];rw[<- Afc (ev':=ev'),<- Afs];unfold ZN
 cases mI k (l.map Qzz)with
 | some m=>simp
 | none=>simp[hz w]
def T9(enc:κ->Value)(ev':β->Value)(H:PH)(v:Value)(l:List (κ×β)):Prop:=
 ∃b,v=.map (some b)/\H b=some (.map (mE enc 0 (l.map Qzz) (l.map fun x=>ev' x.2)).toArray l.length)
omit [Dr] [DecidableEq κ] in
theorem T9.mono{H H':PH}{v:Value}(h:T9 enc ev' H v l)(hs:Le H H'):T9 enc ev' H' v l:=by
 obtain⟨b,a,h2⟩:=h;exact⟨b,a,hs _ _ h2⟩
omit [DecidableEq κ] in
theorem Aft{w a:World}{H:PH}{O:List BV}(ib:Nat){b:Nat}(hL:Bk a O w)(hib:Dz O ib=some (QE enc b l (l.map fun x=>ev' x.2))):
  Bk a (Pw O ib) w/\Le (fz w O) (fz w (Pw O ib))/\T9 enc ev' (gz H a w (Pw O ib)) (.map (some b)) l:=by
 have hb:=hL.at hib;refine⟨hL.Bl hib,AB (w:=w) hib,b,Z,?_⟩;have hge:=hL.own _ ((Es hib).mem_iff.2 (.head _)) b Z;have c:fz w (Pw O ib) b=w.heap[b]?:=Tb hib Z hL.dis;refine T0 b _ ?_;unfold nf;rw[if_pos hge,c];exact hb
theorem Afu{w:World}{L:Env}{ty:TypeId}{x y:Operand}{H:PH}{v:Value}(dv:β)[hx:Qqq (ev L x) (some v)][hy:Qqq (ev L y) (some (enc k))][ht:Qqq (P.underlying t) (some (.map kt et))](hk:MB P kt enc)(hz:Mz P et (ev' dv))(hm:T9 enc ev' H v l)(hs:Le H (hp w)):
  B5 P L w (.lookup t x y true) ty (.tuple #[ev' (Go.L.BF dv k l),.bool (Go.L.AdK k l)]):=fun w' hx' ρ hρ dst pos af g=>by
 obtain⟨b,rfl,h2⟩:=hm;have:=Aaq (k:=k) (dv:=dv) hk ht.e hz (hx'.le _ _ (hs _ _ h2));simp[execOp,hρ x _ hx.e,hρ y _ hy.e,this]
end
def P2(h:Qq4×Int):Value:=.agg #[.string ⟨h.1.toArray⟩,.int .i64 h.2]
theorem Afv{P:Program}{kt:TypeId}{fs:Array Field}(hd:P.underlying kt=some (.struct fs))(hc:∀(b:Bool) (s:Qq4) (y:Int) w,(Instr.checkKey b 10000 kt (.agg #[.string ⟨s.toArray⟩,.int .i64 y])).run P w=.ok () w)
  (he:∀(a:Qq4) (b:Int) (c:Qq4) (e:Int) w,(Op.equalIn 10000 kt (.agg #[.string ⟨a.toArray⟩,.int .i64 b]) (.agg #[.string ⟨c.toArray⟩,.int .i64 e])).run P w=.ok (decide (a=c/\b=e)) w):MB P kt P2:=
 ⟨fun b k w=>hc b k.1 k.2 w,
  fun k=>by
   obtain⟨d,he⟩:∃d,10000=d+1:=⟨9999,Z⟩;rw[he]
   cases d <;> simp[Instr.sameBits,P2,W3],
  ⟨_,hd,.inr ⟨fun a b=>Z,fun a b w=>by
   have:=he a.1 a.2 b.1 b.2 w;unfold Op.equal;rw[show Op.maxDepth=10000 from Z];obtain⟨a1,a2⟩:=a;obtain⟨f,g⟩:=b;simp only[P2];rw[this]
   congr 1
   rw[Qz7];simp⟩⟩⟩
theorem Ak8 {P : Program}{t : TypeId}{f0 f1 : Field}{b : IntKind} (ht : P.underlying t = some (.struct (P.fieldsOf t))) (hp : P.stoodInHeld t = false) (hf : (P.fieldsOf t).toList = [f0, f1]) (d : f0.name ≠ "_" /\ f0.offset = 0) (e : f1.name ≠ "_" /\ f1.offset = 1)
  (f:P.underlying f0.type=some .string) (g:P.underlying f1.type=some (.int b)) (s m:Qq4) (a c:Int) (w:World) :
  (Op.equalIn 10000 t (.agg #[.string ⟨s.toArray⟩,.int b a]) (.agg #[.string ⟨m.toArray⟩,.int b c])).run P w=.ok (decide (s=m/\a=c)) w:=by
 rw[run_equalIn_struct w 9999 t _ _ ht hp,hf]
 have hs:∀(dd:Nat) (s m:Qq4),(Op.equalIn (dd+1) f0.type (.string ⟨s.toArray⟩) (.string ⟨m.toArray⟩)).run P w=.ok (decide (s=m)) w:=fun dd s m=>by
  simp[Op.equalIn,run_underlying f,W3]
 have key:∀dd:Nat,(Op.eqFields (dd+1) #[.string ⟨s.toArray⟩,.int b a] #[.string ⟨m.toArray⟩,.int b c] [f0,f1]).run P w=.ok (decide (s=m/\a=c)) w:=by
  intro dd
  by_cases h:s=m <;> by_cases i:a=c <;>
   simp[Op.eqFields,d.1,e.1,d.2,e.2,part,isAgg,run_underlying f,run_underlying g,hs,run_equalIn_int w dd _ _ _ _ _ g,h,i]
 exact key 9998
def FU(n:Nat)(x:Nat->UInt8):Qq6:=(Qzb n).map fun i=>Value.int .u8 ((x i).toNat:Int)
def Rp.bs(n:Nat):Rp (Nat->UInt8):=⟨n,fun _ x c=>c=FU n x,fun h=>by simp[h,FU],fun _ h=>h,fun h u hu=>by subst h;obtain⟨i,_,rfl⟩:=List.mem_map.1 hu;rfl⟩
theorem onp(n:Nat){l:Qq6}(h:(l.take n).map Value.oneCell'=(l.take n).map fun _=>true)(k:∀u∈l.drop n,u.oneCell'=true):∀u∈l,u.oneCell'=true:=fun u hu=>by
 rw[<- List.take_append_drop n l]at hu
 rcases List.mem_append.1 hu with hu | hu
 ·exact AX h u hu
 ·exact k u hu
end Go.E
end
noncomputable section
namespace Go.Proofs.YtopocbcekabkoaaGreatDoor
open Go Go.E Go.RowKit
theorem mixed:Tryz.prog.follows .mixedOrders=true:=by kernel_rfl
theorem Qqqm{α:Sort _}{a b:α}(h:a=b):Qqq a b:=⟨h⟩
abbrev uQ3:=Qqqm Tryz.underlying3
abbrev uQ4:=Qqqm Tryz.underlying4
abbrev uQ5:=Qqqm Tryz.underlying5
abbrev uQ9:=Qqqm Tryz.underlying9
abbrev uQ21:=Qqqm Tryz.underlying21
abbrev uQ22:=Qqqm Tryz.underlying22
abbrev uQ24:=Qqqm Tryz.underlying24
abbrev uQ25:=Qqqm Tryz.underlying25
abbrev uQ26:=Qqqm Tryz.underlying26
abbrev uQ27:=Qqqm Tryz.underlying27
abbrev uQ28:=Qqqm Tryz.underlying28
abbrev uQ30:=Qqqm Tryz.underlying30
abbrev uQ32:=Qqqm Tryz.underlying32
abbrev uQ33:=Qqqm Tryz.underlying33
abbrev uQ35:=Qqqm Tryz.underlying35
abbrev uQ38:=Qqqm Tryz.underlying38
abbrev uQ40:=Qqqm Tryz.underlying40
abbrev uQ41:=Qqqm Tryz.underlying41
abbrev uQ43:=Qqqm Tryz.underlying43
abbrev uQ44:=Qqqm Tryz.underlying44
abbrev uQ46:=Qqqm Tryz.underlying46
abbrev uQ49:=Qqqm Tryz.underlying49
abbrev uQ51:=Qqqm Tryz.underlying51
abbrev uQ53:=Qqqm Tryz.underlying53
abbrev uQ55:=Qqqm Tryz.underlying55
abbrev uQ65:=Qqqm Tryz.underlying65
abbrev uQ66:=Qqqm Tryz.underlying66
abbrev uQ67:=Qqqm Tryz.underlying67
abbrev uQ69:=Qqqm Tryz.underlying69
abbrev uQ71:=Qqqm Tryz.underlying71
abbrev uQ74:=Qqqm Tryz.underlying74
abbrev uQ76:=Qqqm Tryz.underlying76
abbrev uQ78:=Qqqm Tryz.underlying78
abbrev uQ90:=Qqqm Tryz.underlying90
abbrev uQ98:=Qqqm Tryz.underlying98
abbrev uQ101:=Qqqm Tryz.underlying101
abbrev uQ113:=Qqqm Tryz.underlying113
abbrev uQ114:=Qqqm Tryz.underlying114
abbrev uQ118:=Qqqm Tryz.underlying118
abbrev uQ120:=Qqqm Tryz.underlying120
abbrev uQ122:=Qqqm Tryz.underlying122
abbrev uQ125:=Qqqm Tryz.underlying125
abbrev uQ139:=Qqqm Tryz.underlying139
abbrev uQ143:=Qqqm Tryz.underlying143
abbrev uQ152:=Qqqm Tryz.underlying152
abbrev uQ164:=Qqqm Tryz.underlying164
abbrev uQ170:=Qqqm Tryz.underlying170
abbrev uQ177:=Qqqm Tryz.underlying177
abbrev uQ188:=Qqqm Tryz.underlying188
abbrev uQ213:=Qqqm Tryz.underlying213
abbrev uQ245:=Qqqm Tryz.underlying245
abbrev uQ305:=Qqqm Tryz.underlying305
abbrev uQ307:=Qqqm Tryz.underlying307
abbrev uQ308:=Qqqm Tryz.underlying308
abbrev uQ325:=Qqqm Tryz.underlying325
attribute [instance] uQ3 uQ4 uQ5 uQ9 uQ21 uQ22 uQ24 uQ25 uQ26 uQ27 uQ28 uQ30 uQ32 uQ33 uQ35 uQ38 uQ40 uQ41 uQ43 uQ44 uQ46 uQ49 uQ51 uQ53 uQ55 uQ65 uQ66 uQ67 uQ69 uQ71 uQ74 uQ76 uQ78 uQ90 uQ98 uQ101 uQ113 uQ114 uQ118 uQ120 uQ122 uQ125 uQ139 uQ143 uQ152 uQ164 uQ170 uQ177 uQ188 uQ213 uQ245 uQ305 uQ307 uQ308 uQ325
instance BB:Qqx Tryz.prog 3 (.int .i64 0) 1 8:=⟨by unfold Zr;kernel_rfl⟩
instance ZO:Qqx Tryz.prog 4 (.bool false) 1 1:=⟨by unfold Zr;kernel_rfl⟩
instance O3:Qqx Tryz.prog 5 (.int .u8 0) 1 1:=⟨by unfold Zr;kernel_rfl⟩
instance Dl:Qqx Tryz.prog 9 (.string .empty) 1 16:=⟨by unfold Zr;kernel_rfl⟩
instance AbE:Qqx Tryz.prog 22 (.slice none 0 0) 1 24:=⟨by unfold Zr;kernel_rfl⟩
instance AjD:Qqx Tryz.prog 24 (.agg #[.slice none 0 0]) 1 24:=⟨by unfold Zr;kernel_rfl⟩
instance H3:Qqx Tryz.prog 26 (.slice none 0 0) 1 24:=⟨by unfold Zr;kernel_rfl⟩
instance Fy:Qqx Tryz.prog 27 (.slice none 0 0) 1 24:=⟨by unfold Zr;kernel_rfl⟩
instance Lj:Qqx Tryz.prog 28 (.slice none 0 0) 1 24:=⟨by unfold Zr;kernel_rfl⟩
instance Fj:Qqx Tryz.prog 30 (.agg #[.int .i64 0,.slice none 0 0,.string .empty,.slice none 0 0,.int .i64 0,.int .i64 0,.slice none 0 0]) 7 112:=⟨by unfold Zr;kernel_rfl⟩
instance AjE:Qqx Tryz.prog 32 (.agg #[.slice none 0 0,.int .i64 0]) 2 32:=⟨by unfold Zr;kernel_rfl⟩
instance V2:Qqx Tryz.prog 33 (.slice none 0 0) 1 24:=⟨by unfold Zr;kernel_rfl⟩
instance AI:Qqx Tryz.prog 35 (.agg #[.int .i64 0,.int .i64 0]) 2 16:=⟨by unfold Zr;kernel_rfl⟩
instance AbF:Qqx Tryz.prog 38 (.slice none 0 0) 1 24:=⟨by unfold Zr;kernel_rfl⟩
instance Lk:Qqx Tryz.prog 40 (.agg #[.int .i64 0,.slice none 0 0]) 2 32:=⟨by unfold Zr;kernel_rfl⟩
instance AbG:Qqx Tryz.prog 41 (.slice none 0 0) 1 24:=⟨by unfold Zr;kernel_rfl⟩
instance Md:Qqx Tryz.prog 43 (.agg #[.int .i64 0,.slice none 0 0]) 2 32:=⟨by unfold Zr;kernel_rfl⟩
instance Ll:Qqx Tryz.prog 44 (.slice none 0 0) 1 24:=⟨by unfold Zr;kernel_rfl⟩
instance Me:Qqx Tryz.prog 46 (.agg #[.int .i64 0,.slice none 0 0,.int .i64 0,.slice none 0 0,.slice none 0 0]) 5 88:=⟨by unfold Zr;kernel_rfl⟩
instance XJ:Qqx Tryz.prog 49 (.slice none 0 0) 1 24:=⟨by unfold Zr;kernel_rfl⟩
instance EK:Qqx Tryz.prog 51 (.agg #[.int .i64 0,.int .i64 0,.slice none 0 0,.slice none 0 0,.slice none 0 0]) 5 88:=⟨by unfold Zr;kernel_rfl⟩
instance Aar:Qqx Tryz.prog 53 (.agg #[.slice none 0 0,.int .i64 0,.int .i64 0,.slice none 0 0,.slice none 0 0,.slice none 0 0]) 6 112:=⟨by unfold Zr;kernel_rfl⟩
instance AjF:Qqx Tryz.prog 66 (.slice none 0 0) 1 24:=⟨by unfold Zr;kernel_rfl⟩
instance Als:Qqx Tryz.prog 67 (.slice none 0 0) 1 24:=⟨by unfold Zr;kernel_rfl⟩
instance Ah9:Qqx Tryz.prog 69 (.agg #[.int .i64 0,.int .u8 0,.int .u8 0,.int .u8 0,.int .u8 0,.int .u8 0,.int .u8 0,.int .u8 0,.int .u8 0,.int .u8 0,.int .u8 0,.int .u8 0,.int .u8 0,.int .u8 0,.int .u8 0,.int .u8 0,.int .u8 0,.int .u8 0,.int .u8 0,.int .u8 0,.int .u8 0,.int .u8 0,.int .u8 0,.int .u8 0,.int .u8 0,.int .u8 0,.int .u8 0,.int .u8 0,.int .u8 0,.int .u8 0,.int .u8 0,.int .u8 0,.int .u8 0,.slice none 0 0]) 34 64:=⟨by unfold Zr;kernel_rfl⟩
instance O4:Qqx Tryz.prog 71 (.agg #[.string .empty,.int .i64 0,.int .i64 0,.int .i64 0,.int .i64 0,.int .u8 0,.int .u8 0,.int .u8 0,.int .u8 0,.int .u8 0,.int .u8 0,.int .u8 0,.int .u8 0,.int .u8 0,.int .u8 0,.int .u8 0,.int .u8 0,.int .u8 0,.int .u8 0,.int .u8 0,.int .u8 0,.int .u8 0,.int .u8 0,.int .u8 0,.int .u8 0,.int .u8 0,.int .u8 0,.int .u8 0,.int .u8 0,.int .u8 0,.int .u8 0,.int .u8 0,.int .u8 0,.int .u8 0,.int .u8 0,.int .u8 0,.int .u8 0,.slice none 0 0,.slice none 0 0,.int .i64 0,.int .i64 0,.int .i64 0,.int .i64 0,.int .u8 0,.int .u8 0,.int .u8 0,.int .u8 0,.int .u8 0,.int .u8 0,.int .u8 0,.int .u8 0,.int .u8 0,.int .u8 0,.int .u8 0,.int .u8 0,.int .u8 0,.int .u8 0,.int .u8 0,.int .u8 0,.int .u8 0,.int .u8 0,.int .u8 0,.int .u8 0,.int .u8 0,.int .u8 0,.int .u8 0,.int .u8 0,.int .u8 0,.int .u8 0,.int .u8 0,.int .u8 0,.int .u8 0,.int .u8 0,.int .u8 0,.int .u8 0,.slice none 0 0]) 76 216:=⟨by unfold Zr;kernel_rfl⟩
instance AhA:Qqx Tryz.prog 76 (.agg #[.slice none 0 0]) 1 24:=⟨by unfold Zr;kernel_rfl⟩
instance GK:Qqx Tryz.prog 78 (.agg #[.slice none 0 0,.slice none 0 0,.slice none 0 0]) 3 72:=⟨by unfold Zr;kernel_rfl⟩
instance AjG:Qqx Tryz.prog 90 (.slice none 0 0) 1 24:=⟨by unfold Zr;kernel_rfl⟩
instance LL:Qqx Tryz.prog 101 (.agg #[.string .empty,.int .i64 0]) 2 24:=⟨by unfold Zr;kernel_rfl⟩
instance Ak9:Qqx Tryz.prog 114 (.slice none 0 0) 1 24:=⟨by unfold Zr;kernel_rfl⟩
instance Nu:Qqx Tryz.prog 118 (.agg #[.string .empty,.int .i64 0,.int .i64 0]) 3 32:=⟨by unfold Zr;kernel_rfl⟩
instance Fk:Qqx Tryz.prog 120 (.agg #[.int .i64 0,.int .i64 0]) 2 16:=⟨by unfold Zr;kernel_rfl⟩
instance Aja:Qqx Tryz.prog 122 (.map none) 1 8:=⟨by unfold Zr;kernel_rfl⟩
instance Jl:Qqx Tryz.prog 125 (.agg #[.string .empty,.int .i64 0,.int .i64 0,.string .empty]) 4 48:=⟨by unfold Zr;kernel_rfl⟩
instance Vi:Qqx Tryz.prog 143 (.agg #[.string .empty,.int .i64 0,.int .i64 0,.string .empty]) 4 48:=⟨by unfold Zr;kernel_rfl⟩
instance SD:Qqx Tryz.prog 164 (.agg #[.string .empty,.slice none 0 0]) 2 40:=⟨by unfold Zr;kernel_rfl⟩
instance Kn:Qqx Tryz.prog 177 (.agg #[.string .empty,.int .i64 0,.int .i64 0,.string .empty,.slice none 0 0]) 5 72:=⟨by unfold Zr;kernel_rfl⟩
instance AcV:Qqx Tryz.prog 188 (.agg #[.int .i64 0,.int .i64 0,.int .i64 0,.int .i64 0,.int .i64 0,.int .i64 0,.int .i64 0,.int .i64 0,.int .i64 0,.int .i64 0,.int .i64 0]) 11 88:=⟨by unfold Zr;kernel_rfl⟩
theorem Aas(c:Int)(a:Value)(d:a.oneCell'=true)(b:Value)(e:b.oneCell'=true)(w:World):(Instr.build 30 #[(0,.int .i64 c),(1,a),(6,b)]).run Tryz.prog w=.ok (.agg #[.int .i64 c,a,.string .empty,.slice none 0 0,.int .i64 0,.int .i64 0,b]) w:=by cases a <;> first | (simp[Value.oneCell']at d;done) | cases b <;> first | (simp[Value.oneCell']at e;done) | kernel_rfl
theorem AdL(b:Int)(a:Value)(h2:a.oneCell'=true)(w:World):(Instr.build 30 #[(0,.int .i64 b),(2,a)]).run Tryz.prog w=.ok (.agg #[.int .i64 b,.slice none 0 0,a,.slice none 0 0,.int .i64 0,.int .i64 0,.slice none 0 0]) w:=by cases a <;> first | (simp[Value.oneCell']at h2;done) | kernel_rfl
theorem AdM(a:Value)(c:a.oneCell'=true)(b:Int)(w:World):(Instr.build 32 #[(0,a),(1,.int .i64 b)]).run Tryz.prog w=.ok (.agg #[a,.int .i64 b]) w:=by cases a <;> first | (simp[Value.oneCell']at c;done) | kernel_rfl
theorem B8(w:World):(Instr.build 35 #[]).run Tryz.prog w=.ok (.agg #[.int .i64 0,.int .i64 0]) w:=by kernel_rfl
theorem JI(a:Int)(b:Int)(w:World):(Instr.build 35 #[(0,.int .i64 a),(1,.int .i64 b)]).run Tryz.prog w=.ok (.agg #[.int .i64 a,.int .i64 b]) w:=by kernel_rfl
theorem YZ(w:World):(Instr.build 40 #[]).run Tryz.prog w=.ok (.agg #[.int .i64 0,.slice none 0 0]) w:=by kernel_rfl
theorem AhB(a:Int)(w:World):(Instr.build 40 #[(0,.int .i64 a)]).run Tryz.prog w=.ok (.agg #[.int .i64 a,.slice none 0 0]) w:=by kernel_rfl
theorem Za(w:World):(Instr.build 43 #[]).run Tryz.prog w=.ok (.agg #[.int .i64 0,.slice none 0 0]) w:=by kernel_rfl
theorem AhC(a:Int)(w:World):(Instr.build 43 #[(0,.int .i64 a)]).run Tryz.prog w=.ok (.agg #[.int .i64 a,.slice none 0 0]) w:=by kernel_rfl
theorem VS(w:World):(Instr.build 46 #[]).run Tryz.prog w=.ok (.agg #[.int .i64 0,.slice none 0 0,.int .i64 0,.slice none 0 0,.slice none 0 0]) w:=by kernel_rfl
theorem AhD(a:Int)(w:World):(Instr.build 51 #[(0,.int .i64 a)]).run Tryz.prog w=.ok (.agg #[.int .i64 a,.int .i64 0,.slice none 0 0,.slice none 0 0,.slice none 0 0]) w:=by kernel_rfl
theorem AhE(a b c d e:Value)(w:World):(Instr.build 53 #[(1,.agg #[a,b,c,d,e])]).run Tryz.prog w=.ok (.agg #[.slice none 0 0,a,b,c,d,e]) w:=by kernel_rfl
theorem AhF(a:Value)(b:a.oneCell'=true)(w:World):(Instr.build 76 #[(0,a)]).run Tryz.prog w=.ok (.agg #[a]) w:=by cases a <;> first | (simp[Value.oneCell']at b;done) | kernel_rfl
theorem AcW(w:World):(Instr.build 78 #[]).run Tryz.prog w=.ok (.agg #[.slice none 0 0,.slice none 0 0,.slice none 0 0]) w:=by kernel_rfl
theorem KW(a:Value)(b:Value)(d:b.oneCell'=true)(c:Value)(h2:c.oneCell'=true)(w:World):(Instr.build 78 #[(0,.agg #[a]),(1,b),(2,c)]).run Tryz.prog w=.ok (.agg #[a,b,c]) w:=by cases b <;> first | (simp[Value.oneCell']at d;done) | cases c <;> first | (simp[Value.oneCell']at h2;done) | kernel_rfl
theorem AbH(a:Value)(c:a.oneCell'=true)(b:Int)(w:World):(Instr.build 101 #[(0,a),(1,.int .i64 b)]).run Tryz.prog w=.ok (.agg #[a,.int .i64 b]) w:=by cases a <;> first | (simp[Value.oneCell']at c;done) | kernel_rfl
theorem Zb(a:Value)(d:a.oneCell'=true)(b:Int)(c:Int)(w:World):(Instr.build 118 #[(0,a),(1,.int .i64 b),(2,.int .i64 c)]).run Tryz.prog w=.ok (.agg #[a,.int .i64 b,.int .i64 c]) w:=by cases a <;> first | (simp[Value.oneCell']at d;done) | kernel_rfl
theorem Afw(a:Int)(w:World):(Instr.build 118 #[(1,.int .i64 a)]).run Tryz.prog w=.ok (.agg #[.string .empty,.int .i64 a,.int .i64 0]) w:=by kernel_rfl
theorem Tf(a:Int)(b:Int)(w:World):(Instr.build 120 #[(0,.int .i64 a),(1,.int .i64 b)]).run Tryz.prog w=.ok (.agg #[.int .i64 a,.int .i64 b]) w:=by kernel_rfl
theorem Afx(a:Int)(w:World):(Instr.build 120 #[(1,.int .i64 a)]).run Tryz.prog w=.ok (.agg #[.int .i64 0,.int .i64 a]) w:=by kernel_rfl
theorem WC(a:Value)(e:a.oneCell'=true)(c:Int)(d:Int)(b:Value)(h3:b.oneCell'=true)(w:World):(Instr.build 125 #[(0,a),(1,.int .i64 c),(2,.int .i64 d),(3,b)]).run Tryz.prog w=.ok (.agg #[a,.int .i64 c,.int .i64 d,b]) w:=by cases a <;> first | (simp[Value.oneCell']at e;done) | cases b <;> first | (simp[Value.oneCell']at h3;done) | kernel_rfl
theorem WD(a:Value)(e:a.oneCell'=true)(c:Int)(d:Int)(b:Value)(h3:b.oneCell'=true)(w:World):(Instr.build 143 #[(0,a),(1,.int .i64 c),(2,.int .i64 d),(3,b)]).run Tryz.prog w=.ok (.agg #[a,.int .i64 c,.int .i64 d,b]) w:=by cases a <;> first | (simp[Value.oneCell']at e;done) | cases b <;> first | (simp[Value.oneCell']at h3;done) | kernel_rfl
theorem AbI(a:Value)(c:a.oneCell'=true)(b:Value)(d:b.oneCell'=true)(w:World):(Instr.build 164 #[(0,a),(1,b)]).run Tryz.prog w=.ok (.agg #[a,b]) w:=by cases a <;> first | (simp[Value.oneCell']at c;done) | cases b <;> first | (simp[Value.oneCell']at d;done) | kernel_rfl
theorem AbJ(a b c d:Value)(e:Value)(f:e.oneCell'=true)(w:World):(Instr.build 177 #[(0,.agg #[a,b,c,d]),(1,e)]).run Tryz.prog w=.ok (.agg #[a,b,c,d,e]) w:=by cases e <;> first | (simp[Value.oneCell']at f;done) | kernel_rfl
theorem HH(b c d e f g h i j k a:Int)(w:World):(Instr.build 188 #[(0,.int .i64 b),(1,.int .i64 c),(2,.int .i64 d),(3,.int .i64 e),(4,.int .i64 f),(5,.int .i64 g),(6,.int .i64 h),(7,.int .i64 i),(8,.int .i64 j),(9,.int .i64 k),(10,.int .i64 a)]).run Tryz.prog w=.ok (.agg #[.int .i64 b,.int .i64 c,.int .i64 d,.int .i64 e,.int .i64 f,.int .i64 g,.int .i64 h,.int .i64 i,.int .i64 j,.int .i64 k,.int .i64 a]) w:=by kernel_rfl
theorem AhG(a b c d e f:Value)(w:World):(Instr.buildSlice 25 1 #[(0,.agg #[a,b,c,d,e,f])]).run Tryz.prog w=.ok (.slice (some ⟨w.heap.size,0,none⟩) 1 1) (w.alloc (.cells #[a,b,c,d,e,f] 53)):=by kernel_rfl
theorem AhH(w:World):(Instr.buildSlice 26 0 #[]).run Tryz.prog w=.ok (.slice (some ⟨w.heap.size,0,none⟩) 0 0) (w.alloc (.cells #[] 9)):=by kernel_rfl
theorem Mw(a:Value)(b:a.oneCell'=true)(w:World):(Instr.buildSlice 26 1 #[(0,a)]).run Tryz.prog w=.ok (.slice (some ⟨w.heap.size,0,none⟩) 1 1) (w.alloc (.cells #[a] 9)):=by cases a <;> first | (simp[Value.oneCell']at b;done) | kernel_rfl
theorem JJ(a:Int)(w:World):(Instr.buildSlice 27 1 #[(0,.int .u8 a)]).run Tryz.prog w=.ok (.slice (some ⟨w.heap.size,0,none⟩) 1 1) (w.alloc (.cells #[.int .u8 a] 5)):=by kernel_rfl
theorem AcX(a:Int)(b:Int)(c:Int)(w:World):(Instr.buildSlice 27 3 #[(0,.int .u8 a),(1,.int .u8 b),(2,.int .u8 c)]).run Tryz.prog w=.ok (.slice (some ⟨w.heap.size,0,none⟩) 3 3) (w.alloc (.cells #[.int .u8 a,.int .u8 b,.int .u8 c] 5)):=by kernel_rfl
theorem AhI(w:World):(Instr.buildSlice 33 0 #[]).run Tryz.prog w=.ok (.slice (some ⟨w.heap.size,0,none⟩) 0 0) (w.alloc (.cells #[] 3)):=by kernel_rfl
theorem FX(a:Int)(w:World):(Instr.buildSlice 33 1 #[(0,.int .i64 a)]).run Tryz.prog w=.ok (.slice (some ⟨w.heap.size,0,none⟩) 1 1) (w.alloc (.cells #[.int .i64 a] 3)):=by kernel_rfl
theorem AcY(a:Int)(b:Int)(w:World):(Instr.buildSlice 33 2 #[(0,.int .i64 a),(1,.int .i64 b)]).run Tryz.prog w=.ok (.slice (some ⟨w.heap.size,0,none⟩) 2 2) (w.alloc (.cells #[.int .i64 a,.int .i64 b] 3)):=by kernel_rfl
theorem AcZ(a:Int)(b:Int)(c:Int)(d:Int)(w:World):(Instr.buildSlice 33 4 #[(0,.int .i64 a),(1,.int .i64 b),(2,.int .i64 c),(3,.int .i64 d)]).run Tryz.prog w=.ok (.slice (some ⟨w.heap.size,0,none⟩) 4 4) (w.alloc (.cells #[.int .i64 a,.int .i64 b,.int .i64 c,.int .i64 d] 3)):=by kernel_rfl
theorem AhJ(a b:Value)(w:World):(Instr.buildSlice 38 1 #[(0,.agg #[a,b])]).run Tryz.prog w=.ok (.slice (some ⟨w.heap.size,0,none⟩) 1 1) (w.alloc (.cells #[a,b] 164)):=by kernel_rfl
theorem AhK(a b c d e:Value)(w:World):(Instr.buildSlice 41 1 #[(0,.agg #[a,b,c,d,e])]).run Tryz.prog w=.ok (.slice (some ⟨w.heap.size,0,none⟩) 1 1) (w.alloc (.cells #[a,b,c,d,e] 177)):=by kernel_rfl
theorem TA(a b c:Value)(w:World):(Instr.buildSlice 44 1 #[(0,.agg #[a,b,c])]).run Tryz.prog w=.ok (.slice (some ⟨w.heap.size,0,none⟩) 1 1) (w.alloc (.cells #[a,b,c] 78)):=by kernel_rfl
theorem K9(a b c d e:Value)(w:World):(Instr.buildSlice 49 1 #[(0,.agg #[a,b,c,d,e])]).run Tryz.prog w=.ok (.slice (some ⟨w.heap.size,0,none⟩) 1 1) (w.alloc (.cells #[a,b,c,d,e] 51)):=by kernel_rfl
theorem AhL(a:Bool)(w:World):(Instr.buildSlice 55 1 #[(0,.bool a)]).run Tryz.prog w=.ok (.slice (some ⟨w.heap.size,0,none⟩) 1 1) (w.alloc (.cells #[.bool a] 4)):=by kernel_rfl
theorem Mx(a:Value)(b:a.oneCell'=true)(w:World):(Instr.buildSlice 74 1 #[(0,a)]).run Tryz.prog w=.ok (.slice (some ⟨w.heap.size,0,none⟩) 1 1) (w.alloc (.cells #[a] 27)):=by cases a <;> first | (simp[Value.oneCell']at b;done) | kernel_rfl
theorem TB(a:Value)(f:a.oneCell'=true)(b:Value)(g:b.oneCell'=true)(c:Value)(h2:c.oneCell'=true)(d:Value)(h3:d.oneCell'=true)(e:Value)(h:e.oneCell'=true)(w:World):(Instr.buildSlice 74 5 #[(0,a),(1,b),(2,c),(3,d),(4,e)]).run Tryz.prog w=.ok (.slice (some ⟨w.heap.size,0,none⟩) 5 5) (w.alloc (.cells #[a,b,c,d,e] 27)):=
 (Aan (qs:=#[(0,.agg #[a]),(1,.agg #[b]),(2,.agg #[c]),(3,.agg #[d]),(4,.agg #[e])]) (by show([(0,a.cells),(1,b.cells),(2,c.cells),(3,d.cells),(4,e.cells)]:List (Nat×Array Value))=[(0,(Value.agg #[a]).cells),(1,(Value.agg #[b]).cells),(2,(Value.agg #[c]).cells),(3,(Value.agg #[d]).cells),(4,(Value.agg #[e]).cells)];rw[Mc f,Mc g,Mc h2,Mc h3,Mc h])).trans Qqb
theorem AhM(w:World):(Instr.buildSlice 90 0 #[]).run Tryz.prog w=.ok (.slice (some ⟨w.heap.size,0,none⟩) 0 0) (w.alloc (.cells #[] 120)):=by kernel_rfl
theorem Zc(a b:Value)(w:World):(Instr.buildSlice 90 1 #[(0,.agg #[a,b])]).run Tryz.prog w=.ok (.slice (some ⟨w.heap.size,0,none⟩) 1 1) (w.alloc (.cells #[a,b] 120)):=by kernel_rfl
theorem Aat(a b c:Value)(w:World):(Instr.buildSlice 114 1 #[(0,.agg #[a,b,c])]).run Tryz.prog w=.ok (.slice (some ⟨w.heap.size,0,none⟩) 1 1) (w.alloc (.cells #[a,b,c] 118)):=by kernel_rfl
theorem Afy(a b c d:Value)(w:World):(Instr.buildSlice 139 1 #[(0,.agg #[a,b,c,d])]).run Tryz.prog w=.ok (.slice (some ⟨w.heap.size,0,none⟩) 1 1) (w.alloc (.cells #[a,b,c,d] 143)):=by kernel_rfl
theorem Afz(a:Value)(c:a.oneCell'=true)(b:Value)(d:b.oneCell'=true)(w:World):(Instr.buildSlice 152 2 #[(0,a),(1,b)]).run Tryz.prog w=.ok (.slice (some ⟨w.heap.size,0,none⟩) 2 2) (w.alloc (.cells #[a,b] 33)):=
 (Aan (qs:=#[(0,.agg #[a]),(1,.agg #[b])]) (by show([(0,a.cells),(1,b.cells)]:List (Nat×Array Value))=[(0,(Value.agg #[a]).cells),(1,(Value.agg #[b]).cells)];rw[Mc c,Mc d])).trans Qqb
theorem Af0(a b c d:Value)(w:World):(Instr.buildSlice 170 1 #[(0,.agg #[a,b,c,d])]).run Tryz.prog w=.ok (.slice (some ⟨w.heap.size,0,none⟩) 1 1) (w.alloc (.cells #[a,b,c,d] 125)):=by kernel_rfl
theorem I4:Tryz.prog.eqGuardType Tryz.prog.depth 35=false:=by kernel_rfl
theorem Nc(a b c e:Int)(w:World):(Op.equalIn 10000 35 (.agg #[.int .i64 a,.int .i64 b]) (.agg #[.int .i64 c,.int .i64 e])).run Tryz.prog w=.ok (decide (a=c/\b=e)) w:=
 AeM (by kernel_rfl) (by kernel_rfl) (by kernel_rfl : (Tryz.prog.fieldsOf 35).toList = [{ name := "Code", type := 3, offset := 0, embedded := false, tag := "", pkgPath := "", byteOffset := 0 }, { name := "Index", type := 3, offset := 1, embedded := false, tag := "", pkgPath := "", byteOffset := 8 }]) ⟨by decide, rfl⟩ ⟨by decide, rfl⟩ Tryz.underlying3 Tryz.underlying3 a b c e w
theorem AjH:Tryz.prog.eqGuardType Tryz.prog.depth 120=false:=by kernel_rfl
theorem AkA(a b c e:Int)(w:World):(Op.equalIn 10000 120 (.agg #[.int .i64 a,.int .i64 b]) (.agg #[.int .i64 c,.int .i64 e])).run Tryz.prog w=.ok (decide (a=c/\b=e)) w:=
 AeM (by kernel_rfl) (by kernel_rfl) (by kernel_rfl : (Tryz.prog.fieldsOf 120).toList = [{ name := "Item", type := 3, offset := 0, embedded := false, tag := "", pkgPath := "", byteOffset := 0 }, { name := "Word", type := 3, offset := 1, embedded := false, tag := "", pkgPath := "", byteOffset := 8 }]) ⟨by decide, rfl⟩ ⟨by decide, rfl⟩ Tryz.underlying3 Tryz.underlying3 a b c e w
theorem AjI:Tryz.prog.eqGuardType Tryz.prog.depth 101=false:=by kernel_rfl
theorem Ajb(s:Qq4)(a:Int)(m:Qq4)(c:Int)(w:World):(Op.equalIn 10000 101 (.agg #[.string ⟨s.toArray⟩,.int .i64 a]) (.agg #[.string ⟨m.toArray⟩,.int .i64 c])).run Tryz.prog w=.ok (decide (s=m/\a=c)) w:=
 Ak8 (by kernel_rfl) (by kernel_rfl) (by kernel_rfl : (Tryz.prog.fieldsOf 101).toList = [{ name := "Name", type := 9, offset := 0, embedded := false, tag := "", pkgPath := "", byteOffset := 0 }, { name := "Version", type := 3, offset := 1, embedded := false, tag := "", pkgPath := "", byteOffset := 16 }]) ⟨by decide, rfl⟩ ⟨by decide, rfl⟩ Tryz.underlying9 Tryz.underlying3 s m a c w
theorem AkB(s m:Qq4)(x y:Int)(a b:Qq4)(c y2:Int)(w:World):(Op.equalIn 10000 125 (.agg #[.string ⟨s.toArray⟩,.int .i64 x,.int .i64 y,.string ⟨m.toArray⟩]) (.agg #[.string ⟨a.toArray⟩,.int .i64 c,.int .i64 y2,.string ⟨b.toArray⟩])).run Tryz.prog w=.ok (decide (s=a/\x=c/\y=y2/\m=b)) w:=
 Ak6 (by kernel_rfl) (by kernel_rfl) (by kernel_rfl : (Tryz.prog.fieldsOf 125).toList = [{ name := "path", type := 9, offset := 0, embedded := false, tag := "", pkgPath := "scriptorium/shapes", byteOffset := 0 }, { name := "kind", type := 3, offset := 1, embedded := false, tag := "", pkgPath := "scriptorium/shapes", byteOffset := 16 }, { name := "number", type := 3, offset := 2, embedded := false, tag := "", pkgPath := "scriptorium/shapes", byteOffset := 24 }, { name := "text", type := 9, offset := 3, embedded := false, tag := "", pkgPath := "scriptorium/shapes", byteOffset := 32 }]) ⟨by decide, rfl⟩ ⟨by decide, rfl⟩ ⟨by decide, rfl⟩ ⟨by decide, rfl⟩ Tryz.underlying9 Tryz.underlying3 Tryz.underlying3 Tryz.underlying9 s m x y a b c y2 w
theorem AjJ:MB Tryz.prog 9 encS:=AdH Tryz.underlying9
theorem Af1:MB Tryz.prog 101 P2:=Afv Tryz.underlying101 (fun _ _ _ _=>by kernel_rfl) (fun a b c e w=>Ajb a b c e w)
theorem Af2:MB Tryz.prog 125 KU:=Afl Tryz.underlying125 (fun _ _ _ _ _ _=>by kernel_rfl) (fun s a m b x c y y2 w=>AkB s m x y a b c y2 w)
end Go.Proofs.YtopocbcekabkoaaGreatDoor
end
noncomputable section
namespace Go.Proofs.YtopocbcekabkoaaGreatDoor
open Go Go.E Go.RowKit Go.Shelf
def pieces(s:Qq4):Qq8:=Lib.split s [47]
noncomputable def U3(s sep:Qq4)(sv n:Int):Option Qq8:=Go.L.AU (s.length<4294967281/\sep.length=1/\sv=0/\n = -1) (some (Lib.split s sep))
theorem Aau(G:PH):∀l:Qq8,AK Rp.st G l (l.map Go.Proofs.encStr)
 | []=>.nil
 | _::l=>.cons (c:=[_]) Z (Aau G l)
section
variable(w:World)(H:PH)(hH:Le H (hp w)) include hH
theorem Aav{a0 a1:Qq4}{a2 a3:Int}{r:Qq8}(h:U3 a0 a1 a2 a3=some r):
  Ok Tryz.prog 264 [.string ⟨a0.toArray⟩,.string ⟨a1.toArray⟩,.int .i64 a2,.int .i64 a3] w (fun v w'=>Ext w w'/\∃u0,v=u0/\Cd 9 .st H w w' u0 r):=by
 obtain⟨hk,h⟩:=Go.L.Gp h;obtain rfl:=Option.some.inj h;obtain⟨h1,h2,rfl,rfl⟩:=hk;obtain⟨sb,rfl⟩:=List.length_eq_one_iff.1 h2;have hsz:(ByteArray.mk a0.toArray).size=a0.length:=by simp[Qx6]
 obtain⟨N,hN⟩:∃N,N=Lib.countB ⟨a0.toArray⟩ ⟨#[sb]⟩+1:=⟨_,Z⟩;have hle:Lib.countB ⟨a0.toArray⟩ ⟨#[sb]⟩<=(ByteArray.mk a0.toArray).size:=Lib.countB_le ⟨#[sb]⟩ (Qzu 1) _ _ (Qzu _)
 have c:=Any.strings_genSplit_core (P:=Tryz.prog) (ρ:=Tryz.N2) {Tryz.We with} Qqb ⟨a0.toArray⟩ ⟨#[sb]⟩ 0 (-1) N w (by rw[hsz];exact h1) (Qzu 1) (Nat.zero_le _)
  (fun x cc hx=>(Any.strings_Index_one (P:=Tryz.prog) (ρ:=Tryz.N2) {Tryz.We with} x sb _).mono fun e w' ⟨he,hw⟩=>⟨by rw[he];exact congrArg (fun z=>Ending.returned (Value.int .i64 z)) (Lib.index_one x.data.toList sb).symm,hw⟩)
  ((Any.strings_Count_one (P:=Tryz.prog) (ρ:=Tryz.N2) {Tryz.We with} ⟨a0.toArray⟩ sb w).mono fun e w' ⟨he,hw⟩=>⟨by rw[he];exact congrArg (fun z:Nat=>Ending.returned (Value.int .i64 (z:Int))) (Lib.count_one sb _).symm,hw⟩)
  Qqc Qqc (by rw[if_pos Qqc,hN];omega)
 refine⟨⟨Tryz.f264,_,Tryz.func264,Z,Z⟩,c.mono fun e w' he=>?_⟩;obtain⟨rfl,rfl⟩:=he
 have hl:(Lib.splitB ⟨#[sb]⟩ 0 (N - 1) ⟨a0.toArray⟩).length=N:=by
  have:=Lib.splitB_all ⟨#[sb]⟩ (Qzu 1) 0 (N - 1) ⟨a0.toArray⟩ U;omega
 have hd:=Lib.splitB_data ⟨#[sb]⟩ 0 (N - 1) ⟨a0.toArray⟩
 have hpc:(Lib.splitB ⟨#[sb]⟩ 0 (N - 1) ⟨a0.toArray⟩).map (fun b=>b.data.toList)=Lib.split a0 [sb]:=by
  rw[hd];unfold Lib.split;rw[hN]
  rfl
 have hpl:(Lib.split a0 [sb]).length=N:=by rw[<- hpc,Qza,hl]
 have hmp:(Lib.splitB ⟨#[sb]⟩ 0 (N - 1) ⟨a0.toArray⟩).map Value.string=(Lib.split a0 [sb]).map Go.Proofs.encStr:=by
  rw[<- hpc,Qkk];apply QkQ;intro b _
  show Value.string b=Value.string ⟨b.data.toList.toArray⟩
  rw[Array.toArray_toList]
 refine⟨_,Z,CW w _,_,Z,(Lib.split a0 [sb]).map Go.Proofs.encStr,?_,Aau _ _⟩;refine⟨by rw[Qza];exact(Qz9 _).symm,.inr ⟨w.heap.size,N,_,?_,Qzu _,World.alloc_heap_new w _,?_,?_,?_,?_⟩⟩
 ·rw[hl,hpl]
 ·omega
 ·unfold maxLen;omega
 ·rw[Lib.cellsOf_size U];exact(Qz9 _).symm
 ·have e1:Lib.cellsOf (Lib.splitB ⟨#[sb]⟩ 0 (N - 1) ⟨a0.toArray⟩) N=((Lib.splitB ⟨#[sb]⟩ 0 (N - 1) ⟨a0.toArray⟩).map Value.string).toArray:=by
   have:=Lib.cellsOf_full (Lib.splitB ⟨#[sb]⟩ 0 (N - 1) ⟨a0.toArray⟩)
   rwa [hl]at this
  rw[e1,hmp];exact Qxb (by rw[Qza];exact Nat.le_of_eq (Qz9 _).symm)
end
noncomputable def Aaw(a:Qq4)(c:UInt8):Option Int:=some (Lib.indexByte a c)
section
variable(w:World)(H:PH)(hH:Le H (hp w)) include hH
theorem Ada{a0:Qq4}{a1:UInt8}{r:Int}(h:Aaw a0 a1=some r):
  Ok Tryz.prog 201 [.string ⟨a0.toArray⟩,.int .u8 (a1.toNat:Int)] w (fun v w'=>Ext w w'/\v=.int .i64 r):=by
 obtain rfl:=Option.some.inj h;refine⟨⟨Tryz.f201,_,Tryz.func201,Z,Z⟩,(Any.strings_IndexByte Tryz.Akq ⟨a0.toArray⟩ (a1.toNat:Int) w).mono fun e w' he=>?_⟩;obtain⟨rfl,rfl⟩:=he;refine⟨_,Z,Ext.refl _,?_⟩;have e:((a1.toNat:Int).toNat).toUInt8=a1:=by simp
 rw[e]
end
noncomputable def Vj(a:Qq8)(sep:Qq4):Option Qq4:=Go.L.AU (a.length<=140737488355328/\(Lib.join a sep).length<=140737488355328) (some (Lib.join a sep))
section
variable(w:World)(H:PH)(hH:Le H (hp w)) include hH
theorem Zd{a0:Qq8}{a1:Qq4}{v:Value}(hv:AS .st H v a0){r:Qq4}(h:Vj a0 a1=some r):
  Ok Tryz.prog 85 [v,.string ⟨a1.toArray⟩] w (fun v w'=>Ext w w'/\v=.string ⟨r.toArray⟩):=by
 obtain⟨⟨h1,h2⟩,h⟩:=Go.L.Gp h;obtain rfl:=Option.some.inj h
 have X:Builder.Extra Tryz.prog Tryz.Va:={
  liesBuilder:=by kernel_rfl
  sizeBuilder:=by kernel_rfl
  t5:=by kernel_rfl
  a5:=fun w=>by kernel_rfl
  z5:=fun w=>by kernel_rfl
  v5:=fun w=>by kernel_rfl
  infoByte:=by kernel_rfl
  cellsByte:=by kernel_rfl
  sizeByte:=by kernel_rfl
  neB5:=by decide}
 obtain⟨a,cap,rfl,k2,k3,k4,k5⟩:=hv.ex
 have key:∀(P:Prop),((a0=[]->P)/\(∀A,a=some A->a0≠[]->P))->P:=fun P hP=>by
  by_cases ha:a0=[]
  ·exact hP.1 ha
  ·cases a with
   | none=>exact absurd (Qxd (by have:=k4 Z;omega)) ha
   | some A=>exact hP.2 A Z ha
 refine key _ ⟨fun he=>?_,fun A hA hne=>?_⟩
 ·subst he;refine⟨⟨Tryz.f85,_,Tryz.func85,Z,Z⟩,(Any.strings_Join_none Tryz.Ac3 X a cap ⟨a1.toArray⟩ w).mono fun e w' hh=>?_⟩;obtain⟨rfl,rfl⟩:=hh;exact⟨_,Z,Ext.refl _,Z⟩
 ·subst hA;obtain⟨k6,k7⟩:=k5 A Z hne;obtain⟨b,o,sp⟩:=A;simp only at k6;subst k6
  have hcell:∀(j:Nat) x,(a0.map fun l=>(⟨l.toArray⟩:ByteArray))[j]? = some x->w.cell? ⟨b,o+j,none⟩=some (.string x):=fun j x hx=>by
   rw[Qxq]at hx
   cases hj:a0[j]? with
   | none=>rw[hj]at hx;cases hx
   | some l=>
    rw[hj]at hx;obtain rfl:=Option.some.inj hx;obtain⟨c,hc,hcell⟩:=k7 j l hj;obtain rfl:c=[.string ⟨l.toArray⟩]:=hc;have:=cell_of hH (hcell 0 _ Z)
    rwa [show(Rp.st).sz=1 from Z,Qz9,Qxf,Addr.add_lit]at this
  have hpos:0<a0.length:=List.length_pos_iff.2 hne
  have hb:b<w.heap.size:=by
   have h0:=hcell 0 ⟨(a0[0]'hpos).toArray⟩ (by simp[hpos]);exact World.block_lt_of_cell? _ _ h0
  have e2:(a0.map fun l=>(⟨l.toArray⟩:ByteArray)).map (·.data.toList)=a0:=by rw[Qkk];exact(QkQ (fun l _=>by simp)).trans (List.map_id _)
  have c:=Any.strings_Join Tryz.Ac3 X b o cap (a0.map fun l=>(⟨l.toArray⟩:ByteArray)) ⟨a1.toArray⟩ w hcell hb (by rw[Qza];exact h1) (by rw[Qza];omega) (by rw[e2];simpa using h2);rw[e2,Qza]at c;refine⟨⟨Tryz.f85,_,Tryz.func85,Z,Z⟩,c.mono fun e w' hh=>?_⟩;obtain⟨rfl,hb'⟩:=hh;exact⟨_,Z,Ext.off hb',by simp⟩
end
end Go.Proofs.YtopocbcekabkoaaGreatDoor
end
noncomputable section
namespace Go
abbrev No:Int->Value:=Value.int .i64
abbrev Aal:Value:=.slice none 0 0
abbrev Abo(b:Nat):Value:=.pointer (some ⟨b,0,none⟩)
abbrev Abu(l:Qq4):Value:=.string ⟨l.toArray⟩
abbrev Abv:=Qq4
abbrev Abw:Qq6:=[.int .i64 0,.slice none 0 0,.string ⟨([]:Qq4).toArray⟩,.slice none 0 0,.int .i64 0,.int .i64 0,.slice none 0 0]
end Go
namespace Go
abbrev Alu:=Abv×Int×Int×Abv
end Go
namespace Go.Proofs.YtopocbcekabkoaaGreatDoor
open Go Go.E Go.RowKit Go.L
set_option maxHeartbeats 1000000
set_option maxRecDepth 10000
open _root_.Go.Proofs.Tryz
def H4(a0:Abv)(a1:Abv):Option Int:=
 some ((Lib.compareBytes a0 a1))
abbrev Qqv[Dr](f:FuncId)(a:Qq6)(w:World)(R:Value->World->Prop):=Ok prog f a w (fun v w'=>Ext w w'/\R v w')
section
variable(w:World)(H:PH)(hH:Le H (hp w)) include hH
theorem Lg[Dr]{a0 a1:Abv}{r:Int}(h:H4 a0 a1=some r):
  Qqv 173 [Abu a0,Abu a1] w (fun v w'=>v=No r):=by
 refine A4 8 [(0,(Abu a0)),(1,(Abu a1))] func173 Z fun hL=>A7 1 Z<|Bo 2 Z<|Ag (Aj2 func233 Qqb Qqb Z Z)<|AA 1 Z<|Aw ?_
 cases h
 refine Ah Z ⟨hL.ext,Z⟩
def strings_Compare(a0:Abv)(a1:Abv):Option Int:=
 Qq9 (H4 a0 a1) (fun a=>some a)
theorem KM[Dr]{a0 a1:Abv}{r:Int}(h:strings_Compare a0 a1=some r):
  Qqv 134 [Abu a0,Abu a1] w (fun v w'=>v=No r):=by
 refine A4 8 [(0,(Abu a0)),(1,(Abu a1))] func134 Z fun hL=>A7 1 Z<|Bo 2 Z<|A1 h fun e a h=>A9 hL (Lg _ _ (Av hL) a) fun f d b c=>AA 1 Z<|Aw ?_
 cases h
 refine Ah Z ⟨b.ext,Z⟩
def cmp_isNaN_int(a0:Int):Option Bool:=
 some (!decide (a0=a0))
theorem P3[Dr]{a0:Int}{r:Bool}(h:cmp_isNaN_int a0=some r):
  Qqv 174 [No a0] w (fun v w'=>v=.bool r):=by
 refine A4 6 [(0,No a0)] func174 Z fun hL=>A7 1 Z<|A7 4 Z<|Aw ?_
 cases h
 refine Ah Z ⟨hL.ext,Z⟩
def I5(a0 a1:Int):Option Int:=
 Qq9 (cmp_isNaN_int a0) (fun b=>Qq9 (cmp_isNaN_int a1) (fun a=>if b then(if a then some (0)else some ((-1)))else(if a then some (1)else(if a0<a1 then some ((-1))else(if a1<a0 then some (1)else some (0))))))
theorem NW[Dr]{a0 a1 r:Int}(h:I5 a0 a1=some r):
  Qqv 135 [No a0,No a1] w (fun v w'=>v=No r):=by
 refine A4 20 [(0,No a0),(1,No a1)] func135 Z fun hL=>A7 1 Z<|Bo 1 Z<|A1 h fun p f h=>A9 hL (P3 _ _ (Av hL) f) fun q m b k=>AA 1 Z<|Bo 1 Z<|A1 h fun s g h=>A9 b (P3 _ _ (Av b) g) fun t o a l=>AA 1 Z<|A6<|A7 1 Z<|Bi h ?_ ?_<;>intro i h
 ·refine A6<|A7 1 Z<|Bi h ?_ ?_<;>intro j h
  ·refine A7 1 Z<|Aw ?_
   iterate 2 refine Am ?_
   cases h
   refine Ah Z ⟨a.ext,Z⟩
  refine Au<|Aq<|A7 1 Z<|Aw<|Am ?_
  cases h
  refine Ah Z ⟨a.ext,Z⟩
 refine Au<|Aq<|A6<|A7 1 Z<|Bi h ?_ ?_<;>intro c h
 ·refine A7 1 Z<|Aw<|Am ?_
  cases h
  refine Ah Z ⟨a.ext,Z⟩
 refine Au<|Aq<|A6<|A7 3 Z<|AL h ?_ ?_<;>intro d h
 ·refine A7 1 Z<|Aw<|Am ?_
  cases h
  refine Ah Z ⟨a.ext,Z⟩
 refine Au<|Aq<|A6<|A7 3 Z<|AL h ?_ ?_<;>intro e h
 ·refine A7 1 Z<|Aw<|Am ?_
  cases h
  refine Ah Z ⟨a.ext,Z⟩
 refine Au<|Aq<|A7 1 Z<|Aw ?_
 cases h
 refine Ah Z ⟨a.ext,Z⟩
def SE:Option Int:=
 some (0)
def Fl(a0:Qq5):Int->Option ((Int)⊕(Int)):=fun a=>
 if a<(a0.length:Int)then AU (0<=a/\a<(a0.length:Int)) (if a0.getD a.toNat Qq2=0 then AU (Bq (a+1)) (some (Sum.inl (a+1)))else Qzx Sum.inr (some (a0.getD a.toNat Qq2)))else Qzx Sum.inr SE
def SF(a0:Qq5)(s:Int):Option Int:=Go.L.run (Fl a0) s
def Qd(a0:Qq5):Option Int:=
 (SF a0) (0:Int)
theorem XK[Dr]{a0:Qq5}{b:Value}(e:AS (.int .i64) H b a0){r:Int}(h:Qd a0=some r):
  Qqv 133 [b] w (fun v w'=>v=No r):=by
 refine A4 18 [(0,b)] func133 Z fun hL=>A7 1 Z<|A7 1 Z<|Bb Unit (fun(_:Unit)=>[(3,No 0)]) (fun(_:Unit) wr=>Bk w [] wr/\SE=some r) ?_ ?_
 ·refine Bo 1 Z<|Ag (AZ e)<|AA 1 Z<|A2 ?_;obtain⟨f,h⟩:=AR h;refine Bj (Int×Nat) (fun⟨a,n⟩=>[(3,No 0),(6,b),(7,No (a0.length:Int)),(8,No a)]) (fun⟨a,n⟩ wr=>Bk w [] wr/\DR (Fl a0) n a=some r) (fun⟨a,n⟩=>n) (0,f) Z ⟨hL,h⟩ ?_;rintro⟨a,nn36⟩ o ⟨c,h⟩;obtain⟨f,q,rfl,h,d⟩:=AQ h;refine A7 1 Z<|A6<|AL h ?_ ?_<;>intro i h
  ·refine Au<|Aq<|A6<|A2<|Ao<|Ax h fun g h=>AW e a.toNat (Cx g) (AM g) ?_;rintro s _ rfl j;refine Ag (AT j (hH.trans c.arg))<|AA 1 Z<|A7 3 Z<|BG h ?_ ?_<;>intro k h
   ·refine A7 2 Z<|Aw<|Al<|Am<|Bc ?_;have h:=Bw.out h d;refine Al<|AN ?_
    cases h
    refine Ah Z ⟨c.ext,Z⟩
   refine Au<|Az<|Aq<|An<|Ax h fun l h=>Ag (Ay l)<|As 1 Z<|AE ?_;have h:=Bw.again h d;refine AD (_,_) Z ⟨c,h⟩
  refine Bf<|A5<|A3 ?_;have h:=Bw.out h d;refine AY<|A8 () ⟨c,h⟩
 rintro _ p ⟨m,h⟩;refine A7 2 Z<|Aw ?_
 cases h
 refine Ah Z ⟨m.ext,Z⟩
end
def JZ(a0:Alu)(a1:Alu):Option Int:=
 Qq9 (strings_Compare a0.1 a1.1) (fun c=>Qq9 (I5 a0.2.1 a1.2.1) (fun d=>Qq9 (I5 a0.2.2.1 a1.2.2.1) (fun e=>Qq9 (strings_Compare a0.2.2.2 a1.2.2.2) (fun a=>Qq9 (Qd ([c,d,e,a])) (fun b=>some b)))))
theorem Qe[Dr](w:World)(H:PH)(hH:Le H (hp w)){a0 a1:Alu}{r:Int}(h:JZ a0 a1=some r):
  Ok prog 88 [.agg #[Abu a0.1,No a0.2.1,No a0.2.2.1,Abu a0.2.2.2],.agg #[Abu a1.1,No a1.2.1,No a1.2.2.1,Abu a1.2.2.2]] w (fun v w'=>Ext w w'/\v=No r):=by
 refine A4 27 [(0,.agg #[Abu a0.1,No a0.2.1,No a0.2.2.1,Abu a0.2.2.2]),(1,.agg #[Abu a1.1,No a1.2.1,No a1.2.2.1,Abu a1.2.2.2])] func88 Z fun hL=>Ao<|BM (t:=125) Z Z hL fun w1 b1 j y _=>BM (t:=125) Z Z j fun w2 b2 k z _=>AA 1 Z<|BZ (Qqz 0 20 (.h 20 (.q 21 (.q 22 (.tail 23))))) mixed Qqb (fun w3 m=>?_);have a:=k.call m;refine B2 Z (Ae Z Ads Z Dl.e) Z<|B2 Z (Af 1 Z a Z) Z<|B2 Z (Ae Z Ads Z Dl.e) Z<|B2 Z (Af 0 Z a Z) Z<|A1 h fun x5 o h=>Er Z Z Z (fun w6 ag=>KM _ _ (Le.refl _) o)<|B2 Z (Ae Z Ads Z BB.e) Z<|B2 Z (Af 1 Z a Z) Z<|B2 Z (Ae Z Ads Z BB.e) Z<|B2 Z (Af 0 Z a Z) Z<|A1 h fun x7 p h=>Er Z Z Z (fun w8 ah=>NW _ _ (Le.refl _) p)<|B2 Z (Ae Z Ads Z BB.e) Z ?_
 refine B2 Z (Af 1 Z a Z) Z<|B2 Z (Ae Z Ads Z BB.e) Z<|B2 Z (Af 0 Z a Z) Z<|A1 h fun x9 s h=>Er Z Z Z (fun ai ad=>NW _ _ (Le.refl _) s)<|B2 Z (Ae Z Ads Z Dl.e) Z<|B2 Z (Af 1 Z a Z) Z<|B2 Z (Ae Z Ads Z Dl.e) Z<|B2 Z (Af 0 Z a Z) Z<|A1 h fun u c h=>Er Z Z Z (fun aj ae=>KM _ _ (Le.refl _) c)<|Rm [x5,x7,x9,u] (r:=(.int .i64)) Z Z (fun _=>AcZ _ _ _ _ _) Z (B4 4) hH a (.c1 Z (.c1 Z (.c1 Z (.c1 Z .nil)))) fun ak al af b x d=>A1 h fun am e h=>Er Z Z Z (fun an f=>XK _ _ (Le.refl _) ((d.mono (Av b)).mono f.le) e)<|B9 1 Z<|Bt (fun ao g=>?_);have i:=b.call g;refine Ad<|Aw ?_
 cases h
 refine Ah Z ⟨i.ext,Z⟩
def OX(a0:Abv)(a1:Abv):Option Int:=
 some ((Lib.compareBytes a0 a1))
section
variable(w:World)(H:PH)(hH:Le H (hp w)) include hH
theorem U4[Dr]{a0 a1:Abv}{a b:Value}(c:AS .byte H a a0)(d:AS .byte H b a1){r:Int}(h:OX a0 a1=some r):
  Qqv 118 [a,b] w (fun v w'=>v=No r):=by
 refine A4 8 [(0,a),(1,b)] func118 Z fun hL=>A7 1 Z<|Bo 2 Z<|Ag (Aj1 func162 Qqb Qqb c (hH.trans hL.arg) d (hH.trans hL.arg))<|AA 1 Z<|Aw ?_
 cases h
 refine Ah Z ⟨hL.ext,Z⟩
end
def NY(a0 a1:Int)(a:Abv):Option Int:=
 AU (0<=a0/\a0<=(a.length:Int)) (AU (0<=a1/\a1<=(a.length:Int)) (Qq9 (OX (a.drop a0.toNat) (a.drop a1.toNat)) (fun b=>some b)))
theorem TC[Dr](w:World)(H:PH)(hH:Le H (hp w)){a0 a1:Int}{i:Abv}{b:Value}{f:Addr}(c:AS .byte H b i)(d:Hy H f [b]){r:Int}(h:NY a0 a1 i=some r):
  Ok prog 117 [No a0,No a1,.pointer (some f)] w (fun v w'=>Ext w w'/\v=No r):=by
 refine A4 13 [(0,No a0),(1,No a1),(2,.pointer (some f))] func117 Z fun hL=>A7 1 Z<|BZ (Qqz 0 8 (.tail 8)) mixed Qqb (fun t j=>?_);have a:=hL.call j;refine B2 Z (AT d (hH.trans a.arg)) Z<|B9 1 Z<|Ax h fun k h=>Px Z Z Ae1 c k Z fun u l=>B2 Z (AT d (hH.trans a.arg)) Z<|B9 1 Z<|Ax h fun m h=>Px Z Z Ae1 c m Z fun x o=>A1 h fun y p h=>Er Z Z Z (fun z e=>U4 _ _ (Le.refl _) ((l.mono (hH.trans a.arg)).mono e.le) ((o.mono (hH.trans a.arg)).mono e.le) p)<|B9 1 Z<|Bt (fun w9 s=>?_);have g:=a.call s;refine Ad<|Aw ?_
 cases h
 refine Ah Z ⟨g.ext,Z⟩
end Go.Proofs.YtopocbcekabkoaaGreatDoor
end
noncomputable section
namespace Go.E
open Go Go.RowKit
structure Cb (P:Program) (a:World) (H:PH) (f:FuncId) (cap:Qq6) {σ:Type} (J:σ->List BV->PH->Prop) (step:σ->Qq4×Int×Int×Qq4->Option σ):Prop where
 mono:∀{s:σ}{R:List BV}{G G':PH},Le G G'->J s R G->J s R G'
 ok:∀{w:World}{O R:List BV}{s s':σ}{x:Qq4×Int×Int×Qq4},Bk a (Qzf O R) w->J s R (gz H a w (Qzf O R))->step s x=some s'->
  Ok P f (KU x::cap) w (fun v w'=>v=.tuple #[]/\∃R':List BV,Bk a (Qzf O R') w'/\Le (fz w (Qzf O R)) (fz w' (Qzf O R'))/\J s' R' (gz H a w' (Qzf O R')))
section
variable {P:Program}{n:Sz}{ops:Array Oper}{Q:Exit->Act->World->Prop}{L:Env}{w w0:World}{O:List BV}{rest:List Oper}{d:Nat}{ty t t':TypeId}{pos:String}{af:Array Edge}{x y:Operand}{v:Value}{e:TypeId}{pv:Value}
theorem AbK{a b:Int}(c : -9223372036854775808<=a/\a<=9223372036854775807/\0<b): -9223372036854775808<=a.tdiv b/\a.tdiv b<=9223372036854775807:=by
 obtain⟨c,h2,h3⟩:=c;have e:(a.tdiv b).natAbs<=a.natAbs:=by rw[Int.natAbs_tdiv];exact Nat.div_le_self _ _
 rcases Int.le_total 0 a with h | h
 ·have d:0<=a.tdiv b:=Int.tdiv_nonneg h U;omega
 ·have d:0<=(-a).tdiv b:=Int.tdiv_nonneg U U;rw[Int.neg_tdiv]at d;omega
theorem AjK{a b:Int}[hx:Qqq (ev L x) (some (.int .i64 a))][hy:Qqq (ev L y) (some (.int .i64 b))](c : -9223372036854775808<=a/\a<=9223372036854775807/\0<b):B5 P L w (.binOp .quo t x y t') ty (.int .i64 (a.tdiv b)):=by
 intro w' _ ρ hρ dst pos af g;have hb:b≠0:=by omega
 have⟨d,e⟩:=AbK c;simp[execOp,hρ x _ hx.e,hρ y _ hy.e,eqGuard,binOp,Op.intDiv,hb,wrap64 (x:=a.tdiv b) U U]
theorem AjL{a b:Int}{k:IntKind}(hx:ev L x=some (.int k a))(hy:ev L y=some (.int k b))(c : -9223372036854775808<=a/\a<=9223372036854775807/\0<b):B5 P L w (.binOp .rem t x y t') ty (.int k (a.tmod b)):=by
 intro w' _ ρ hρ dst pos af g;have hb:b≠0:=by omega
 simp[execOp,hρ x _ hx,hρ y _ hy,eqGuard,binOp,Op.intDiv,hb]
theorem Yo(i off:Nat){b:Nat}{cs vs ns:Qq6}{a:TypeId}{zz:Value}{bt:Nat}(hx:ev L x=some (.pointer (some ⟨b,off,none⟩)))[hy:Qqq (ev L y) (some v)][hc:Qqq v.cells.toList vs][hz:Qqx P t zz vs.length bt](hL:Bk w0 O w)(hi:Dz O i=some (.box b cs a))(hlen:Nat.ble (off+vs.length) cs.length=true)(hns:cs.take off++vs++cs.drop (off+vs.length)=ns)(c:∀u∈vs,u.oneCell'=true)
  (h:∀w',Bk w0 (CE O i (.box b ns a)) w'->Le (fz w O) (fz w' (CE O i (.box b ns a)))->S P n ops Q rest L w'):S P n ops Q (⟨none,.store t x y,ty,pos,af,none⟩::rest) L w:=by
 have hc:=hc.e
 subst hc;have hlen':=Nat.le_of_ble_eq_true hlen;obtain⟨inf,d,g,f,j⟩:=hz.e.parts;have hb:w.heap[b]? = some (.cells cs.toArray a (0,0)):=hL.at hi;have hst:=run_storeCells_at P b off a v.cells.toList 0 cs.toArray w hb (by simp at hlen' ⊢;omega) c;simp only[Qxf,List.toList_toArray]at hst;rw[hns]at hst;have hsz:v.cells.size=inf.size:=by rw[f];simp
 refine NO (w.setRow b ns.toArray) (fun ρ hρ=>by
  simp[execOp,hρ x _ hx,hρ y _ hy.e,Instr.storeAt,Instr.sureAddr,storeVar,sizeOf,typeInfo,d,hsz,hst]) ?_
 have hg:=NR w b ns.toArray
 have hnl:ns.length=cs.length:=by
  rw[<- hns];simp only[List.length_append,QzC,List.length_drop];omega
 have hok:BV.ok (w.setRow b ns.toArray) (.box b ns a):=by
  show(w.setRow b ns.toArray).heap[b]? = _
  exact LZ w b cs.toArray ns.toArray a hb
 exact h _ (hL.LY hi (Qzu _) hg hok (fun b' e=>.inl e)) (Gj hL hi hg (fun b' e=>.inl e))
theorem Aax{b m e:Nat}{a:Int}{k:IntKind}{zz:Value}{bt len:Nat}(hx:ev L x=some (.pointer (some ⟨b,0,none⟩)))[hy:Qqq (ev L y) (some (.int k a))][ht:Qqq (P.underlying t) (some (.array len e))][he:Qqx P e zz 1 bt][hl:Qqq (Qzw 1 len) true](hm:0<=a/\a<(len:Int))(hmm:a.toNat=m):B5 P L w (.indexAddr t x y) ty (.pointer (some ⟨b,m,none⟩)):=by
 have hl:=hl.e
 intro w' _ ρ hρ dst pos af g;obtain⟨inf,c,f,d,i⟩:=he.e.parts;have hl' : ¬len<=1:=by simp only[Nat.blt_eq]at hl;omega
 have i3':inf.size=1:=by rw[d]
 simp[execOp,hρ x _ hx,hρ y _ hy.e,Instr.indexAt,asIntOf,run_underlying ht.e,Instr.sureAddr,sizeOf,typeInfo,c,i3',hm,hmm,Addr.add];intro h;exact h.symm
theorem Adb(i m:Nat){b:Nat}{l:Qq5}{cs:Qq6}{c:TypeId}{k:IntKind}(hx:ev L x=some (.pointer (some ⟨b,m,none⟩)))(ht:P.underlying t=some (.int k))(hL:Bk w0 O w)(hi:Dz O i=some (.box b cs c))(hcs:l.map (Value.int k)=cs)(hm:m<l.length):B5 P L w (.load t x) ty (.int k (l.getD m Qq2)):=by
 subst hcs;have a:=(AP hL hi).add m;rw[Addr.add_lit,QzJ]at a
 have h2:(l.map (Value.int k)).drop m=.int k (l.getD m Qq2)::(l.map (Value.int k)).drop (m+1):=by
  rw[List.drop_eq_getElem_cons (by simpa using hm)];simp[hm]
 rw[h2]at a;exact AT (hx:=⟨hx⟩) (ht:=⟨ht⟩) a (Le.refl _)
theorem Af3(m:Nat){b off:Nat}{cs c:Qq6}{d:TypeId}{dd:TypeDesc}{zz:Value}{bt:Nat}(hx:ev L x=some (.pointer (some ⟨b,off,none⟩)))[ht:Qqq (P.underlying t) (some dd)][hd:Qqq (Aaa dd) true](hz:Zr P t zz c.length bt)(h:w.heap[b]? = some (.cells cs.toArray d (0,0)))(hc:(cs.drop off).take m=c):B5 P L w (.load t x) ty (.agg c.toArray):=by
 have a:=((AbC h).add off).part m;rw[hc,Addr.add_lit,QzJ]at a;exact BI (hx:=⟨hx⟩) (ht:=⟨ht.e⟩) (hd:=⟨hd.e⟩) (hz:=⟨hz⟩) a (Le.refl _)
theorem AdN{f:FuncId}{args:List Operand}{vs:Qq6}{at_:Array TypeId}{dst:Option Tmp}{fst cap:Qq6}{fo:Operand}(hc:Kh P f)(hf:ev L fo=some (.func (.func f) fst.toArray cap.toArray))(ha:Vc L args=some vs)(ρ:Operand->Value)(hρ:Rho L ρ):
  (execOp ρ ⟨dst,.call ⟨.value fo,args.toArray,at_⟩,ty,pos,af,none⟩).run P w=.ok (.enter f (fst++vs++cap).toArray) w:=by
 obtain ⟨fn, c, a, h2, h3⟩ := hc;have b := hρ.map _ _ ha;have h2' : ¬fn.name = "runtime.NumGoroutine" := by simpa using h2
 simp[execOp,resolve,hρ fo _ hf,Deferred.ofValue,b,invoke,callFunc,a,h2',h3]
theorem AhN{f:FuncId}{args:List Operand}{vs:Qq6}{at_:Array TypeId}(fst cap:Qq6){fo:Operand}{R:Value->World->Prop}(hf:ev L fo=some (.func (.func f) fst.toArray cap.toArray))(ha:Vc L args=some vs)(hn:Qzw d n.n=true)(hok:Ok P f (fst++vs++cap) w R)
  (h:∀v w',R v w'->S P n ops Q rest ((d,v)::L) w'):S P n ops Q (⟨some d,.call ⟨.value fo,args.toArray,at_⟩,ty,pos,af,none⟩::rest) L w:=
 XD Z fun a fr=>by
  unfold Oper.wp;rw[AdN hok.1 hf ha _ fr.Yb];refine hok.2.mono fun e w' ⟨v,he,hv⟩=>?_;subst he;exact h v w' hv _ (fr.put hn)
theorem Aay{f:FuncId}{args:List Operand}{vs:Qq6}{at_:Array TypeId}(fst cap:Qq6){fo:Operand}{R:Value->World->Prop}(hf:ev L fo=some (.func (.func f) fst.toArray cap.toArray))(ha:Vc L args=some vs)[hn:Qqq (Qzw d n.n) true](hL:Bk w0 O w)(hok:Ok P f (fst++vs++cap) w (fun v w'=>Ext w w'/\R v w'))
  (h:∀v w',R v w'->Ext w w'->Bk w0 O w'->Le (fz w O) (fz w' O)->S P n ops Q rest ((d,v)::L) w'):S P n ops Q (⟨some d,.call ⟨.value fo,args.toArray,at_⟩,ty,pos,af,none⟩::rest) L w:=
 AhN fst cap hf ha hn.e hok fun v w' hh=>h v w' hh.2 hh.1 (hL.call hh.1) (AH hL hh.1)
theorem AjM{σ:Type}{c:Code}(I:σ->Env)(R:σ->World->Prop)(hx:W P n c (Aby n I R Q) L w)(hy:∀s w',R s w'->At n Q .normal (I s) w'):W P n c Q L w:=fun a fr=>
 wp_mono (hx a fr) fun e a' w' q=>by
  cases e with
  | normal=>obtain⟨s,b,h2⟩:=q;exact hy s w' h2 a' b
  | _=>exact q
theorem KX{id:Nat}{l:List Oper}{m:Nat}(hq:K8 Q)(Inv:World->World->Prop)(hm:P.follows .mixedOrders=true)(hl:l.length=m)(h:K8 Q->∀w',Ext w w'->Nw (Inv w') P n l Q m (SB m []) L w'):W P n (.region id l.toArray true) Q L w:=Afj Inv hm hl (h hq)
theorem OG{Inv:World->Prop}{l:List Oper}{fuel:Nat}{listed:Array Bool}(hI:Inv w)(h:Inv w->Nw Inv P n l Q fuel listed L w):Nw Inv P n l Q fuel listed L w:=h hI
theorem Be{Inv:World->Prop}{l:List Oper}{fuel i m:Nat}{done:List Nat}(hI:Inv w)(h:Inv w->Nw Inv P n l Q fuel (SB m done) L w):S P n l.toArray (nQI Inv P l Q fuel i (SB m done)) [] L w:=Aj8 hI (h hI)
def WE(K L:Env):Bool:=K.all fun x=>(gt L x.1).isNone
theorem Af4{L:Env}{s:Nat}{u:Value}(hu:gt L s=some u):∀K:Env,WE K L=true->gt (K++L) s=some u
 | [],_=>hu
 | (a,z)::K,h=>by
  simp only[WE,List.all_cons,QzQ]at h;have ih:=Af4 hu K h.2
  have hne:QxA a s=false:=by
   cases hb:QxA a s with
   | false=>rfl
   | true=>
    have:=Nat.eq_of_beq_eq_true hb;rw[this,hu]at h;exact absurd h.1 Qqd
  show(bif QxA a s then some z else gt (K++L) s)=some u
  rw[hne];exact ih
theorem Fr.strip{a:Act}{L':Env}{v':Value}(k:Nat)(fr:Fr n a ((d,v')::L'))(hv:v=v')(hl:L'.drop k=L)(hk:WE (L'.take k) L=true):Fr n a ((d,v)::L):=by
 subst hv;refine⟨fr.size,fr.defers,fun s u hs=>fr.get s u ?_⟩;have e:L'=L'.take k++L:=by rw[<- hl,List.take_append_drop]
 rw[e];have hs':(bif QxA d s then some v else gt L s)=some u:=hs
 show(bif QxA d s then some v else gt (L'.take k++L) s)=some u
 cases hb:QxA d s with
 | true=>rw[hb]at hs';exact hs'
 | false=>rw[hb]at hs';exact Af4 hs' _ hk
theorem Jm{l:List Oper}(m d:Nat)(v:Value)(hb:S P n ops Q (l.drop m) ((d,v)::L) w->S P n ops Q l L w)(h:S P n ops Q (l.drop m) ((d,v)::L) w):S P n ops Q l L w:=hb h
theorem S.to{l:List Oper}{L':Env}{v':Value}(hm:S P n ops Q l ((d,v)::L) w)(k:Nat)(hv:v=v')(hl:L'.drop k=L)(hk:WE (L'.take k) L=true):S P n ops Q l ((d,v')::L') w:=fun a fr=>hm a (fr.strip k hv hl hk)
def trq:Nat->Tr->Tr
 | 0,t=>t
 | m+1,.q _ t=>trq m t
 | _+1,t=>t
theorem Aaz{l:List Oper}{t:Tr}(m d:Nat)(v:Value)(hb:D P n l Q (trq m t) ((d,v)::L) w->D P n l Q t L w)(h:D P n l Q (trq m t) ((d,v)::L) w):D P n l Q t L w:=hb h
theorem D.to{l:List Oper}{t:Tr}{L':Env}{v':Value}(hm:D P n l Q t ((d,v)::L) w)(k:Nat)(hv:v=v')(hl:L'.drop k=L)(hk:WE (L'.take k) L=true):D P n l Q t ((d,v')::L') w:=fun a fr=>hm a (fr.strip k hv hl hk)
section
variable {b c e:Bool}
theorem LM(h:b=true):Value.bool (b&&c)=.bool c:=by rw[h];rfl
theorem LN(h:b=false):Value.bool (b&&c)=.bool false:=by rw[h];rfl
theorem XL(h:b=true):Value.bool (b||c)=.bool true:=by rw[h];rfl
theorem XM(h:b=false):Value.bool (b||c)=.bool c:=by rw[h];rfl
end
end
end Go.E
end
noncomputable section
namespace Go.L
inductive Qv where
 | mk (kind:Int) (words:Qq8) (pattern data:Qq4) (low high:Int) (subs:List Qv)
instance:Inhabited Qv:=⟨.mk 0 [] [] [] 0 0 []⟩
abbrev QvF:Type:=Int×Qq8×Qq4×Qq4×Int×Int×List Qv
def Qv.f:Qv->QvF
 | .mk k ws p d l h ss=>(k,ws,p,d,l,h,ss)
end Go.L
namespace Go.E
open Go Go.L
variable {α β:Type}
def Rp.TD(r:Rp Qv):Rp QvF:=.pair (.int .i64) (.pair (.vec .st) (.pair .st (.pair (.vec .byte) (.pair (.int .i64) (.pair (.int .i64) (.vec r))))))
def Rp.KN:Nat->Rp Qv
 | 0=>.no Qv 7
 | d+1=>(Rp.TD (Rp.KN d)).via Qv.f
theorem Rp.P4:∀d,(Rp.KN d).sz=7
 | 0=>rfl
 | _+1=>rfl
theorem Rp.WG{r s:Rp Qv}{H:PH}{x:QvF}{c:Qq6}(hz:r.sz=s.sz)(hrel:∀y∈x.2.2.2.2.2.2,∀c,r.rel H y c->s.rel H y c)(h:(Rp.TD r).rel H x c):(Rp.TD s).rel H x c:=by
 obtain⟨c1,c2,e,f,c3,c4,g,h2,c5,c6,i,h3,c7,c8,j,k,l,a,m,n,b,d,o,p,v,q,t⟩:=h;exact⟨c1,c2,e,f,c3,c4,g,h2,c5,c6,i,h3,c7,c8,j,k,l,a,m,n,b,d,o,p,v,q,t.Afk hz hrel⟩
theorem Rp.Vk{H:PH}:∀(d:Nat) (x:Qv) (c:Qq6),(Rp.KN d).rel H x c->(Rp.KN (d+1)).rel H x c
 | 0,_,_,h=>h.elim
 | d+1,x,c,h=>Rp.WG (r:=Rp.KN d) (s:=Rp.KN (d+1)) (by rw[Rp.P4,Rp.P4]) (fun y _ c h=>Rp.Vk d y c h) h
theorem Rp.Yp{H:PH}{d e:Nat}(h:d<=e){x:Qv}{c:Qq6}(hx:(Rp.KN d).rel H x c):(Rp.KN e).rel H x c:=by
 induction h with
 | refl=>exact hx
 | step _ ih=>exact Rp.Vk _ _ _ ih
def Rp.Cy:Rp Qv:=⟨7,fun H x c=>∃d,(Rp.KN d).rel H x c,fun h=>by obtain⟨d,h⟩:=h;rw[(Rp.KN d).len h,Rp.P4],fun hs h=>by obtain⟨d,h⟩:=h;exact⟨d,(Rp.KN d).mono hs h⟩,fun h=>by obtain⟨d,h⟩:=h;exact(Rp.KN d).one h⟩
theorem Rp.Ev{H:PH}{x:Qv}{c:Qq6}(h:Rp.Cy.rel H x c):(Rp.TD Rp.Cy).rel H x.f c:=by
 obtain⟨d,h⟩:=h
 cases d with
 | zero=>exact h.elim
 | succ d=>exact Rp.WG (r:=Rp.KN d) (s:=Rp.Cy) (Rp.P4 d) (fun y _ c h=>⟨d,h⟩) h
theorem AS.AjN{H:PH}{v:Value}{l:List Qv}(h:AS Rp.Cy H v l):∃d,AS (Rp.KN d) H v l:=by
 obtain⟨a,cap,b,h2,h3,f,g⟩:=h.ex
 cases a with
 | none=>exact⟨0,none,cap,b,h2,h3,f,fun A hA=>by cases hA⟩
 | some A=>
  have key:∀n,∃d,∀i x,i<n->l≠[]->l[i]? = some x->∃c,(Rp.KN d).rel H x c/\∀j u,c[j]? = some u->IW H (A.add (i * 7+j))=some u:=by
   intro n
   induction n with
   | zero=>exact⟨0,fun i x hi=>absurd hi (Nat.not_lt_zero i)⟩
   | succ n ih=>
    obtain⟨d,hd⟩:=ih
    by_cases hl:l=[]
    ·exact⟨0,fun i x _ hn=>absurd hl hn⟩
    cases hx:l[n]? with
    | none=>
     refine⟨d,fun i x hi hn he=>?_⟩
     rcases Qjf.1 hi with hi | rfl
     ·exact hd i x hi hn he
     ·rw[hx]at he
      cases he
    | some y=>
     obtain⟨c,⟨e,hc⟩,hcell⟩:=(g A Z hl).2 n y hx;refine⟨max d e,fun i x hi hn he=>?_⟩
     rcases Qjf.1 hi with hi | rfl
     ·obtain⟨c',k,m⟩:=hd i x hi hn he;exact⟨c',Rp.Yp (Nat.le_max_left ..) k,m⟩
     ·rw[hx]at he
      cases he
      exact⟨c,Rp.Yp (Nat.le_max_right ..) hc,hcell⟩
  obtain⟨d,hd⟩:=key l.length;refine⟨d,some A,cap,b,h2,h3,f,fun B hB hl=>?_⟩
  cases hB
  refine⟨(g A Z hl).1,fun i x hx=>?_⟩;rw[Rp.P4];exact hd i x (Qz6.1 hx).1 hl hx
theorem Rp.Aa0{H:PH}{x:Qv}{c:Qq6}(h:(Rp.TD Rp.Cy).rel H x.f c):Rp.Cy.rel H x c:=by
 obtain⟨c1,c2,g,i,c3,c4,j,h2,c5,c6,k,h3,c7,c8,l,m,n,a,o,p,b,e,q,r,v,s,t⟩:=h;obtain⟨d,hd⟩:=t.AjN;exact⟨d+1,c1,c2,g,i,c3,c4,j,h2,c5,c6,k,h3,c7,c8,l,m,n,a,o,p,b,e,q,r,v,s,hd⟩
end Go.E
end
noncomputable section
namespace Go
abbrev Al5:=Qq7
end Go
namespace Go.Proofs.YtopocbcekabkoaaGreatDoor
open Go Go.E Go.RowKit Go.L
set_option maxHeartbeats 1000000
set_option maxRecDepth 10000
open _root_.Go.Proofs.Tryz
def Ew(a0 a1 a2:Int):Option Bool:=
 some (decide ((a1<=a0)/\(a0<=a2)))
section
variable(w:World)(H:PH)(hH:Le H (hp w)) include hH
theorem D0{a0 a1 a2:Int}{r:Bool}(h:Ew a0 a1 a2=some r):
  Qqv 11 [No a0,No a1,No a2] w (fun v w'=>v=.bool r):=by
 refine A4 15 [(0,No a0),(1,No a1),(2,No a2)] func11 Z fun hL=>A7 1 Z<|Bo 4 Z<|Ns 3 3 Z Z Z Z Z Z<|AA 1 Z<|Aw ?_
 cases h
 refine Ah Z ⟨hL.ext,Z⟩
def N4(a0 a1:Int):Option Al5:=
 some ((a0,a1))
theorem Jn{a0 a1:Int}{r:Al5}(h:N4 a0 a1=some r):
  Qqv 26 [No a0,No a1] w (fun v w'=>v=.agg #[No r.1,No r.2]):=by
 refine A4 8 [(0,No a0),(1,No a1)] func26 Z fun hL=>Ao<|AO AI.e Z hL fun e f b c _=>Ad<|Bo 2 Z<|Ag (Ba (fun _=>JI _ _ _))<|Ak 0 Z b Z fun g a d=>Ad<|Aw ?_
 cases h
 refine BX (.cell Z Ae3 Z AI.e (AP (i:=0) a Z)) ⟨a.ext,Z⟩
def Qg:Option Bool:=
 some true
def My(a0:Qq5)(a1:Qq5):Int->Option ((Int)⊕(Bool)):=fun a=>
 if a<(a0.length:Int)then AU (0<=a/\a<(a0.length:Int)) (AU (0<=a/\a<(a1.length:Int)) (if a0.getD a.toNat Qq2=a1.getD a.toNat Qq2 then AU (Bq (a+1)) (some (Sum.inl (a+1)))else Qzx Sum.inr (some false)))else Qzx Sum.inr Qg
def TE(a0:Qq5)(a1:Qq5)(s:Int):Option Bool:=Go.L.run (My a0 a1) s
def KY(a0:Qq5)(a1:Qq5):Option Bool:=
 if(a0.length:Int)=(a1.length:Int)then(TE a0 a1) (0:Int)else some false
theorem Lm{a0 a1:Qq5}{b c:Value}(d:AS (.int .i64) H b a0)(g:AS (.int .i64) H c a1){r:Bool}(h:KY a0 a1=some r):
  Qqv 7 [b,c] w (fun v w'=>v=.bool r):=by
 refine A4 26 [(0,b),(1,c)] func7 Z fun hL=>A7 1 Z<|A6<|Bo 1 Z<|Ag (AZ d)<|As 1 Z<|Ag (AZ g)<|AA 1 Z<|BG h ?_ ?_<;>intro aa h
 ·refine A7 1 Z<|Aw<|Am ?_
  cases h
  refine Ah Z ⟨hL.ext,Z⟩
 refine Au<|Aq<|Bb Unit (fun(_:Unit)=>[]) (fun(_:Unit) wr=>Bk w [] wr/\Qg=some r) ?_ ?_
 ·refine A7 1 Z<|A2 ?_;obtain⟨i,h⟩:=AR h;refine Bj (Int×Nat) (fun⟨a,n⟩=>[(0,b),(1,c),(5,No a)]) (fun⟨a,n⟩ wr=>Bk w [] wr/\DR (My a0 a1) n a=some r) (fun⟨a,n⟩=>n) (0,i) Z ⟨hL,h⟩ ?_;rintro⟨a,nn57⟩ ab ⟨j,h⟩;obtain⟨i,ad,rfl,h,e⟩:=AQ h;refine A6<|Bo 2 Z<|Ag (AZ d)<|AA 1 Z<|AL h ?_ ?_<;>intro o h
  ·refine Au<|Aq<|A6<|A2<|BZ (Qqz 0 9 (.tail 9)) mixed Qqb (fun ae p=>?_);have f:=j.call p;refine B9 2 Z<|Ax h fun k h=>CP Z Z Z Aco d a.toNat (Cx k) (AM k) Z ?_;rintro af _ rfl s;refine B2 Z (AT s (hH.trans f.arg)) Z<|B9 2 Z<|Ax h fun l h=>CP Z Z Z Aco g a.toNat (Cx l) (AM l) Z ?_;rintro ag _ rfl t;refine B2 Z (AT t (hH.trans f.arg)) Z<|B9 1 Z<|Bt (fun ah u=>?_);have m:=f.call u;refine Ad<|BG h ?_ ?_<;>intro x h
   ·refine A7 1 Z<|Aw<|Al<|Am<|Bc ?_;have h:=Bw.out h e;refine Al<|AN ?_
    cases h
    refine Ah Z ⟨m.ext,Z⟩
   refine Au<|Az<|Aq<|An<|As 1 Z<|Ax h fun y h=>Ag (Ay y)<|As 1 Z<|AE ?_;have h:=Bw.again h e;refine AD (_,_) Z ⟨m,h⟩
  refine Bf<|A5<|A3 ?_;have h:=Bw.out h e;refine AY<|A8 () ⟨j,h⟩
 rintro _ ac ⟨z,h⟩;refine A7 1 Z<|Aw ?_
 cases h
 refine Ah Z ⟨z.ext,Z⟩
def Ru(a0:Abv)(a1:Abv):Option Bool:=
 some (decide (a0=a1))
theorem TF{a0 a1:Abv}{a b:Value}(c:AS .byte H a a0)(d:AS .byte H b a1){r:Bool}(h:Ru a0 a1=some r):
  Qqv 107 [a,b] w (fun v w'=>v=.bool r):=by
 refine A4 10 [(0,a),(1,b)] func107 Z fun hL=>A7 1 Z<|Bo 1 Z<|Ag (NS c (hH.trans hL.arg))<|As 1 Z<|Ag (NS d (hH.trans hL.arg))<|Ag (Kj Z Z)<|AA 1 Z<|Aw ?_
 cases h
 refine Ah Z ⟨hL.ext,Z⟩
def IA(a0:Int):Option UInt8:=
 if a0<10 then AU (Bq (48+a0)) (some ((Go.L.u8 (48+a0))))else AU (Bq (97+a0)) (AU (Bq ((97+a0) - 10)) (some ((Go.L.u8 ((97+a0) - 10)))))
theorem P5{a0:Int}{r:UInt8}(h:IA a0=some r):
  Qqv 105 [No a0] w (fun v w'=>v=.int .u8 (r.toNat:Int)):=by
 refine A4 12 [(0,No a0)] func105 Z fun hL=>A7 1 Z<|A6<|A7 2 Z<|AL h ?_ ?_<;>intro a h
 ·refine Bo 1 Z<|Ax h fun b h=>Ag (Ay b)<|Ag (Gn (KK _))<|AA 1 Z<|Aw<|Am ?_
  cases h
  refine Ah Z ⟨hL.ext,Z⟩
 refine Au<|Aq<|Bo 1 Z<|Ax h fun c h=>Ag (Ay c)<|Ax h fun d h=>Ag (Ay d)<|Ag (Gn (KK _))<|AA 1 Z<|Aw ?_
 cases h
 refine Ah Z ⟨hL.ext,Z⟩
def NZ(a0:Abv):Option Bool:=
 Qq9 (Ew (a0.length:Int) (1:Int) (32:Int)) (fun a=>some a)
def Dk(a0:Abv):Int->Option ((Int)⊕(Bool)):=fun a=>
 if a<(a0.length:Int)then AU (0<=a/\a<(a0.length:Int)) (Qq9 (Ew ((a0.getD a.toNat Qq2).toNat:Int) (97:Int) (122:Int)) (fun b=>if !b then if a=0 then Qzx Sum.inr (some false)else Qq9 (Ew ((a0.getD a.toNat Qq2).toNat:Int) (48:Int) (57:Int)) (fun c=>if !c then if((a0.getD a.toNat Qq2).toNat:Int)=45 then AU (Bq (a+1)) (some (Sum.inl (a+1)))else if((a0.getD a.toNat Qq2).toNat:Int)=95 then AU (Bq (a+1)) (some (Sum.inl (a+1)))else if((a0.getD a.toNat Qq2).toNat:Int)=46 then AU (Bq (a+1)) (some (Sum.inl (a+1)))else Qzx Sum.inr (some false)else AU (Bq (a+1)) (some (Sum.inl (a+1))))else AU (Bq (a+1)) (some (Sum.inl (a+1)))))else Qzx Sum.inr ((NZ a0))
def Rv(a0:Abv)(s:Int):Option Bool:=Go.L.run (Dk a0) s
def OH(a0:Abv):Option Bool:=
 (Rv a0) (0:Int)
theorem WH{a0:Abv}{r:Bool}(h:OH a0=some r):
  Qqv 199 [Abu a0] w (fun v w'=>v=.bool r):=by
 refine A4 42 [(0,(Abu a0))] func199 Z fun hL=>A7 1 Z<|Bb Unit (fun(_:Unit)=>[(0,(Abu a0))]) (fun(_:Unit) wr=>Bk w [] wr/\(NZ a0)=some r) ?_ ?_
 ·refine A7 1 Z<|A2 ?_;obtain⟨i,h⟩:=AR h;refine Bj (Int×Nat) (fun⟨c,n⟩=>[(0,(Abu a0)),(3,No c)]) (fun⟨c,n⟩ wr=>Bk w [] wr/\DR (Dk a0) n c=some r) (fun⟨c,n⟩=>n) (0,i) Z ⟨hL,h⟩ ?_;rintro⟨c,nn102⟩ ag ⟨l,h⟩;obtain⟨i,ak,rfl,h,d⟩:=AQ h;refine A6<|Bo 2 Z<|Ag (Gq Z)<|AA 1 Z<|AL h ?_ ?_<;>intro o h
  ·refine Au<|Aq<|A6<|A2<|Bo 2 Z<|Ax h fun p h=>Ag (Na p)<|Ag (Gn (Hz _))<|AA 1 Z<|Bo 1 Z<|A1 h fun al q h=>A9 l (D0 _ _ (Av l) q) fun am ah k ad=>As 2 Z<|Cv 18 h ?_ ?_<;>intro b h
   ·refine Aa b<|Ag (Ai Z)<|Aa b<|Ag (Ai Z)<|Aa b<|Ag (Ai Z)<|Bz 21 h ?_ ?_<;>intro a h
    ·iterate 4 refine Ar a ?_
     iterate 2 refine BS ?_
     iterate 2 refine Ar a ?_
     iterate 2 refine BS ?_
     iterate 2 refine Ar a ?_
     iterate 2 refine BS ?_
     refine Ar a<|Aa b<|Ag (AF a Z)<|Ag (AF b Z)<|Ad<|DS<|A7 1 Z<|Aw<|Al<|Am<|Bc ?_;have h:=Bw.out h d;refine Al<|AN ?_
     cases h
     refine Ah Z ⟨k.ext,Z⟩
    refine Aa a<|Ag (Ai Z)<|Aa a<|A1 h fun an s h=>A9 k (D0 _ _ (Av k) s) fun ao ai j ae=>Aa a<|Ag (Ai Z)<|Aa a<|Ag (Ai Z)<|Cv 25 h ?_ ?_<;>intro e h
    ·refine Aa e<|Ag (Ai Z)<|Aa e<|Ag (Ai Z)<|Aa a<|Ag (AF e Z)<|Aa a<|Ag (Ai Z)<|Et 29 h ?_ ?_<;>intro f h
     ·refine Aa f<|Ag (Ai Z)<|Aa f<|Ag (Ai Z)<|Aa a<|Ag (AF f Z)<|Aa a<|Ag (Ai Z)<|Et 33 h ?_ ?_<;>intro g h
      ·refine Aa g<|Ag (Ai Z)<|Aa g<|Ag (Ai Z)<|Aa a<|Ag (AF g Z)<|Aa b<|Ag (AG a Z)<|Ag (AF b Z)<|Ad<|BG h ?_ ?_<;>intro t h
       ·refine A7 1 Z<|Aw<|Al<|Am<|Bc ?_;have h:=Bw.out h d;refine Al<|AN ?_
        cases h
        refine Ah Z ⟨j.ext,Z⟩
       refine Au<|Az<|Aq<|An<|As 1 Z<|Ax h fun u h=>Ag (Ay u)<|As 1 Z<|AE ?_;have h:=Bw.again h d;refine AD (_,_) Z ⟨j,h⟩
      iterate 2 refine Ar g ?_
      refine Aa a<|Ag (AG g Z)<|Aa b<|Ag (AG a Z)<|Ag (AF b Z)<|Ad<|Co<|Au<|Az<|Aq<|An<|As 1 Z<|Ax h fun x h=>Ag (Ay x)<|As 1 Z<|AE ?_;have h:=Bw.again h d;refine AD (_,_) Z ⟨j,h⟩
     iterate 2 refine Ar f ?_
     refine Aa a<|Ag (AG f Z)<|Aa a<|Ag (Ai Z) ?_
     iterate 2 refine Ar Z ?_
     refine Aa a<|Ag (AG Z Z)<|Aa b<|Ag (AG a Z)<|Ag (AF b Z)<|Ad<|Co<|Au<|Az<|Aq<|An<|As 1 Z<|Ax h fun y h=>Ag (Ay y)<|As 1 Z<|AE ?_;have h:=Bw.again h d;refine AD (_,_) Z ⟨j,h⟩
    iterate 2 refine Ar e ?_
    refine Aa a<|Ag (AG e Z)<|Aa a<|Ag (Ai Z) ?_
    iterate 2 refine Ar Z ?_
    refine Aa a<|Ag (AG Z Z)<|Aa a<|Ag (Ai Z) ?_
    iterate 2 refine Ar Z ?_
    refine Aa a<|Ag (AG Z Z)<|Aa b<|Ag (AG a Z)<|Ag (AF b Z)<|Ad<|Co<|Au<|Az<|Aq<|An<|As 1 Z<|Ax h fun z h=>Ag (Ay z)<|As 1 Z<|AE ?_;have h:=Bw.again h d;refine AD (_,_) Z ⟨j,h⟩
   iterate 3 refine Ar b ?_
   iterate 15 refine BS ?_
   refine Ar b<|Ag (AG b Z)<|Ad<|Co<|Au<|Az<|Aq<|An<|As 1 Z<|Ax h fun aa h=>Ag (Ay aa)<|As 1 Z<|AE ?_;have h:=Bw.again h d;refine AD (_,_) Z ⟨k,h⟩
  refine Bf<|A5<|A3 ?_;have h:=Bw.out h d;refine AY<|A8 () ⟨l,h⟩
 rintro _ ap ⟨m,h⟩;refine Bo 1 Z<|Ag (Gq Z)<|A1 h fun aq ab h=>A9 m (D0 _ _ (Av m) ab) fun ar aj ac af=>AA 1 Z<|Aw ?_
 cases h
 refine Ah Z ⟨ac.ext,Z⟩
def SG(a:List Abv):Option ((List Abv)):=
 some a
def DD(a0:Abv):(List Abv)×Int×Int->Option (((List Abv)×Int×Int)⊕((List Abv))):=fun⟨c,b,a⟩=>
 if a<=(a0.length:Int)then(if a=(a0.length:Int)then AU (0<=b/\b<=a/\a<=(a0.length:Int)) (AU (Go.E.Fz 16 (c.length+([((a0.drop b.toNat).take (a.toNat - b.toNat))]).length)) (AU (Bq (a+1)) (AU (Bq (a+1)) (some (Sum.inl ((c++[((a0.drop b.toNat).take (a.toNat - b.toNat))]),(a+1),(a+1)))))))else AU (0<=a/\a<(a0.length:Int)) (if((a0.getD a.toNat Qq2).toNat:Int)=47 then AU (0<=b/\b<=a/\a<=(a0.length:Int)) (AU (Go.E.Fz 16 (c.length+([((a0.drop b.toNat).take (a.toNat - b.toNat))]).length)) (AU (Bq (a+1)) (AU (Bq (a+1)) (some (Sum.inl ((c++[((a0.drop b.toNat).take (a.toNat - b.toNat))]),(a+1),(a+1)))))))else AU (Bq (a+1)) (some (Sum.inl (c,b,(a+1))))))else Qzx Sum.inr (SG c)
def XN(a0:Abv)(s:(List Abv)×Int×Int):Option ((List Abv)):=Go.L.run (DD a0) s
def Mf(a0:Abv):Option ((List Abv)):=
 if a0=([]:Abv)then some ([])else(XN a0) (([]:List Abv),0,0)
theorem OY{a0:Abv}{r:(List Abv)}(h:Mf a0=some r):
  Qqv 108 [Abu a0] w (fun v w'=>∃u0,v=u0/\Cd 9 .st H w w' u0 r):=by
 refine A4 34 [(0,(Abu a0))] func108 Z fun hL=>A7 1 Z<|A6<|Bo 1 Z<|Ag (Kj Z Z)<|Ad<|AL h ?_ ?_<;>intro a1 h
 ·refine A7 1 Z<|Aw<|Am ?_
  cases h
  refine Ah Z ⟨hL.ext,_,Z,Cd.nil⟩
 refine Au<|Aq<|Bo 1 Z ?_;obtain⟨a2,a8,a3⟩:=Cp .st H 9 hL;refine Ad<|A7 1 Z<|Bb ((List Abv)×Value×Qq6) (fun⟨q,k,j⟩=>[(3,k)]) (fun⟨q,k,j⟩ wr=>C5 w [.row k 9 1 (q).length j] wr fun Oz=>AK .st (gz H w wr Oz) q j/\SG q=some r) ?_ ?_
 ·refine A7 1 Z<|A2 ?_;obtain⟨s,h⟩:=AR h;refine Bj ((List Abv)×Int×Int×Value×Qq6×Nat) (fun⟨e,a,b,g,d,n⟩=>[(0,(Abu a0)),(3,g),(4,No a),(5,No b)]) (fun⟨e,a,b,g,d,n⟩ wr=>C5 w [.row g 9 1 (e).length d] wr fun Oz=>AK .st (gz H w wr Oz) e d/\DR (DD a0) n (e,a,b)=some r) (fun⟨e,a,b,g,d,n⟩=>n) (([]:List Abv),0,0,Aal,[],s) Z ⟨a2,a3,h⟩ ?_;rintro⟨e,a,b,g,d,nn93⟩ a9 ⟨o,c,h⟩;obtain⟨s,bh,rfl,h,p⟩:=AQ h;refine A6<|Bo 2 Z<|Ag (Gq Z)<|AA 1 Z<|AL h ?_ ?_<;>intro aw h
  ·refine Au<|Aq<|A6<|A2<|Bo 2 Z<|Ag (Gq Z)<|As 2 Z<|Bz 18 h ?_ ?_<;>intro f h
   ·iterate 4 refine Ar f ?_
    refine Ag (AF f Z)<|Ad<|DS<|Bo 4 Z<|Ax h fun y h=>Ag (Afm y)<|Bx [((a0.drop a.toNat).take (b.toNat - a.toNat))] (r:=.st) (fun _=>Mw _ Z _) o (.c1 Z .nil) fun ba bb a6 z t aa=>Ax h fun ab h=>?_;have c:=c.mono (Ab t);refine Bp (r:=.st) 0 e [((a0.drop a.toNat).take (b.toNat - a.toNat))] Z Ae5 z Z c aa ab fun ax bc ac ad a4 ae=>AA 1 Z<|An<|As 1 Z<|Ax h fun af h=>Ag (Ay af)<|As 1 Z<|AE<|Az<|Aq<|An<|As 1 Z<|Ax h fun ag h=>Ag (Ay ag)<|As 1 Z<|AE ?_;have h:=Bw.again h p;refine AD ((e++[((a0.drop a.toNat).take (b.toNat - a.toNat))]),(b+1),(b+1),ax,ac,s) Z ⟨ad,ae,h⟩
   refine Aa f<|Ag (Ai Z)<|Aa f<|Ag (Ai Z)<|Aa f<|Ax h fun ah h=>Ag (Na ah)<|Aa f<|Ag (Ai Z)<|Ag (AG f Z)<|Ad<|AL h ?_ ?_<;>intro ai h
   ·refine Bo 4 Z<|Ax h fun aj h=>Ag (Afm aj)<|Bx [((a0.drop a.toNat).take (b.toNat - a.toNat))] (r:=.st) (fun _=>Mw _ Z _) o (.c1 Z .nil) fun bd be a7 ak u al=>Ax h fun am h=>?_;have c:=c.mono (Ab u);refine Bp (r:=.st) 0 e [((a0.drop a.toNat).take (b.toNat - a.toNat))] Z Ae5 ak Z c al am fun ay bf an ao a5 ap=>AA 1 Z<|An<|As 1 Z<|Ax h fun aq h=>Ag (Ay aq)<|As 1 Z<|AE<|Az<|Aq<|An<|As 1 Z<|Ax h fun ar h=>Ag (Ay ar)<|As 1 Z<|AE ?_;have h:=Bw.again h p;refine AD ((e++[((a0.drop a.toNat).take (b.toNat - a.toNat))]),(b+1),(b+1),ay,an,s) Z ⟨ao,ap,h⟩
   refine Au<|Az<|Aq<|An<|As 1 Z<|Ax h fun au h=>Ag (Ay au)<|As 1 Z<|AE ?_;have h:=Bw.again h p;refine AD (e,a,(b+1),g,d,s) Z ⟨o,c,h⟩
  refine Bf<|A5<|A3 ?_;have h:=Bw.out h p;refine AY<|A8 (_,_,_) ⟨o,c,h⟩
 rintro⟨q,k,j⟩ bg ⟨x,av,h⟩;refine A7 2 Z<|Aw ?_
 cases h
 refine Ah Z ⟨x.ext,_,Z,(x.FV hH (i:=0) Z av)⟩
def SH:Option Int:=
 some ((-1))
def Gs(a1:Bool)(c:(List Abv)):Int×Int->Option (Qq7⊕(Int)):=fun⟨b,a⟩=>
 if a<(c.length:Int)then AU (0<=a/\a<(c.length:Int)) (Qq9 (OH (c.getD a.toNat Qq2)) (fun d=>if !d then AU (0<=a/\a<(c.length:Int)) (if c.getD a.toNat Qq2=([35]:Abv)then AU (0<=a/\a<(c.length:Int)) (AU (Bq (b+((c.getD a.toNat Qq2).length:Int))) (AU (Bq ((b+((c.getD a.toNat Qq2).length:Int))+1)) (AU (Bq (a+1)) (some (Sum.inl (((b+((c.getD a.toNat Qq2).length:Int))+1),(a+1)))))))else if a1 then AU (0<=a/\a<(c.length:Int)) (if c.getD a.toNat Qq2=([42]:Abv)then AU (0<=a/\a<(c.length:Int)) (AU (Bq (b+((c.getD a.toNat Qq2).length:Int))) (AU (Bq ((b+((c.getD a.toNat Qq2).length:Int))+1)) (AU (Bq (a+1)) (some (Sum.inl (((b+((c.getD a.toNat Qq2).length:Int))+1),(a+1)))))))else AU (0<=a/\a<(c.length:Int)) (if c.getD a.toNat Qq2=([42,42]:Abv)then AU (0<=a/\a<(c.length:Int)) (AU (Bq (b+((c.getD a.toNat Qq2).length:Int))) (AU (Bq ((b+((c.getD a.toNat Qq2).length:Int))+1)) (AU (Bq (a+1)) (some (Sum.inl (((b+((c.getD a.toNat Qq2).length:Int))+1),(a+1)))))))else Qzx Sum.inr (some b)))else Qzx Sum.inr (some b))else AU (0<=a/\a<(c.length:Int)) (AU (Bq (b+((c.getD a.toNat Qq2).length:Int))) (AU (Bq ((b+((c.getD a.toNat Qq2).length:Int))+1)) (AU (Bq (a+1)) (some (Sum.inl (((b+((c.getD a.toNat Qq2).length:Int))+1),(a+1)))))))))else Qzx Sum.inr SH
def XO(a1:Bool)(a:(List Abv))(s:Int×Int):Option Int:=Go.L.run (Gs a1 a) s
def Oa(a0:Abv)(a1:Bool):Option Int:=
 Qq9 (Mf a0) (fun a=>(XO a1 a) (0,0))
theorem SI{a0:Abv}{a1:Bool}{r:Int}(h:Oa a0 a1=some r):
  Qqv 156 [Abu a0,.bool a1] w (fun v w'=>v=No r):=by
 refine A4 56 [(0,(Abu a0)),(1,.bool a1)] func156 Z fun hL=>A7 1 Z<|Bo 1 Z<|A1 h fun z a5 h=>Br hL (OY _ _ (Av hL) a5) ?_;rintro aa w2 ⟨_,rfl,ab⟩ a6 a7 bb;have ac:=ab.Cu hH hL a6;refine AA 1 Z<|A7 1 Z<|Bb Unit (fun(_:Unit)=>[]) (fun(_:Unit) wr=>Bk w [] wr/\SH=some r) ?_ ?_
 ·refine A7 1 Z<|A2 ?_;obtain⟨k,h⟩:=AR h;refine Bj (Int×Int×Nat) (fun⟨f,a,n⟩=>[(1,.bool a1),(5,aa),(6,No f),(7,No a)]) (fun⟨f,a,n⟩ wr=>C5 w [] wr fun Oz=>AS .st (gz H w wr Oz) aa z/\DR (Gs a1 z) n (f,a)=some r) (fun⟨f,a,n⟩=>n) (0,0,k) Z ⟨a7,ac,h⟩ ?_;rintro⟨f,a,nn157⟩ a8 ⟨l,b,h⟩;obtain⟨k,bc,rfl,h,j⟩:=AQ h;refine A6<|Bo 2 Z<|Ag (AZ b)<|AA 1 Z<|AL h ?_ ?_<;>intro ad h
  ·refine Au<|Aq<|A6<|A2<|A6<|Bo 2 Z<|Ax h fun o h=>AW b a.toNat (Cx o) (AM o) ?_;rintro bd _ rfl ae;refine Ag (AT ae (Av l))<|A1 h fun be af h=>A9 l (WH _ _ (Av l) af) fun bf a9 e m=>As 2 Z<|Cv 22 h ?_ ?_<;>intro g h
   ·refine Aa g<|Ag (Ai Z)<|Aa g<|Ag (Ai Z)<|Aa g<|Ax h fun p h=>?_;have b:=b.mono (Ab m);refine AW b a.toNat (Cx p) (AM p) ?_;rintro bg _ rfl ag;refine Aa g<|Ag (AT ag (Av e))<|Aa g<|Ag (Rn Z Z)<|Ag (AF g Z)<|As 1 Z<|Et 29 h ?_ ?_<;>intro c h
    ·refine Aa c<|Ag (Ai Z)<|Aa c<|Ag (Ai Z)<|Cv 31 h ?_ ?_<;>intro d h
     ·refine Aa d<|Ag (Ai Z)<|Aa d<|Ag (Ai Z)<|Aa d<|Ax h fun q h=>AW b a.toNat (Cx q) (AM q) ?_;rintro bh _ rfl ah;refine Aa d<|Ag (AT ah (Av e))<|Aa d<|Ag (Kj Z Z)<|Aa d<|Ag (Ai Z)<|Bz 37 h ?_ ?_<;>intro i h
      ·iterate 5 refine Ar i ?_
       refine Aa d<|Ag (AF i Z)<|Aa c<|Ag (AF d Z)<|Aa c<|Ag (Ai Z)<|Ag (AF c Z)<|Ad<|Co<|Au<|Aq<|An<|As 3 Z<|Ax h fun s h=>AW b a.toNat (Cx s) (AM s) ?_;rintro bi _ rfl ai;refine Ag (AT ai (Av e))<|Ag (Gq Z)<|Ax h fun aj h=>Ag (Ay aj)<|Ax h fun ak h=>Ag (Ay ak)<|As 1 Z<|AE<|Az<|Aq<|An<|As 1 Z<|Ax h fun al h=>Ag (Ay al)<|As 1 Z<|AE ?_;have h:=Bw.again h j;refine AD (_,_,_) Z ⟨e,b,h⟩
      refine Aa i<|Ag (Ai Z)<|Aa i<|Ag (Ai Z)<|Aa i<|Ax h fun t h=>AW b a.toNat (Cx t) (AM t) ?_;rintro bj _ rfl am;refine Aa i<|Ag (AT am (Av e))<|Aa i<|Ag (Kj Z Z)<|Aa d<|Ag (AG i Z)<|Aa c<|Ag (AF d Z)<|Aa c<|Ag (Ai Z)<|Ag (AF c Z)<|Ad<|BG h ?_ ?_<;>intro an h
      ·refine A7 2 Z<|Aw<|Am<|Al<|Am<|Bc ?_;have h:=Bw.out h j;refine Al<|AN ?_
       cases h
       refine Ah Z ⟨e.ext,Z⟩
      refine Au<|Aq<|An<|As 3 Z<|Ax h fun u h=>AW b a.toNat (Cx u) (AM u) ?_;rintro bk _ rfl ao;refine Ag (AT ao (Av e))<|Ag (Gq Z)<|Ax h fun ap h=>Ag (Ay ap)<|Ax h fun aq h=>Ag (Ay aq)<|As 1 Z<|AE<|Az<|Aq<|An<|As 1 Z<|Ax h fun ar h=>Ag (Ay ar)<|As 1 Z<|AE ?_;have h:=Bw.again h j;refine AD (_,_,_) Z ⟨e,b,h⟩
     iterate 6 refine Ar d ?_
     iterate 5 refine BS ?_
     refine Ar d<|Aa c<|Ag (AG d Z)<|Aa c<|Ag (Ai Z)<|Ag (AF c Z)<|Ad<|DS<|A7 2 Z<|Aw<|Am<|Al<|Am<|Bc ?_;have h:=Bw.out h j;refine Al<|AN ?_
     cases h
     refine Ah Z ⟨e.ext,Z⟩
    iterate 2 refine Ar c ?_
    iterate 12 refine BS ?_
    iterate 2 refine Ar c ?_
    refine Ag (AG c Z)<|Ad<|Co<|Au<|Aq<|An<|As 3 Z<|Ax h fun x h=>AW b a.toNat (Cx x) (AM x) ?_;rintro bl _ rfl au;refine Ag (AT au (Av e))<|Ag (Gq Z)<|Ax h fun av h=>Ag (Ay av)<|Ax h fun aw h=>Ag (Ay aw)<|As 1 Z<|AE<|Az<|Aq<|An<|As 1 Z<|Ax h fun ax h=>Ag (Ay ax)<|As 1 Z<|AE ?_;have h:=Bw.again h j;refine AD (_,_,_) Z ⟨e,b,h⟩
   iterate 5 refine Ar g ?_
   refine Ag (AG g Z)<|As 1 Z ?_
   iterate 2 refine Ar Z ?_
   iterate 12 refine BS ?_
   iterate 2 refine Ar Z ?_
   refine Ag (AG Z Z)<|Ad<|Co<|Au<|Aq<|An<|As 3 Z<|Ax h fun y h=>?_;have b:=b.mono (Ab m);refine AW b a.toNat (Cx y) (AM y) ?_;rintro bm _ rfl ay;refine Ag (AT ay (Av e))<|Ag (Gq Z)<|Ax h fun az h=>Ag (Ay az)<|Ax h fun a2 h=>Ag (Ay a2)<|As 1 Z<|AE<|Az<|Aq<|An<|As 1 Z<|Ax h fun a3 h=>Ag (Ay a3)<|As 1 Z<|AE ?_;have h:=Bw.again h j;refine AD (_,_,_) Z ⟨e,b,h⟩
  refine Bf<|A5<|A3 ?_;have h:=Bw.out h j;refine AY<|A8 () ⟨l,h⟩
 rintro _ ba ⟨a4,h⟩;refine A7 1 Z<|Aw ?_
 cases h
 refine Ah Z ⟨a4.ext,Z⟩
def IY(a0:Abv):Option Al5:=
 if 64<(a0.length:Int)then Qq9 (N4 (3:Int) (-1:Int)) (fun b=>some ((b.1,b.2)))else Qq9 (Oa a0 true) (fun d=>if 0<=d then Qq9 (Oa a0 true) (fun c=>Qq9 (N4 (1:Int) c) (fun a=>some ((a.1,a.2))))else some ((0,0)))
theorem Rw{a0:Abv}{r:Al5}(h:IY a0=some r):
  Qqv 104 [Abu a0] w (fun v w'=>v=.agg #[No r.1,No r.2]):=by
 refine A4 14 [(0,(Abu a0))] func104 Z fun hL=>Ao<|AO AI.e Z hL fun w1 b1 a y _=>Ad<|A6<|Bo 1 Z<|Ag (Gq Z)<|AA 1 Z<|AL h ?_ ?_<;>intro m h
 ·refine Ao<|A1 h fun x4 o h=>A9 a (Jn _ _ (Av a) o) fun w5 ae p z=>Ak 0 Z p Z fun w6 f aa=>Ad<|Aw<|Am ?_
  cases h
  refine BX (.cell Z Ae3 Z AI.e (AP (i:=0) f Z)) ⟨f.ext,Z⟩
 refine Au<|Aq<|A6<|Bo 1 Z<|A1 h fun x8 q h=>A9 a (SI _ _ (Av a) q) fun w9 af b ab=>AA 1 Z<|AL h ?_ ?_<;>intro g h
 ·refine Bo 1 Z<|A1 h fun ag j h=>A9 b (SI _ _ (Av b) j) fun ah ac c s=>A1 h fun ai k h=>A9 c (Jn _ _ (Av c) k) fun aj ad l t=>Ak 0 Z l Z fun ak d u=>Ad<|Aw<|Am ?_
  cases h
  refine BX (.cell Z Ae3 Z AI.e (AP (i:=0) d Z)) ⟨d.ext,Z⟩
 refine Au<|Aq<|Ao<|Ag (Ba (fun _=>B8 _))<|Ak 0 Z b Z fun al e x=>Ad<|Aw ?_
 cases h
 refine BX (.cell Z Ae3 Z AI.e (AP (i:=0) e Z)) ⟨e.ext,Z⟩
end
def Ln:Option Bool:=
 some false
def DU(a0:List Abv)(a1:List Abv)(self:(List Abv)->(List Abv)->Option Bool):Int->Option ((Int)⊕(Bool)):=fun a=>
 if a<=(a1.length:Int)then AU (0<=(1:Int)/\(1:Int)<=(a0.length:Int)) (AU (0<=a/\a<=(a1.length:Int)) (Qq9 (self (a0.drop (1:Int).toNat) (a1.drop a.toNat)) (fun b=>if b then Qzx Sum.inr (some true)else AU (Bq (a+1)) (some (Sum.inl (a+1))))))else Qzx Sum.inr Ln
def TG(a0:List Abv)(a1:List Abv)(self:(List Abv)->(List Abv)->Option Bool)(s:Int):Option Bool:=Go.L.run (DU a0 a1 self) s
def Lo(a0:List Abv)(a1:List Abv)(self:(List Abv)->(List Abv)->Option Bool):Option Bool:=
 if 0<(a1.length:Int)then AU (0<=(0:Int)/\(0:Int)<(a0.length:Int)) (if a0.getD ((0:Int).toNat) Qq2=([42]:Abv)then AU (0<=(1:Int)/\(1:Int)<=(a0.length:Int)) (AU (0<=(1:Int)/\(1:Int)<=(a1.length:Int)) (Qq9 (self (a0.drop (1:Int).toNat) (a1.drop (1:Int).toNat)) (fun a=>some a)))else AU (0<=(0:Int)/\(0:Int)<(a0.length:Int)) (AU (0<=(0:Int)/\(0:Int)<(a1.length:Int)) (if a0.getD ((0:Int).toNat) Qq2=a1.getD ((0:Int).toNat) Qq2 then AU (0<=(1:Int)/\(1:Int)<=(a0.length:Int)) (AU (0<=(1:Int)/\(1:Int)<=(a1.length:Int)) (Qq9 (self (a0.drop (1:Int).toNat) (a1.drop (1:Int).toNat)) (fun b=>some b)))else some false)))else some false
def H5(self:(List Abv)->(List Abv)->Option Bool)(a0:List Abv)(a1:List Abv):Option Bool:=
 if(a0.length:Int)=0 then some (decide ((a1.length:Int)=0))else AU (0<=(0:Int)/\(0:Int)<(a0.length:Int)) (if a0.getD ((0:Int).toNat) Qq2=([42,42]:Abv)then(TG a0 a1 self) (0:Int)else(Lo a0 a1 self))
def MC(self:(List Abv)->(List Abv)->Option Bool):Prop:=∀(w:World) (H:PH) (hH:Le H (hp w)) {a0:List Abv}{a1:List Abv}{a:Value}{b:Value} (c:AS .st H a a0) (d:AS .st H b a1) {r:Bool} (h:self a0 a1=some r),Ok prog 109 [a,b] w (fun v w'=>Ext w w'/\v=.bool r)
def HI:Nat->(List Abv)->(List Abv)->Option Bool
 | 0=>fun _ _=>none
 | n+1=>H5 (HI n)
def U5:(List Abv)->(List Abv)->Option Bool:=HI 1000
theorem TH(self:(List Abv)->(List Abv)->Option Bool)(hself:MC self):MC (H5 self):=by
 intro w H hH a0 a1 k l f g r h;unfold MC at hself;refine A4 53 [(0,k),(1,l)] func109 Z fun hL=>A7 1 Z<|A6<|Bo 1 Z<|Ag (AZ f)<|AA 1 Z<|AL h ?_ ?_<;>intro bf h
 ·refine Bo 1 Z<|Ag (AZ g)<|AA 2 Z<|Aw<|Am ?_
  cases h
  refine Ah Z ⟨hL.ext,Z⟩
 refine Au<|Aq<|Bb Unit (fun(_:Unit)=>[(0,k),(1,l)]) (fun(_:Unit) wr=>Bk w [] wr/\(Lo a0 a1 self)=some r) ?_ ?_
 ·refine Bo 1 Z<|Ax h fun aa h=>AW f ((0:Int).toNat) (Cx aa) (AM aa) ?_;rintro b7 _ rfl bb;refine Ag (AT bb (hH.trans hL.arg))<|Ag (Kj Z Z)<|Ad<|AL h ?_ ?_<;>intro bc h
  ·refine Bb Unit (fun(_:Unit)=>[]) (fun(_:Unit) wr=>Bk w [] wr/\Ln=some r) ?_ ?_
   ·refine A7 1 Z<|A2 ?_;obtain⟨m,h⟩:=AR h;refine Bj (Int×Nat) (fun⟨e,n⟩=>[(0,k),(1,l),(5,No e)]) (fun⟨e,n⟩ wr=>Bk w [] wr/\DR (DU a0 a1 self) n e=some r) (fun⟨e,n⟩=>n) (0,m) Z ⟨hL,h⟩ ?_;rintro⟨e,nn113⟩ bg ⟨o,h⟩;obtain⟨m,bh,rfl,h,i⟩:=AQ h;refine A6<|Bo 2 Z<|Ag (AZ g)<|AA 1 Z<|AL h ?_ ?_<;>intro ab h
    ·refine Au<|Aq<|A6<|A2<|BZ (Qqz 0 6 (.tail 6)) mixed Qqb (fun bi ac=>?_);have j:=o.call ac;refine B9 1 Z<|Ax h fun ad h=>Px Z Z Ae5 f ad Z fun bj ae=>B9 2 Z<|Ax h fun af h=>Px Z Z Ae5 g af Z fun bk ag=>A1 h fun bl ah h=>Er Z Z Z (fun bm p=>hself _ _ (Le.refl _) ((ae.mono (hH.trans j.arg)).mono p.le) ((ag.mono (hH.trans j.arg)).mono p.le) ah)<|Bt (fun bn ai=>?_);have t:=j.call ai;refine Ad<|Bi h ?_ ?_<;>intro aj h
     ·refine A7 1 Z<|Aw<|Al<|Am<|Bc ?_;have h:=Bw.out h i;refine Al ?_
      iterate 2 refine AN ?_
      cases h
      refine Ah Z ⟨t.ext,Z⟩
     refine Au<|Az<|Aq<|An<|As 1 Z<|Ax h fun ak h=>Ag (Ay ak)<|As 1 Z<|AE ?_;have h:=Bw.again h i;refine AD (_,_) Z ⟨t,h⟩
    refine Bf<|A5<|A3 ?_;have h:=Bw.out h i;refine AY<|A8 () ⟨o,h⟩
   rintro _ bo ⟨bd,h⟩;refine A7 1 Z<|Aw<|AN ?_
   cases h
   refine Ah Z ⟨bd.ext,Z⟩
  refine Au<|A8 () ⟨hL,h⟩
 rintro _ bp ⟨be,h⟩;refine BZ (Qqz 0 26 (.tail 26)) mixed Qqb (fun bq al=>?_);have c:=be.call al;refine B9 1 Z<|B2 Z (AZ g) Z<|B9 2 Z<|HO 31 Z (fun a=>?_) (fun a=>?_)
 ·have h:=OD (of_decide_eq_true a) h;refine CM Z (Ai Z) Z Z Z a Z<|Ax h fun u h=>I2 Z Z Z Z a Z Z Ae5 f ((0:Int).toNat) (Cx u) (AM u) Z ?_;rintro br _ rfl am;refine CM Z (AT am (hH.trans c.arg)) Z Z Z a Z<|CM Z (Kj Z Z) Z Z Z a Z<|CM Z (Ai Z) Z Z Z a Z<|HO 36 Z (fun b=>?_) (fun b=>?_)
  ·have h:=OD (of_decide_eq_true b) h
   iterate 7 refine NP Z Z Z Z b Z ?_
   refine CM Z (AF b Z) Z Z Z a Z<|B2 Z (AF a Z) Z<|B9 1 Z<|CM Z (Ai Z) Z Z Z Z Z<|Ax h fun an h=>KV Z Z Z Ae5 f an Z fun bs ao=>CM Z (Ai Z) Z Z Z Z Z<|Ax h fun ap h=>KV Z Z Z Ae5 g ap Z fun bt aq=>A1 h fun bu ar h=>Sf Z Z Z Z Z Z Z (fun bv v=>hself _ _ (Le.refl _) ((ao.mono (hH.trans c.arg)).mono v.le) ((aq.mono (hH.trans c.arg)).mono v.le) ar)<|B2 Z (AF Z Z) Z<|B9 1 Z<|Bt (fun bw au=>?_);have av:=c.call au;refine Ad<|Aw ?_
   cases h
   refine Ah Z ⟨av.ext,Z⟩
  have h:=OE (of_decide_eq_false b) h;refine CM Z (Ai Z) Z Z Z b Z<|Ax h fun x h=>I2 Z Z Z Z b Z Z Ae5 f ((0:Int).toNat) (Cx x) (AM x) Z ?_;rintro bx _ rfl aw;refine CM Z (AT aw (hH.trans c.arg)) Z Z Z b Z<|CM Z (Ai Z) Z Z Z b Z<|Ax h fun y h=>I2 Z Z Z Z b Z Z Ae5 g ((0:Int).toNat) (Cx y) (AM y) Z ?_;rintro bz _ rfl ax;refine CM Z (AT ax (hH.trans c.arg)) Z Z Z b Z<|CM Z (Kj Z Z) Z Z Z b Z<|CM Z (AG b Z) Z Z Z a Z<|B2 Z (AF a Z) Z<|B9 1 Z<|HO 46 Z (fun d=>?_) (fun d=>?_)
  ·have h:=OD (of_decide_eq_true d) h;refine CM Z (Ai Z) Z Z Z d Z<|Ax h fun ay h=>KV Z d Z Ae5 f ay Z fun b0 az=>CM Z (Ai Z) Z Z Z d Z<|Ax h fun a2 h=>KV Z d Z Ae5 g a2 Z fun b1 a3=>A1 h fun b2 a4 h=>Sf Z Z Z Z d Z Z (fun b3 z=>hself _ _ (Le.refl _) ((az.mono (hH.trans c.arg)).mono z.le) ((a3.mono (hH.trans c.arg)).mono z.le) a4)<|B2 Z (AF d Z) Z<|B9 1 Z<|Bt (fun b4 a5=>?_);have a6:=c.call a5;refine Ad<|Aw ?_
   cases h
   refine Ah Z ⟨a6.ext,Z⟩
  have h:=OE (of_decide_eq_false d) h
  iterate 5 refine NP Z Z Z Z d Z ?_
  refine B2 Z (AG d Z) Z<|B9 1 Z<|Bt (fun b5 a7=>?_);have a8:=c.call a7;refine Ad<|Aw ?_
  cases h
  refine Ah Z ⟨a8.ext,Z⟩
 have h:=OE (of_decide_eq_false a) h
 iterate 5 refine NP Z Z Z Z a Z ?_
 iterate 7 refine ZZ Z Z Z Z Z ?_
 refine NP Z Z Z Z a Z<|B2 Z (AG a Z) Z<|B9 1 Z ?_
 iterate 5 refine NP Z Z Z Z Z Z ?_
 refine B2 Z (AG Z Z) Z<|B9 1 Z<|Bt (fun b6 a9=>?_);have ba:=c.call a9;refine Ad<|Aw ?_
 cases h
 refine Ah Z ⟨ba.ext,Z⟩
theorem WI(n:Nat):MC (HI n):=by
 induction n with
 | zero=>unfold MC;intros;rename_i h;cases h
 | succ n ih=>exact TH (HI n) ih
section
variable(w:World)(H:PH)(hH:Le H (hp w)) include hH
theorem Ze{a0 a1:List Abv}{a b:Value}(c:AS .st H a a0)(d:AS .st H b a1){r:Bool}(h:U5 a0 a1=some r):Ok prog 109 [a,b] w (fun v w'=>Ext w w'/\v=.bool r):=WI 1000 w H hH c d h
def Nd(a1:Abv)(c:List Abv):Option Bool:=
 Qq9 (Mf a1) (fun a=>Qq9 (U5 c a) (fun b=>some b))
def JK(a1:Abv)(c:(List Abv)):(List Abv)×Int->Option (((List Abv)×Int)⊕(Bool)):=fun⟨b,a⟩=>
 if a<(c.length:Int)then AU (0<=a/\a<(c.length:Int)) (if c.getD a.toNat Qq2=([42,42]:Abv)then if(b.length:Int)=0 then AU (0<=a/\a<(c.length:Int)) (AU (Go.E.Fz 16 (b.length+([c.getD a.toNat Qq2]).length)) (AU (Bq (a+1)) (some (Sum.inl ((b++[c.getD a.toNat Qq2]),(a+1))))))else AU (Bq ((b.length:Int) - 1)) (AU (0<=((b.length:Int) - 1)/\((b.length:Int) - 1)<(b.length:Int)) (if b.getD (((b.length:Int) - 1).toNat) Qq2=([42,42]:Abv)then AU (Bq (a+1)) (some (Sum.inl (b,(a+1))))else AU (0<=a/\a<(c.length:Int)) (AU (Go.E.Fz 16 (b.length+([c.getD a.toNat Qq2]).length)) (AU (Bq (a+1)) (some (Sum.inl ((b++[c.getD a.toNat Qq2]),(a+1))))))))else AU (0<=a/\a<(c.length:Int)) (AU (Go.E.Fz 16 (b.length+([c.getD a.toNat Qq2]).length)) (AU (Bq (a+1)) (some (Sum.inl ((b++[c.getD a.toNat Qq2]),(a+1)))))))else Qzx Sum.inr ((Nd a1) b)
def QF(a1:Abv)(a:(List Abv))(s:(List Abv)×Int):Option Bool:=Go.L.run (JK a1 a) s
def FY(a0:Abv)(a1:Abv):Option Bool:=
 Qq9 (Mf a0) (fun a=>(QF a1 a) (([]:List Abv),0))
theorem Nf{a0 a1:Abv}{r:Bool}(h:FY a0 a1=some r):
  Qqv 63 [Abu a0,Abu a1] w (fun v w'=>v=.bool r):=by
 refine A4 46 [(0,(Abu a0)),(1,(Abu a1))] func63 Z fun hL=>A7 1 Z<|Bo 1 Z<|A1 h fun s bx h=>Br hL (OY _ _ (Av hL) bx) ?_;rintro al w2 ⟨_,rfl,aq⟩ bz b0 ca;have t:=aq.Cu hH hL bz;refine AA 1 Z<|Bo 1 Z ?_;obtain⟨b1,bt,b2⟩:=Cp .st H 9 b0;refine Ad<|Bb ((List Abv)×Value×Qq6) (fun⟨z,u,q⟩=>[(1,(Abu a1)),(6,u)]) (fun⟨z,u,q⟩ wr=>C5 w [.row u 9 1 (z).length q] wr fun Oz=>AK .st (gz H w wr Oz) z q/\(Nd a1) z=some r) ?_ ?_
 ·refine A7 1 Z<|A2 ?_;obtain⟨p,h⟩:=AR h;have t:=t.mono (Ab bt);refine Bj ((List Abv)×Int×Value×Qq6×Nat) (fun⟨e,a,j,g,n⟩=>[(1,(Abu a1)),(5,al),(6,j),(7,No a)]) (fun⟨e,a,j,g,n⟩ wr=>C5 w [.row j 9 1 (e).length g] wr fun Oz=>AS .st (gz H w wr Oz) al s/\AK .st (gz H w wr Oz) e g/\DR (JK a1 s) n (e,a)=some r) (fun⟨e,a,j,g,n⟩=>n) (([]:List Abv),0,Aal,[],p) Z ⟨b1,t,b2,h⟩ ?_;rintro⟨e,a,j,g,nn123⟩ b5 ⟨d,b,c,h⟩;obtain⟨p,cb,rfl,h,o⟩:=AQ h;refine A6<|Bo 2 Z<|Ag (AZ b)<|AA 1 Z<|AL h ?_ ?_<;>intro ar h
  ·refine Au<|Aq<|A6<|A2<|Bo 2 Z<|Ax h fun ae h=>AW b a.toNat (Cx ae) (AM ae) ?_;rintro cc _ rfl au;refine Ag (AT au (Av d))<|Ag (Rn Z Z)<|As 1 Z<|Et 21 h ?_ ?_<;>intro k h
   ·iterate 3 refine Ar k ?_
    refine Ag (AF k Z)<|As 1 Z ?_
    iterate 7 refine Ar Z ?_
    refine Ag (AF Z Z)<|Ad<|DS<|An<|As 3 Z<|Ax h fun af h=>AW b a.toNat (Cx af) (AM af) ?_;rintro cd _ rfl av;refine Ag (AT av (Av d))<|Bx [s.getD a.toNat Qq2] (r:=.st) (fun _=>Mw _ Z _) d (.c1 Z .nil) fun ce cf b6 aw aa ax=>Ax h fun ay h=>?_;have c:=c.mono (Ab aa);refine Bp (r:=.st) 0 e [s.getD a.toNat Qq2] Z Ae5 aw Z c ax ay fun bu cg az a2 am a3=>As 1 Z<|AE<|Az<|Aq<|An<|As 1 Z<|Ax h fun a4 h=>Ag (Ay a4)<|As 1 Z<|AE ?_;have h:=Bw.again h o;have b:=b.mono (Ab (aa.trans am));refine AD (_,_,_,_,_) Z ⟨a2,b,a3,h⟩
   refine Aa k<|Ag (Ai Z)<|Aa k<|Ag (Tc 0 Z d Z)<|Aa k<|Ag (Ai Z)<|Ag (AG k Z)<|As 1 Z<|Bz 26 h ?_ ?_<;>intro f h
   ·iterate 7 refine Ar f ?_
    refine Ag (AF f Z)<|Ad<|DS<|An<|As 3 Z<|Ax h fun ag h=>AW b a.toNat (Cx ag) (AM ag) ?_;rintro ch _ rfl a5;refine Ag (AT a5 (Av d))<|Bx [s.getD a.toNat Qq2] (r:=.st) (fun _=>Mw _ Z _) d (.c1 Z .nil) fun ci cj b7 a6 ab a7=>Ax h fun a8 h=>?_;have c:=c.mono (Ab ab);refine Bp (r:=.st) 0 e [s.getD a.toNat Qq2] Z Ae5 a6 Z c a7 a8 fun bv ck a9 ba an bb=>As 1 Z<|AE<|Az<|Aq<|An<|As 1 Z<|Ax h fun bc h=>Ag (Ay bc)<|As 1 Z<|AE ?_;have h:=Bw.again h o;have b:=b.mono (Ab (ab.trans an));refine AD (_,_,_,_,_) Z ⟨ba,b,bb,h⟩
   refine Aa f<|Ag (Ai Z)<|Aa f<|Ag (Ai Z)<|Aa f<|Ag (Tc 0 Z d Z)<|Aa f<|Ax h fun bd h=>Ag (Ay bd)<|Aa f<|Ax h fun ah h=>AW (d.MZ hH (i:=0) Z c) (((e.length:Int) - 1).toNat) (Cx ah) (AM ah) ?_;rintro cl _ rfl be;refine Aa f<|Ag (AT be (Le.refl _))<|Aa f<|Ag (Rn Z Z)<|Ag (AG f Z)<|Ad<|BG h ?_ ?_<;>intro bf h
   ·refine An<|As 3 Z<|Ax h fun ai h=>AW b a.toNat (Cx ai) (AM ai) ?_;rintro cm _ rfl bg;refine Ag (AT bg (Av d))<|Bx [s.getD a.toNat Qq2] (r:=.st) (fun _=>Mw _ Z _) d (.c1 Z .nil) fun cn co b8 bh ac bi=>Ax h fun bj h=>?_;have c:=c.mono (Ab ac);refine Bp (r:=.st) 0 e [s.getD a.toNat Qq2] Z Ae5 bh Z c bi bj fun bw cp bk bl ao bm=>As 1 Z<|AE<|Az<|Aq<|An<|As 1 Z<|Ax h fun bn h=>Ag (Ay bn)<|As 1 Z<|AE ?_;have h:=Bw.again h o;have b:=b.mono (Ab (ac.trans ao));refine AD (_,_,_,_,_) Z ⟨bl,b,bm,h⟩
   refine Au<|Az<|Aq<|An<|As 1 Z<|Ax h fun bo h=>Ag (Ay bo)<|As 1 Z<|AE ?_;have h:=Bw.again h o;refine AD (_,_,_,_,_) Z ⟨d,b,c,h⟩
  refine Bf<|A5<|A3 ?_;have h:=Bw.out h o;refine AY<|A8 (_,_,_) ⟨d,c,h⟩
 rintro⟨z,u,q⟩ cq ⟨ad,x,h⟩;refine Bo 2 Z<|A1 h fun cr bp h=>Br ad (OY _ _ (Av ad) bp) ?_;rintro b3 cs ⟨_,rfl,aj⟩ bq y ap;have ak:=aj.Cu hH ad bq;refine A1 h fun ct br h=>?_;have x:=x.mono (Ab ap);refine A9 y (Ze _ _ (Le.refl _) (y.MZ hH (i:=0) Z x) (ak.mono (Av y)) br) fun cu b9 bs b4=>AA 1 Z<|Aw ?_
 cases h
 refine Ah Z ⟨bs.ext,Z⟩
end
end Go.Proofs.YtopocbcekabkoaaGreatDoor
end
noncomputable section
namespace Go.Proofs.YtopocbcekabkoaaGreatDoor
open Go Go.E Go.RowKit Go.L
set_option maxHeartbeats 1000000
set_option maxRecDepth 10000
open _root_.Go.Proofs.Tryz
def DK(a0 a1:Int):Option Al5:=
 some ((a0,a1))
section
variable(w:World)(H:PH)(hH:Le H (hp w)) include hH
theorem FF{a0 a1:Int}{r:Al5}(h:DK a0 a1=some r):
  Qqv 48 [No a0,No a1] w (fun v w'=>v=.agg #[No r.1,No r.2]):=by
 refine A4 8 [(0,No a0),(1,No a1)] func48 Z fun hL=>Ao<|AO AI.e Z hL fun e f b c _=>Ad<|Bo 2 Z<|Ag (Ba (fun _=>JI _ _ _))<|Ak 0 Z b Z fun g a d=>Ad<|Aw ?_
 cases h
 refine BX (.cell Z Ae3 Z AI.e (AP (i:=0) a Z)) ⟨a.ext,Z⟩
def OI(a0 a1:Int):Option Al5:=
 some ((a0,a1))
theorem Ob{a0 a1:Int}{r:Al5}(h:OI a0 a1=some r):
  Qqv 77 [No a0,No a1] w (fun v w'=>v=.agg #[No r.1,No r.2]):=by
 refine A4 8 [(0,No a0),(1,No a1)] func77 Z fun hL=>Ao<|AO AI.e Z hL fun e f b c _=>Ad<|Bo 2 Z<|Ag (Ba (fun _=>JI _ _ _))<|Ak 0 Z b Z fun g a d=>Ad<|Aw ?_
 cases h
 refine BX (.cell Z Ae3 Z AI.e (AP (i:=0) a Z)) ⟨a.ext,Z⟩
def strings_Split(a0:Abv)(a1:Abv):Option ((List Abv)):=
 Qq9 (U3 a0 a1 (0:Int) (-1:Int)) (fun a=>some a)
theorem U6{a0 a1:Abv}{r:(List Abv)}(h:strings_Split a0 a1=some r):
  Qqv 243 [Abu a0,Abu a1] w (fun v w'=>∃d,v=d/\Cd 9 .st H w w' d r):=by
 refine A4 8 [(0,(Abu a0)),(1,(Abu a1))] func243 Z fun hL=>A7 1 Z<|Bo 2 Z<|A1 h fun l e h=>Br hL (Aav _ _ (Av hL) e) ?_;rintro j m ⟨_,rfl,b⟩ f a c;obtain⟨k,a,c,g⟩:=b.take hH hL f;refine AA 1 Z<|Aw ?_
 cases h
 refine Ah Z ⟨a.ext,_,Z,(a.FV hH (i:=0) Z g)⟩
def JL(a0:Abv):Option ((List Abv)):=
 if a0=([]:Abv)then some ([])else Qq9 (strings_Split a0 ([47]:Abv)) (fun a=>some a)
theorem Ng{a0:Abv}{r:(List Abv)}(h:JL a0=some r):
  Qqv 197 [Abu a0] w (fun v w'=>∃d,v=d/\Cd 9 .st H w w' d r):=by
 refine A4 7 [(0,(Abu a0))] func197 Z fun hL=>A7 1 Z<|A6<|Bo 1 Z<|Ag (Kj Z Z)<|Ad<|AL h ?_ ?_<;>intro e h
 ·refine A7 1 Z<|Aw<|Am ?_
  cases h
  refine Ah Z ⟨hL.ext,_,Z,Cd.nil⟩
 refine Au<|Aq<|Bo 1 Z<|A1 h fun m f h=>Br hL (U6 _ _ (Av hL) f) ?_;rintro k o ⟨_,rfl,b⟩ g a c;obtain⟨l,a,c,j⟩:=b.take hH hL g;refine AA 1 Z<|Aw ?_
 cases h
 refine Ah Z ⟨a.ext,_,Z,(a.FV hH (i:=0) Z j)⟩
def Dn(a0:Int):Option Bool:=
 if(0<=a0)/\(a0<55296)then some true else(if(57343<a0)/\(a0<=1114111)then some true else some false)
theorem O5{a0:Int}{r:Bool}(h:Dn a0=some r):
  Qqv 202 [.int .i32 a0] w (fun v w'=>v=.bool r):=by
 refine A4 17 [(0,.int .i32 a0)] func202 Z fun hL=>A7 1 Z<|A6<|A2<|Bo 3 Z<|Ns 2 2 Z Z Z Z Z Z<|AA 1 Z<|AL h ?_ ?_<;>intro a h
 ·refine A7 1 Z<|Aw<|Al<|Am ?_
  cases h
  refine Ah Z ⟨hL.ext,Z⟩
 refine Bo 3 Z<|Ns 2 2 Z Z Z Z Z Z<|AA 1 Z<|AL h ?_ ?_<;>intro b h
 ·refine A7 1 Z<|Aw<|Al<|Am ?_
  cases h
  refine Ah Z ⟨hL.ext,Z⟩
 refine Au<|Az<|Aq<|A7 1 Z<|Aw ?_
 cases h
 refine Ah Z ⟨hL.ext,Z⟩
def MD:Option Int:=
 some ((-1))
def D9(a0:Abv):Nat->Option ((Nat)⊕(Int)):=fun a=>
 if a<a0.length then(if((XI a0 a).1:Int)=65533 then Qzx Sum.inr (some ((a:Int)))else some (Sum.inl (a+(XI a0 a).2)))else Qzx Sum.inr MD
def Jo(a0:Abv)(s:Nat):Option Int:=Go.L.run (D9 a0) s
def ME(a1 a:Int):Option ((Int)⊕(Int)):=
 AU (Bq (a - (((Fi a1).length:Int) - 1))) (Qzx Sum.inr (some ((a - (((Fi a1).length:Int) - 1)))))
def LO(a0:Abv)(a1 b:Int):Int->Option ((Int)⊕((Int)⊕(Int))):=fun a=>
 if a<((Fi a1).length:Int)then AU (Bq (b - a)) (AU (0<=(b - a)/\(b - a)<(a0.length:Int)) (AU (Bq ((((Fi a1).length:Int) - 1) - a)) (AU (0<=((((Fi a1).length:Int) - 1) - a)/\((((Fi a1).length:Int) - 1) - a)<((Fi a1).length:Int)) (if((a0.getD (b - a).toNat Qq2).toNat:Int)=(((Fi a1).getD ((((Fi a1).length:Int) - 1) - a).toNat Qq2).toNat:Int)then AU (Bq (a+1)) (some (Sum.inl (a+1)))else none))))else Qzx Sum.inr ((ME a1 b))
def Rx(a0:Abv)(a1 a s:Int):Option ((Int)⊕(Int)):=Go.L.run (LO a0 a1 a) s
def Jp(a0:Abv)(a1 a:Int):Option ((Int)⊕(Int)):=
 (Rx a0 a1 a) (1:Int)
def MF:Option Int:=
 some ((-1))
def II(a0:Abv)(a1:Int):Int->Option ((Int)⊕(Int)):=fun a=>
 if a<(a0.length:Int)then AU (0<=a/\a<(a0.length:Int)) (AU (0<=(((Fi a1).length:Int) - 1)/\(((Fi a1).length:Int) - 1)<((Fi a1).length:Int)) (if((a0.getD a.toNat Qq2).toNat:Int)=(((Fi a1).getD (((Fi a1).length:Int) - 1).toNat Qq2).toNat:Int)then(Jp a0 a1) a else AU (Bq (a+1)) (AU (0<=(a+1)/\(a+1)<=(a0.length:Int)) (AU (0<=(((Fi a1).length:Int) - 1)/\(((Fi a1).length:Int) - 1)<((Fi a1).length:Int)) (Qq9 (Aaw (a0.drop (a+1).toNat) ((Fi a1).getD (((Fi a1).length:Int) - 1).toNat Qq2)) (fun b=>if b<0 then Qzx Sum.inr (some ((-1)))else AU (Bq (b+1)) (AU (Bq (a+(b+1))) ((Jp a0 a1) (a+(b+1))))))))))else Qzx Sum.inr MF
def Ry(a0:Abv)(a1 s:Int):Option Int:=Go.L.run (II a0 a1) s
def IZ(a0:Abv)(a1:Int):Option Int:=
 if(0<=a1)/\(a1<128)then Qq9 (Aaw a0 (Go.L.u8 a1)) (fun b=>some b)else(if a1=65533 then(Jo a0) (0:Nat)else Qq9 (Dn a1) (fun a=>if !a then some ((-1))else AU (Bq (((Fi a1).length:Int) - 1)) ((Ry a0 a1) (((Fi a1).length:Int) - 1))))
theorem Rz{a0:Abv}{a1 r:Int}(h:IZ a0 a1=some r):
  Qqv 159 [Abu a0,.int .i32 a1] w (fun v w'=>v=No r):=by
 refine A4 187 [(0,(Abu a0)),(1,.int .i32 a1)] func159 Z fun hL=>A7 1 Z<|A2<|Bo 3 Z<|Ns 2 2 Z Z Z Z Z Z<|AA 1 Z<|AL h ?_ ?_<;>intro bl h
 ·refine Bo 2 Z<|Ag (Gn (KK _))<|A1 h fun x3 bm h=>A9 hL (Ada _ _ (Av hL) bm) fun w4 cb bn bz=>AA 1 Z<|Aw<|Al ?_
  cases h
  refine Ah Z ⟨bn.ext,Z⟩
 refine A7 3 Z<|AL h ?_ ?_<;>intro bo h
 ·refine Bb Unit (fun(_:Unit)=>[]) (fun(_:Unit) wr=>Bk w [] wr/\MD=some r) ?_ ?_
  ·refine Bo 1 Z<|Afo Z hL fun cc bc bd bp=>Ad<|A2 ?_;obtain⟨x,h⟩:=AR h;refine Bj (Nat×Nat) (fun⟨d,n⟩=>[(175,(Abo bc))]) (fun⟨d,n⟩ wr=>Bk w [.obj bc (.stringIter ⟨(a0).toArray⟩ d)] wr/\DR (D9 a0) n d=some r) (fun⟨d,n⟩=>n) ((0:Nat),x) Z ⟨bd,h⟩ ?_;rintro⟨d,nn36⟩ b0 ⟨y,h⟩;obtain⟨x,cd,rfl,h,f⟩:=AQ h;refine Ao<|Ah8 (l:=a0) (p:=d) 0 Z y Z (fun g=>?_) (fun g=>?_)
   ·have h:=OD g h;intro ce z bq;refine AA 1 Z<|A6<|DS<|Au<|Aq<|A2<|A7 4 Z<|A7 2 Z<|AL h ?_ ?_<;>intro be h
    ·refine A7 2 Z<|Aw<|Al<|Bc ?_;have h:=Bw.out h f;refine Al<|AN<|Al ?_
     cases h
     refine Ah Z ⟨z.ext,Z⟩
    refine Au<|Az ?_;have h:=Bw.again h f;refine AD (_,_) Z ⟨z,h⟩
   have h:=OE g h;refine AA 1 Z<|A6<|Co<|Bf<|A5<|A3 ?_;have h:=Bw.out h f;refine AY ?_;have bf:=y.Bl (i:=0) Z;refine A8 () ⟨bf,h⟩
  rintro _ b1 ⟨bg,h⟩;refine A7 1 Z<|Aw<|Al ?_
  cases h
  refine Ah Z ⟨bg.ext,Z⟩
 refine Bo 1 Z<|A1 h fun cf bh h=>A9 hL (O5 _ _ (Av hL) bh) fun cg b2 aa br=>AA 2 Z<|Bi h ?_ ?_<;>intro bi h
 ·refine A7 1 Z<|Aw<|Al ?_
  cases h
  refine Ah Z ⟨aa.ext,Z⟩
 refine VR<|Bo 1 Z<|Ag (Ak7 Z)<|AA 1 Z<|Bo 1 Z<|Ag (Gq Z)<|Ax h fun bj h=>Ag (Ay bj)<|AA 1 Z<|A7 2 Z<|A7 1 Z<|Bb Unit (fun(_:Unit)=>[]) (fun(_:Unit) wr=>Bk w [] wr/\MF=some r) ?_ ?_
 ·refine A2 ?_;obtain⟨ab,h⟩:=AR h;refine Bj (Int×Nat) (fun⟨c,n⟩=>[(0,(Abu a0)),(7,.string ⟨((Fi a1)).toArray⟩),(8,No (((Fi a1).length:Int) - 1)),(9,No c)]) (fun⟨c,n⟩ wr=>Bk w [] wr/\DR (II a0 a1) n c=some r) (fun⟨c,n⟩=>n) ((((Fi a1).length:Int) - 1),ab) Z ⟨aa,h⟩ ?_;rintro⟨c,nn253⟩ bs ⟨m,h⟩;obtain⟨ab,j,rfl,h,e⟩:=AQ h;refine A6<|Bo 2 Z<|Ag (Gq Z)<|AA 1 Z<|AL h ?_ ?_<;>intro ac h
  ·refine Au<|Aq<|A2<|VR<|Bb Int (fun a=>[(0,(Abu a0)),(7,.string ⟨((Fi a1)).toArray⟩),(8,No (((Fi a1).length:Int) - 1)),(9,No a)]) (fun a wr=>Bk w [] wr/\(Jp a0 a1) a=some j) ?_ ?_
   ·refine BZ (Qqz 0 7 (.tail 7)) mixed Qqb (fun b3 ad=>?_);have ae:=m.call ad;refine B9 2 Z<|Ax h fun af h=>B2 Z (Na af) Z<|B9 2 Z<|Ax h fun ag h=>B2 Z (Na ag) Z<|B9 1 Z<|Bt (fun b4 ah=>?_);have o:=ae.call ah;refine Ad<|BG h ?_ ?_<;>intro ai h
    ·refine BZ (Qqz 0 9 (.tail 9)) mixed Qqb (fun b5 aj=>?_);have ak:=o.call aj;refine B9 2 Z<|Ax h fun al h=>B2 Z (Ay al) Z<|Ax h fun am h=>B2 Z (AjA am) Z<|B9 2 Z<|Ax h fun an h=>B2 Z (Na an) Z<|A1 h fun bk ao h=>Er Z Z Z (fun b6 bt=>Ada _ _ (Le.refl _) ao)<|B9 1 Z<|Bt (fun b7 ap=>?_);have s:=ak.call ap;refine Ad<|A6<|A7 2 Z<|AL h ?_ ?_<;>intro aq h
     ·refine A7 1 Z<|Aw<|Am<|AN<|Fb<|Al<|Bc ?_;have h:=Bw.out h e;refine Al<|AN<|Fb<|Al ?_
      cases h
      refine Ah Z ⟨s.ext,Z⟩
     refine Au<|Aq<|An<|As 2 Z<|Ax h fun ar h=>Ag (Ay ar)<|Ax h fun au h=>Ag (Ay au)<|As 1 Z<|AE<|A8 _ ⟨s,h⟩
    refine Au<|A8 _ ⟨o,h⟩
   rintro a bu ⟨av,h⟩;refine Bb Unit (fun(_:Unit)=>[(8,No (((Fi a1).length:Int) - 1)),(9,No a)]) (fun(_:Unit) wr=>Bk w [] wr/\(ME a1 a)=some j) ?_ ?_
   ·refine A7 1 Z<|A2 ?_;obtain⟨k,h⟩:=AR h;refine Bj (Int×Nat) (fun⟨b,n⟩=>[(0,(Abu a0)),(7,.string ⟨((Fi a1)).toArray⟩),(8,No (((Fi a1).length:Int) - 1)),(9,No a),(12,No b)]) (fun⟨b,n⟩ wr=>Bk w [] wr/\DR (LO a0 a1 a) n b=some j) (fun⟨b,n⟩=>n) (1,k) Z ⟨av,h⟩ ?_;rintro⟨b,nn363⟩ bv ⟨t,h⟩;obtain⟨k,b8,rfl,h,u⟩:=AQ h;refine A6<|Bo 2 Z<|Ag (Gq Z)<|AA 1 Z<|AL h ?_ ?_<;>intro aw h
    ·refine Au<|Aq<|A6<|A2<|BZ (Qqz 0 11 (.tail 11)) mixed Qqb (fun b9 ax=>?_);have ay:=t.call ax;refine B9 3 Z<|Ax h fun az h=>B2 Z (Ay az) Z<|Ax h fun a2 h=>B2 Z (Na a2) Z<|B9 3 Z<|Ax h fun a3 h=>B2 Z (Ay a3) Z<|Ax h fun a4 h=>B2 Z (Na a4) Z<|B9 1 Z<|Bt (fun ca a5=>?_);have a6:=ay.call a5;refine Ad<|BG h ?_ ?_<;>intro a7 h
     ·cases h
     refine Au<|Az<|Aq<|An<|As 1 Z<|Ax h fun a8 h=>Ag (Ay a8)<|As 1 Z<|AE ?_;have h:=Bw.again h u;refine AD (_,_) Z ⟨a6,h⟩
    refine Bf<|A5<|A3 ?_;have h:=Bw.out h u;refine AY<|A8 () ⟨t,h⟩
   rintro _ bw ⟨a9,h⟩;refine A6<|Bo 2 Z<|Ax h fun ba h=>Ag (Ay ba)<|AA 1 Z<|Aw<|Am<|Fb<|Al<|Bc ?_;have h:=Bw.out h e;refine Al<|AN<|Fb<|Al ?_
   cases h
   refine Ah Z ⟨a9.ext,Z⟩
  refine Bf<|A5<|A3 ?_;have h:=Bw.out h e;refine AY<|A8 () ⟨m,h⟩
 rintro _ bx ⟨bb,h⟩;refine A6<|A7 1 Z<|Aw<|Am<|Fb<|Al ?_
 cases h
 refine Ah Z ⟨bb.ext,Z⟩
def Fm(a0:Abv)(a1:Int):Option Bool:=
 Qq9 (IZ a0 a1) (fun a=>some (decide (0<=a)))
theorem KZ{a0:Abv}{a1:Int}{r:Bool}(h:Fm a0 a1=some r):
  Qqv 112 [Abu a0,.int .i32 a1] w (fun v w'=>v=.bool r):=by
 refine A4 9 [(0,(Abu a0)),(1,.int .i32 a1)] func112 Z fun hL=>A7 1 Z<|Bo 2 Z<|A1 h fun e a h=>A9 hL (Rz _ _ (Av hL) a) fun f d b c=>AA 2 Z<|Aw ?_
 cases h
 refine Ah Z ⟨b.ext,Z⟩
def Qh(a0:Int):Option Bool:=
 if(a0<97)\/(122<a0)then if a0<48 then Qq9 (Fm ([45,95,46]:Abv) a0) (fun b=>some (!b))else if 57<a0 then Qq9 (Fm ([45,95,46]:Abv) a0) (fun a=>some (!a))else some false else some false
theorem V3{a0:Int}{r:Bool}(h:Qh a0=some r):
  Qqv 111 [.int .i32 a0] w (fun v w'=>v=.bool r):=by
 refine A4 22 [(0,.int .i32 a0)] func111 Z fun hL=>A7 1 Z<|Bo 3 Z<|Ab3 2 2 Z Z Z Z Z Z<|As 1 Z<|Bz 9 h ?_ ?_<;>intro a h
 ·refine Aa a<|Ag (Ai Z)<|Aa a<|Ag (Ai Z)<|Aa a<|Ag (Ai Z)<|Bz 12 h ?_ ?_<;>intro c h
  ·iterate 2 refine Ar c ?_
   refine Aa a<|Ag (AF c Z)<|Ag (AF a Z)<|As 1 Z<|Aa Z<|Ag (Ai Z)<|Aa Z<|A1 h fun p f h=>A9 hL (KZ _ _ (Av hL) f) fun q l g j=>Aa Z<|Ag (Ai Z)<|Ag (AF Z Z)<|AA 1 Z<|Aw ?_
   cases h
   refine Ah Z ⟨g.ext,Z⟩
  refine Aa c<|Ag (Ai Z)<|Aa c<|Ag (Ai Z)<|Aa a<|Ag (AG c Z)<|Ag (AF a Z)<|As 1 Z<|Bz 17 h ?_ ?_<;>intro b h
  ·refine Aa b<|Ag (Ai Z)<|Aa b<|A1 h fun m d h=>A9 hL (KZ _ _ (Av hL) d) fun o k e i=>Aa b<|Ag (Ai Z)<|Ag (AF b Z)<|AA 1 Z<|Aw ?_
   cases h
   refine Ah Z ⟨e.ext,Z⟩
  iterate 3 refine Ar b ?_
  refine Ag (AG b Z)<|AA 1 Z<|Aw ?_
  cases h
  refine Ah Z ⟨hL.ext,Z⟩
 iterate 3 refine Ar a ?_
 iterate 2 refine BS ?_
 refine Ar a<|Ag (AG a Z)<|As 1 Z ?_
 iterate 3 refine Ar Z ?_
 refine Ag (AG Z Z)<|AA 1 Z<|Aw ?_
 cases h
 refine Ah Z ⟨hL.ext,Z⟩
end
end Go.Proofs.YtopocbcekabkoaaGreatDoor
end
noncomputable section
namespace Go.L
set_option maxRecDepth 20000 in
theorem AdO{x:Int}(h:128<=x)(hx:x<=1114111)(hv:Go.Utf8.valid x=true):∃k:Nat,(Fi x).length=k/\2<=k/\k<=4/\128<=((Fi x).getD (k - 1) Qq2).toNat:=by
 obtain⟨c,rfl⟩:=Qx4 (show 0<=x by omega);have hm:∀j:Nat,(128+j % 64) % 256=128+j % 64:=fun j=>Nat.mod_eq_of_lt U;unfold Fi Go.Utf8.encode;simp only[hv,if_true,Qzk];rw[if_neg U];have e:∀j:Nat,128<=(UInt8.ofNat (128+j % 64)).toNat:=fun j=>by rw[UInt8.toNat_ofNat',hm];omega
 have f:∀a b:UInt8,((ByteArray.mk #[a,b]).data.toList.length=2)/\(ByteArray.mk #[a,b]).data.toList.getD (2 - 1) Qq2=b:=fun _ _=>⟨Z,Z⟩;have g:∀a b c:UInt8,((ByteArray.mk #[a,b,c]).data.toList.length=3)/\(ByteArray.mk #[a,b,c]).data.toList.getD (3 - 1) Qq2=c:=fun _ _ _=>⟨Z,Z⟩;have i:∀a b c d:UInt8,((ByteArray.mk #[a,b,c,d]).data.toList.length=4)/\(ByteArray.mk #[a,b,c,d]).data.toList.getD (4 - 1) Qq2=d:=fun _ _ _ _=>⟨Z,Z⟩
 by_cases l:c<2048
 ·rw[if_pos l];refine⟨2,(f _ _).1,by omega,by omega,?_⟩;rw[(f _ _).2];exact e _
 ·rw[if_neg l]
  by_cases h2:c<65536
  ·rw[if_pos h2];refine⟨3,(g _ _ _).1,by omega,by omega,?_⟩;rw[(g _ _ _).2];exact e _
  ·rw[if_neg h2];refine⟨4,(i _ _ _ _).1,by omega,by omega,?_⟩;rw[(i _ _ _ _).2];exact e _
end Go.L
namespace Go.Proofs.YtopocbcekabkoaaGreatDoor
open Go Go.L
theorem AbL:∀n:Fin 128,(0<=Lib.indexByte [45,95,46] (u8 (n.val:Int))↔(n.val=45\/n.val=95\/n.val=46)):=by decide
theorem Af5:Jo [45,95,46] 0=some (-1):=by
 unfold Jo;have r0:D9 [45,95,46] 0=some (.inl 1):=by rfl
 have r1:D9 [45,95,46] 1=some (.inl 2):=by rfl
 have r2:D9 [45,95,46] 2=some (.inl 3):=by rfl
 have r3:D9 [45,95,46] 3=some (.inr (-1)):=by rfl
 rw[Bh r0,Bh r1,Bh r2];exact AV (m:=some (-1)) r3
theorem AdP{x:Int}(a:0<=x)(hx:x<=1114111):∃i,IZ [45,95,46] x=some i/\(0<=i↔(x=45\/x=95\/x=46)):=by
 unfold IZ
 by_cases f:x<128
 ·rw[if_pos ⟨a,f⟩];have:=AbL ⟨x.toNat,by omega⟩;simp only[Qx5 a]at this;exact⟨_,Z,by rw[this];omega⟩
 ·rw[if_neg U];have hn : ¬(x=45\/x=95\/x=46):=by omega
  by_cases h2:x=65533
  ·rw[if_pos h2,Af5];exact⟨_,Z,by omega⟩
  ·rw[if_neg h2]
   by_cases hv:Go.Utf8.valid x=true
   ·have e:Dn x=some true:=by
     unfold Dn;simp only[Go.Utf8.valid,Qxj,QzQ,decide_eq_true_eq]at hv
     by_cases h3:0<=x/\x<55296
     ·rw[if_pos h3]
     ·rw[if_neg h3,if_pos U]
    rw[e];obtain⟨k,hk,h,j,hl⟩:=AdO U hx hv;simp only[Qzq,Bool.not_true,Qxk,if_false,hk];rw[Ac (by unfold Bq;omega)];refine⟨-1,AV ?_,by omega⟩;unfold II;have g:((k:Int) - 1).toNat=k - 1:=by omega
    have key:∀(l:Qq4) (c:UInt8),(∀b∈l,b.toNat<128)->128<=c.toNat->Lib.indexByte l c = -1:=by
     intro l c hl hc
     induction l with
     | nil=>rfl
     | cons b l ih=>
      have hb:=hl b (.head _)
      have hne:(b==c)=false:=by
       cases hh:b==c with
       | false=>rfl
       | true=>have:=beq_iff_eq.1 hh;subst this;omega
      unfold Lib.indexByte;rw[ih (fun b hb=>hl b (.tail _ hb)),hne]
      rfl
    have d:k=2\/k=3\/k=4:=by omega
    simp only[hk,g]
    rcases d with rfl | rfl | rfl
    ·rw[if_pos Qqc,Ac Qqc,Ac Qqc,if_neg (by intro hh;have:(([45,95,46]:Qq4).getD 1 Qq2).toNat=95:=Z;simp only[Nat.reduceSub]at hl hh;omega),Ac (by unfold Bq;decide),Ac Qqc,Ac Qqc];unfold Aaw;rw[Qzq,key _ _ Qqc hl,if_pos Qqc]
    ·rw[if_pos Qqc,Ac Qqc,Ac Qqc,if_neg (by intro hh;have:(([45,95,46]:Qq4).getD 2 Qq2).toNat=46:=Z;simp only[Nat.reduceSub]at hl hh;omega),Ac (by unfold Bq;decide),Ac Qqc,Ac Qqc];unfold Aaw;rw[Qzq,key _ _ Qqc hl,if_pos Qqc]
    ·rw[if_neg Qqc]
     rfl
   ·have e:Dn x=some false:=by
     unfold Dn;simp only[Go.Utf8.valid,Qxj,QzQ,decide_eq_true_eq]at hv;rw[if_neg U,if_neg U]
    rw[e];exact⟨-1,Z,by omega⟩
def Zf(n:Nat):Bool:=!((decide (97<=n/\n<=122))||(decide (48<=n/\n<=57))||(decide (n=45\/n=95\/n=46)))
theorem Af6{n:Nat}(hx:n<=1114111):Qh (n:Int)=some (Zf n):=by
 obtain⟨i,hi,hd⟩:=AdP (x:=(n:Int)) U U;have hc:Fm [45,95,46] (n:Int)=some (decide (0<=i)):=by unfold Fm;rw[hi];rfl
 have hd':decide (0<=i)=decide (n=45\/n=95\/n=46):=by
  rw[Qz7,decide_eq_true_eq,decide_eq_true_eq,hd];omega
 unfold Qh Zf;rw[hc,hd'];simp only[Qzq]
 by_cases c:(n:Int)<97\/(122:Int)<n
 ·rw[if_pos c];have a:decide (97<=n/\n<=122)=false:=decide_eq_false U
  by_cases h2:(n:Int)<48
  ·rw[if_pos h2];have b:decide (48<=n/\n<=57)=false:=decide_eq_false U;rw[a,b];rfl
  ·rw[if_neg h2]
   by_cases h3:(57:Int)<n
   ·rw[if_pos h3];have b:decide (48<=n/\n<=57)=false:=decide_eq_false U;rw[a,b];rfl
   ·rw[if_neg h3];have b:decide (48<=n/\n<=57)=true:=decide_eq_true U;rw[a,b];rfl
 ·rw[if_neg c];have a:decide (97<=n/\n<=122)=true:=decide_eq_true U;rw[a];rfl
end Go.Proofs.YtopocbcekabkoaaGreatDoor
end
noncomputable section
namespace Go.Proofs.YtopocbcekabkoaaGreatDoor
open Go Go.E Go.RowKit Go.Shelf
noncomputable def Zg(a:Qq4):Option Bool:=some (decide (0<=Lib.idxFunc Zf true ⟨a.toArray⟩))
section
variable(w:World)(H:PH)(hH:Le H (hp w)) include hH
theorem AdQ{a0:Qq4}{r:Bool}(h:Zg a0=some r):
  Ok Tryz.prog 110 [.string ⟨a0.toArray⟩,.func (.func 111) #[] #[]] w (fun v w'=>Ext w w'/\v=.bool r):=by
 obtain rfl:=Option.some.inj h;refine⟨⟨Tryz.f110,_,Tryz.func110,Z,Z⟩,(Any.strings_ContainsFunc_grows Tryz.Akp 111 #[] (enters_of Tryz.func111 Qqb Z) Zf ⟨a0.toArray⟩ w ?_).mono fun e w' he=>?_⟩
 ·intro W x hx _;refine(V3 W (hp W) (Le.refl _) (Af6 hx)).2.mono fun e w' he=>?_;obtain⟨v,rfl,hx,rfl⟩:=he;exact⟨Z,hx.toBelow⟩
 ·obtain⟨rfl,hb⟩:=he;exact⟨_,Z,Ext.off hb,Z⟩
end
end Go.Proofs.YtopocbcekabkoaaGreatDoor
end
noncomputable section
namespace Go.Proofs.YtopocbcekabkoaaGreatDoor
open Go Go.E Go.RowKit Go.L
set_option maxHeartbeats 1000000
set_option maxRecDepth 10000
open _root_.Go.Proofs.Tryz
def Jq(a0:Abv):Option Bool:=
 if a0=([]:Abv)then some false else if 32<(a0.length:Int)then some false else AU (0<=(0:Int)/\(0:Int)<(a0.length:Int)) (if((a0.getD (0:Int).toNat Qq2).toNat:Int)<97 then some false else AU (0<=(0:Int)/\(0:Int)<(a0.length:Int)) (if 122<((a0.getD (0:Int).toNat Qq2).toNat:Int)then some false else Qq9 (Zg a0) (fun a=>some (!a))))
section
variable(w:World)(H:PH)(hH:Le H (hp w)) include hH
theorem Ko{a0:Abv}{r:Bool}(h:Jq a0=some r):
  Qqv 64 [Abu a0] w (fun v w'=>v=.bool r):=by
 refine A4 23 [(0,(Abu a0))] func64 Z fun hL=>A7 1 Z<|A6<|Bo 1 Z<|Ag (Kj Z Z)<|As 1 Z<|Bz 5 h ?_ ?_<;>intro a h
 ·iterate 3 refine Ar a ?_
  refine Ag (AF a Z)<|As 1 Z ?_
  iterate 3 refine Ar Z ?_
  refine Ag (AF Z Z)<|As 1 Z ?_
  iterate 3 refine Ar Z ?_
  refine Ag (AF Z Z)<|Ad<|DS<|A7 1 Z<|Aw<|Am ?_
  cases h
  refine Ah Z ⟨hL.ext,Z⟩
 refine Aa a<|Ag (Ai Z)<|Aa a<|Ag (Gq Z)<|Aa a<|Ag (Ai Z)<|Ag (AG a Z)<|As 1 Z<|Bz 10 h ?_ ?_<;>intro b h
 ·iterate 3 refine Ar b ?_
  refine Ag (AF b Z)<|As 1 Z ?_
  iterate 3 refine Ar Z ?_
  refine Ag (AF Z Z)<|Ad<|DS<|A7 1 Z<|Aw<|Am ?_
  cases h
  refine Ah Z ⟨hL.ext,Z⟩
 refine Aa b<|Ag (Ai Z)<|Aa b<|Ax h fun i h=>Ag (Na i)<|Aa b<|Ag (Ai Z)<|Ag (AG b Z)<|As 1 Z<|Bz 15 h ?_ ?_<;>intro c h
 ·iterate 3 refine Ar c ?_
  refine Ag (AF c Z)<|Ad<|DS<|A7 1 Z<|Aw<|Am ?_
  cases h
  refine Ah Z ⟨hL.ext,Z⟩
 refine Aa c<|Ag (Ai Z)<|Aa c<|Ax h fun d h=>Ag (Na d)<|Aa c<|Ag (Ai Z)<|Ag (AG c Z)<|Ad<|AL h ?_ ?_<;>intro e h
 ·refine A7 1 Z<|Aw<|Am ?_
  cases h
  refine Ah Z ⟨hL.ext,Z⟩
 refine Au<|Aq<|Bo 1 Z<|A1 h fun l f h=>A9 hL (AdQ _ _ (Av hL) f) fun m k g j=>AA 2 Z<|Aw ?_
 cases h
 refine Ah Z ⟨g.ext,Z⟩
def QG:Option Al5:=
 some ((0,0))
def EL(c:(List Abv)):Int×Int->Option (Qq7⊕Al5):=fun⟨b,a⟩=>
 if a<(c.length:Int)then AU (0<=a/\a<(c.length:Int)) (if c.getD a.toNat Qq2=([35]:Abv)then AU (Bq (((c.getD a.toNat Qq2).length:Int)+1)) (AU (Bq (b+(((c.getD a.toNat Qq2).length:Int)+1))) (AU (Bq (a+1)) (some (Sum.inl ((b+(((c.getD a.toNat Qq2).length:Int)+1)),(a+1))))))else if c.getD a.toNat Qq2=([42]:Abv)then AU (Bq (((c.getD a.toNat Qq2).length:Int)+1)) (AU (Bq (b+(((c.getD a.toNat Qq2).length:Int)+1))) (AU (Bq (a+1)) (some (Sum.inl ((b+(((c.getD a.toNat Qq2).length:Int)+1)),(a+1))))))else if c.getD a.toNat Qq2=([42,42]:Abv)then AU (Bq (((c.getD a.toNat Qq2).length:Int)+1)) (AU (Bq (b+(((c.getD a.toNat Qq2).length:Int)+1))) (AU (Bq (a+1)) (some (Sum.inl ((b+(((c.getD a.toNat Qq2).length:Int)+1)),(a+1))))))else Qq9 (Jq (c.getD a.toNat Qq2)) (fun e=>if !e then Qq9 (DK (1:Int) b) (fun d=>Qzx Sum.inr (some ((d.1,d.2))))else AU (Bq (((c.getD a.toNat Qq2).length:Int)+1)) (AU (Bq (b+(((c.getD a.toNat Qq2).length:Int)+1))) (AU (Bq (a+1)) (some (Sum.inl ((b+(((c.getD a.toNat Qq2).length:Int)+1)),(a+1))))))))else Qzx Sum.inr QG
def V4(a:(List Abv))(s:Int×Int):Option Al5:=Go.L.run (EL a) s
def HR(a0:Abv):Option Al5:=
 if 64<(a0.length:Int)then Qq9 (DK (3:Int) (-1:Int)) (fun a=>some ((a.1,a.2)))else Qq9 (JL a0) (fun b=>(V4 b) (0,0))
theorem KA{a0:Abv}{r:Al5}(h:HR a0=some r):
  Qqv 151 [Abu a0] w (fun v w'=>v=.agg #[No r.1,No r.2]):=by
 refine A4 41 [(0,(Abu a0))] func151 Z fun hL=>Ao<|AO AI.e Z hL fun w1 z o ba _=>Ad<|A6<|Bo 1 Z<|Ag (Gq Z)<|AA 1 Z<|AL h ?_ ?_<;>intro az h
 ·refine Ao<|A1 h fun x4 a1 h=>A9 o (FF _ _ (Av o) a1) fun w5 bm a2 bb=>Ak 0 Z a2 Z fun w6 au bc=>Ad<|Aw<|Am ?_
  cases h
  refine BX (.cell Z Ae3 Z AI.e (AP (i:=0) au Z)) ⟨au.ext,Z⟩
 refine Au<|Aq<|A7 1 Z<|Bb Unit (fun(_:Unit)=>[(2,(Abo z))]) (fun(_:Unit) wr=>Bk w [.box z [No 0,No 0] 35] wr/\QG=some r) ?_ ?_
 ·refine Bo 1 Z<|A1 h fun l av h=>Br o (Ng _ _ (Av o) av) ?_;rintro q bn ⟨_,rfl,x⟩ aw ax a6;have p:=x.Cu hH o aw;refine Ag (AZ p)<|AA 1 Z<|A2 ?_;obtain⟨k,h⟩:=AR h;refine Bj (Int×Int×Nat) (fun⟨b,a,n⟩=>[(2,(Abo z)),(3,No b),(11,q),(12,No (l.length:Int)),(13,No a)]) (fun⟨b,a,n⟩ wr=>C5 w [.box z [No 0,No 0] 35] wr fun Oz=>AS .st (gz H w wr Oz) q l/\DR (EL l) n (b,a)=some r) (fun⟨b,a,n⟩=>n) (0,0,k) Z ⟨ax,p,h⟩ ?_;rintro⟨b,a,nn124⟩ a7 ⟨d,c,h⟩;obtain⟨k,bd,rfl,h,f⟩:=AQ h;refine A7 1 Z<|A6<|AL h ?_ ?_<;>intro aa h
  ·refine Au<|Aq<|A6<|A2<|Ao<|Ax h fun s h=>AW c a.toNat (Cx s) (AM s) ?_;rintro be _ rfl ab;refine Ag (AT ab (Av d))<|AA 1 Z<|A6<|Bo 1 Z<|Ag (Rn Z Z)<|As 1 Z<|Et 19 h ?_ ?_<;>intro g h
   ·refine Aa g<|Ag (Ai Z)<|Aa g<|Ag (Rn Z Z)<|Ag (AF g Z)<|As 1 Z<|Et 23 h ?_ ?_<;>intro j h
    ·refine Aa j<|Ag (Ai Z)<|Aa j<|Ag (Rn Z Z)<|Ag (AF j Z)<|As 1 Z<|Et 27 h ?_ ?_<;>intro e h
     ·refine Aa e<|Ag (Ai Z)<|Aa e<|A1 h fun bf ac h=>A9 d (Ko _ _ (Av d) ac) fun bg a8 m y=>Aa e<|Ag (Ai Z)<|Ag (AF e Z)<|Ad<|Bi h ?_ ?_<;>intro ad h
      ·refine Bo 1 Z<|A1 h fun bh ae h=>A9 m (FF _ _ (Av m) ae) fun bi a9 af a3=>Ak 0 Z af Z fun bj t a4=>Ad<|Aw<|Am<|Al<|Am<|Bc ?_;have h:=Bw.out h f;refine Al<|AN ?_
       cases h
       refine BX (.cell Z Ae3 Z AI.e (AP (i:=0) t Z)) ⟨t.ext,Z⟩
      refine Au<|Aq<|An<|As 2 Z<|Ag (Gq Z)<|Ax h fun ag h=>Ag (Ay ag)<|Ax h fun ah h=>Ag (Ay ah)<|As 1 Z<|AE<|Az<|Aq<|An<|Ax h fun ai h=>Ag (Ay ai)<|As 1 Z<|AE ?_;have h:=Bw.again h f;have c:=c.mono (Ab y);refine AD (_,_,_) Z ⟨m,c,h⟩
     iterate 3 refine Ar e ?_
     refine Ag (AG e Z)<|Ad<|Co<|Au<|Aq<|An<|As 2 Z<|Ag (Gq Z)<|Ax h fun aj h=>Ag (Ay aj)<|Ax h fun ak h=>Ag (Ay ak)<|As 1 Z<|AE<|Az<|Aq<|An<|Ax h fun al h=>Ag (Ay al)<|As 1 Z<|AE ?_;have h:=Bw.again h f;refine AD (_,_,_) Z ⟨d,c,h⟩
    iterate 2 refine Ar j ?_
    refine Ag (AG j Z)<|As 1 Z ?_
    iterate 3 refine Ar Z ?_
    refine Ag (AG Z Z)<|Ad<|Co<|Au<|Aq<|An<|As 2 Z<|Ag (Gq Z)<|Ax h fun am h=>Ag (Ay am)<|Ax h fun an h=>Ag (Ay an)<|As 1 Z<|AE<|Az<|Aq<|An<|Ax h fun ao h=>Ag (Ay ao)<|As 1 Z<|AE ?_;have h:=Bw.again h f;refine AD (_,_,_) Z ⟨d,c,h⟩
   iterate 2 refine Ar g ?_
   refine Ag (AG g Z)<|As 1 Z ?_
   iterate 2 refine Ar Z ?_
   refine Ag (AG Z Z)<|As 1 Z ?_
   iterate 3 refine Ar Z ?_
   refine Ag (AG Z Z)<|Ad<|Co<|Au<|Aq<|An<|As 2 Z<|Ag (Gq Z)<|Ax h fun ap h=>Ag (Ay ap)<|Ax h fun aq h=>Ag (Ay aq)<|As 1 Z<|AE<|Az<|Aq<|An<|Ax h fun ar h=>Ag (Ay ar)<|As 1 Z<|AE ?_;have h:=Bw.again h f;refine AD (_,_,_) Z ⟨d,c,h⟩
  refine Bf<|A5<|A3 ?_;have h:=Bw.out h f;refine AY<|A8 () ⟨d,h⟩
 rintro _ bk ⟨ay,h⟩;refine Ao<|Ag (Ba (fun _=>B8 _))<|Ak 0 Z ay Z fun bl u a5=>Ad<|Aw ?_
 cases h
 refine BX (.cell Z Ae3 Z AI.e (AP (i:=0) u Z)) ⟨u.ext,Z⟩
def Lp(a0:Abv):Option Bool:=
 Qq9 (Jq a0) (fun a=>some (!a))
theorem R0{a0:Abv}{r:Bool}(h:Lp a0=some r):
  Qqv 164 [Abu a0] w (fun v w'=>v=.bool r):=by
 refine A4 6 [(0,(Abu a0))] func164 Z fun hL=>A7 1 Z<|Bo 1 Z<|A1 h fun e a h=>A9 hL (Ko _ _ (Av hL) a) fun f d b c=>AA 2 Z<|Aw ?_
 cases h
 refine Ah Z ⟨b.ext,Z⟩
def H6(a0:Abv)(a1:Abv):Option Bool:=
 if a0=([42,42]:Abv)then some (decide (a1=([42,42]:Abv)))else some false
theorem Nv{a0 a1:Abv}{r:Bool}(h:H6 a0 a1=some r):
  Qqv 245 [Abu a0,Abu a1] w (fun v w'=>v=.bool r):=by
 refine A4 11 [(0,(Abu a0)),(1,(Abu a1))] func245 Z fun hL=>A7 1 Z<|Bo 1 Z<|Ag (Kj Z Z)<|As 1 Z<|Bz 7 h ?_ ?_<;>intro a h
 ·refine Aa a<|Ag (Ai Z)<|Aa a<|Ag (Kj Z Z)<|Ag (AF a Z)<|AA 1 Z<|Aw ?_
  cases h
  refine Ah Z ⟨hL.ext,Z⟩
 iterate 2 refine Ar a ?_
 refine Ag (AG a Z)<|AA 1 Z<|Aw ?_
 cases h
 refine Ah Z ⟨hL.ext,Z⟩
end
def Jr:Option Bool:=
 some false
def CN(a0:List Abv)(a1:List Abv)(self:(List Abv)->(List Abv)->Option Bool):Int->Option ((Int)⊕(Bool)):=fun a=>
 if a<((a1.length:Int)+1)then AU (0<=(1:Int)/\(1:Int)<=(a0.length:Int)) (AU (0<=a/\a<=(a1.length:Int)) (Qq9 (self (a0.drop (1:Int).toNat) (a1.drop a.toNat)) (fun b=>if b then Qzx Sum.inr (some true)else AU (Bq (a+1)) (some (Sum.inl (a+1))))))else Qzx Sum.inr Jr
def R1(a0:List Abv)(a1:List Abv)(self:(List Abv)->(List Abv)->Option Bool)(s:Int):Option Bool:=Go.L.run (CN a0 a1 self) s
def Js(a0:List Abv)(a1:List Abv)(self:(List Abv)->(List Abv)->Option Bool):Option Bool:=
 if 0<(a1.length:Int)then AU (0<=(0:Int)/\(0:Int)<(a0.length:Int)) (if a0.getD ((0:Int).toNat) Qq2=([42]:Abv)then AU (0<=(1:Int)/\(1:Int)<=(a0.length:Int)) (AU (0<=(1:Int)/\(1:Int)<=(a1.length:Int)) (Qq9 (self (a0.drop (1:Int).toNat) (a1.drop (1:Int).toNat)) (fun a=>some a)))else AU (0<=(0:Int)/\(0:Int)<(a0.length:Int)) (AU (0<=(0:Int)/\(0:Int)<(a1.length:Int)) (if a0.getD ((0:Int).toNat) Qq2=a1.getD ((0:Int).toNat) Qq2 then AU (0<=(1:Int)/\(1:Int)<=(a0.length:Int)) (AU (0<=(1:Int)/\(1:Int)<=(a1.length:Int)) (Qq9 (self (a0.drop (1:Int).toNat) (a1.drop (1:Int).toNat)) (fun b=>some b)))else some false)))else some false
def F1(self:(List Abv)->(List Abv)->Option Bool)(a0:List Abv)(a1:List Abv):Option Bool:=
 if(a0.length:Int)=0 then some (decide ((a1.length:Int)=0))else AU (0<=(0:Int)/\(0:Int)<(a0.length:Int)) (if a0.getD ((0:Int).toNat) Qq2=([42,42]:Abv)then AU (Bq ((a1.length:Int)+1)) ((R1 a0 a1 self) (0:Int))else(Js a0 a1 self))
def Jt(self:(List Abv)->(List Abv)->Option Bool):Prop:=∀(w:World) (H:PH) (hH:Le H (hp w)) {a0:List Abv}{a1:List Abv}{a:Value}{b:Value} (c:AS .st H a a0) (d:AS .st H b a1) {r:Bool} (h:self a0 a1=some r),Ok prog 246 [a,b] w (fun v w'=>Ext w w'/\v=.bool r)
def Fo:Nat->(List Abv)->(List Abv)->Option Bool
 | 0=>fun _ _=>none
 | n+1=>F1 (Fo n)
def Qi:(List Abv)->(List Abv)->Option Bool:=Fo 1000
theorem R2(self:(List Abv)->(List Abv)->Option Bool)(hself:Jt self):Jt (F1 self):=by
 intro w H hH a0 a1 k l f g r h;unfold Jt at hself;refine A4 54 [(0,k),(1,l)] func246 Z fun hL=>A7 1 Z<|A6<|Bo 1 Z<|Ag (AZ f)<|AA 1 Z<|AL h ?_ ?_<;>intro bg h
 ·refine Bo 1 Z<|Ag (AZ g)<|AA 2 Z<|Aw<|Am ?_
  cases h
  refine Ah Z ⟨hL.ext,Z⟩
 refine Au<|Aq<|Bb Unit (fun(_:Unit)=>[(0,k),(1,l)]) (fun(_:Unit) wr=>Bk w [] wr/\(Js a0 a1 self)=some r) ?_ ?_
 ·refine Bo 1 Z<|Ax h fun aa h=>AW f ((0:Int).toNat) (Cx aa) (AM aa) ?_;rintro b8 _ rfl bb;refine Ag (AT bb (hH.trans hL.arg))<|Ag (Kj Z Z)<|Ad<|AL h ?_ ?_<;>intro bc h
  ·refine Bb Unit (fun(_:Unit)=>[]) (fun(_:Unit) wr=>Bk w [] wr/\Jr=some r) ?_ ?_
   ·refine Bo 1 Z<|Ag (AZ g)<|Ax h fun bd h=>Ag (Ay bd)<|AA 1 Z<|A2 ?_;obtain⟨m,h⟩:=AR h;refine Bj (Int×Nat) (fun⟨e,n⟩=>[(0,k),(1,l),(18,No ((a1.length:Int)+1)),(19,No e)]) (fun⟨e,n⟩ wr=>Bk w [] wr/\DR (CN a0 a1 self) n e=some r) (fun⟨e,n⟩=>n) (0,m) Z ⟨hL,h⟩ ?_;rintro⟨e,nn116⟩ bh ⟨o,h⟩;obtain⟨m,bi,rfl,h,i⟩:=AQ h;refine A7 1 Z<|A6<|AL h ?_ ?_<;>intro ab h
    ·refine Au<|Aq<|A6<|A2<|A7 2 Z<|BZ (Qqz 0 6 (.tail 6)) mixed Qqb (fun bj ac=>?_);have j:=o.call ac;refine B9 1 Z<|Ax h fun ad h=>Px Z Z Ae5 f ad Z fun bk ae=>B9 2 Z<|Ax h fun af h=>Px Z Z Ae5 g af Z fun bl ag=>A1 h fun bm ah h=>Er Z Z Z (fun bn p=>hself _ _ (Le.refl _) ((ae.mono (hH.trans j.arg)).mono p.le) ((ag.mono (hH.trans j.arg)).mono p.le) ah)<|Bt (fun bo ai=>?_);have t:=j.call ai;refine Ad<|Bi h ?_ ?_<;>intro aj h
     ·refine A7 1 Z<|Aw<|Al<|Am<|Bc ?_;have h:=Bw.out h i;refine Al ?_
      iterate 2 refine AN ?_
      cases h
      refine Ah Z ⟨t.ext,Z⟩
     refine Au<|Az<|Aq<|An<|Ax h fun ak h=>Ag (Ay ak)<|As 1 Z<|AE ?_;have h:=Bw.again h i;refine AD (_,_) Z ⟨t,h⟩
    refine Bf<|A5<|A3 ?_;have h:=Bw.out h i;refine AY<|A8 () ⟨o,h⟩
   rintro _ bp ⟨be,h⟩;refine A7 1 Z<|Aw<|AN ?_
   cases h
   refine Ah Z ⟨be.ext,Z⟩
  refine Au<|A8 () ⟨hL,h⟩
 rintro _ bq ⟨bf,h⟩;refine BZ (Qqz 0 26 (.tail 26)) mixed Qqb (fun br al=>?_);have c:=bf.call al;refine B9 1 Z<|B2 Z (AZ g) Z<|B9 2 Z<|HO 32 Z (fun a=>?_) (fun a=>?_)
 ·have h:=OD (of_decide_eq_true a) h;refine CM Z (Ai Z) Z Z Z a Z<|Ax h fun u h=>I2 Z Z Z Z a Z Z Ae5 f ((0:Int).toNat) (Cx u) (AM u) Z ?_;rintro bs _ rfl am;refine CM Z (AT am (hH.trans c.arg)) Z Z Z a Z<|CM Z (Kj Z Z) Z Z Z a Z<|CM Z (Ai Z) Z Z Z a Z<|HO 37 Z (fun b=>?_) (fun b=>?_)
  ·have h:=OD (of_decide_eq_true b) h
   iterate 7 refine NP Z Z Z Z b Z ?_
   refine CM Z (AF b Z) Z Z Z a Z<|B2 Z (AF a Z) Z<|B9 1 Z<|CM Z (Ai Z) Z Z Z Z Z<|Ax h fun an h=>KV Z Z Z Ae5 f an Z fun bt ao=>CM Z (Ai Z) Z Z Z Z Z<|Ax h fun ap h=>KV Z Z Z Ae5 g ap Z fun bu aq=>A1 h fun bv ar h=>Sf Z Z Z Z Z Z Z (fun bw v=>hself _ _ (Le.refl _) ((ao.mono (hH.trans c.arg)).mono v.le) ((aq.mono (hH.trans c.arg)).mono v.le) ar)<|B2 Z (AF Z Z) Z<|B9 1 Z<|Bt (fun bx au=>?_);have av:=c.call au;refine Ad<|Aw ?_
   cases h
   refine Ah Z ⟨av.ext,Z⟩
  have h:=OE (of_decide_eq_false b) h;refine CM Z (Ai Z) Z Z Z b Z<|Ax h fun x h=>I2 Z Z Z Z b Z Z Ae5 f ((0:Int).toNat) (Cx x) (AM x) Z ?_;rintro bz _ rfl aw;refine CM Z (AT aw (hH.trans c.arg)) Z Z Z b Z<|CM Z (Ai Z) Z Z Z b Z<|Ax h fun y h=>I2 Z Z Z Z b Z Z Ae5 g ((0:Int).toNat) (Cx y) (AM y) Z ?_;rintro b0 _ rfl ax;refine CM Z (AT ax (hH.trans c.arg)) Z Z Z b Z<|CM Z (Kj Z Z) Z Z Z b Z<|CM Z (AG b Z) Z Z Z a Z<|B2 Z (AF a Z) Z<|B9 1 Z<|HO 47 Z (fun d=>?_) (fun d=>?_)
  ·have h:=OD (of_decide_eq_true d) h;refine CM Z (Ai Z) Z Z Z d Z<|Ax h fun ay h=>KV Z d Z Ae5 f ay Z fun b1 az=>CM Z (Ai Z) Z Z Z d Z<|Ax h fun a2 h=>KV Z d Z Ae5 g a2 Z fun b2 a3=>A1 h fun b3 a4 h=>Sf Z Z Z Z d Z Z (fun b4 z=>hself _ _ (Le.refl _) ((az.mono (hH.trans c.arg)).mono z.le) ((a3.mono (hH.trans c.arg)).mono z.le) a4)<|B2 Z (AF d Z) Z<|B9 1 Z<|Bt (fun b5 a5=>?_);have a6:=c.call a5;refine Ad<|Aw ?_
   cases h
   refine Ah Z ⟨a6.ext,Z⟩
  have h:=OE (of_decide_eq_false d) h
  iterate 5 refine NP Z Z Z Z d Z ?_
  refine B2 Z (AG d Z) Z<|B9 1 Z<|Bt (fun b6 a7=>?_);have a8:=c.call a7;refine Ad<|Aw ?_
  cases h
  refine Ah Z ⟨a8.ext,Z⟩
 have h:=OE (of_decide_eq_false a) h
 iterate 5 refine NP Z Z Z Z a Z ?_
 iterate 7 refine ZZ Z Z Z Z Z ?_
 refine NP Z Z Z Z a Z<|B2 Z (AG a Z) Z<|B9 1 Z ?_
 iterate 5 refine NP Z Z Z Z Z Z ?_
 refine B2 Z (AG Z Z) Z<|B9 1 Z<|Bt (fun b7 a9=>?_);have ba:=c.call a9;refine Ad<|Aw ?_
 cases h
 refine Ah Z ⟨ba.ext,Z⟩
theorem TI(n:Nat):Jt (Fo n):=by
 induction n with
 | zero=>unfold Jt;intros;rename_i h;cases h
 | succ n ih=>exact R2 (Fo n) ih
section
variable(w:World)(H:PH)(hH:Le H (hp w)) include hH
theorem V5{a0 a1:List Abv}{a b:Value}(c:AS .st H a a0)(d:AS .st H b a1){r:Bool}(h:Qi a0 a1=some r):Ok prog 246 [a,b] w (fun v w'=>Ext w w'/\v=.bool r):=TI 1000 w H hH c d h
def Ka:Option Int:=
 some ((-1))
def DW(a0:List Abv):Int->Option ((Int)⊕(Int)):=fun a=>
 if a<(a0.length:Int)then AU (0<=a/\a<(a0.length:Int)) (Qq9 (Lp (a0.getD a.toNat Qq2)) (fun b=>if b then Qzx Sum.inr (some a)else AU (Bq (a+1)) (some (Sum.inl (a+1)))))else Qzx Sum.inr Ka
def Nx(a0:List Abv)(s:Int):Option Int:=Go.L.run (DW a0) s
def Mg(a0:List Abv):Option Int:=
 (Nx a0) (0:Int)
theorem Sy{a0:List Abv}{b:Value}(e:AS .st H b a0){r:Int}(h:Mg a0=some r):
  Qqv 71 [b,.func (.func 164) #[] #[]] w (fun v w'=>v=No r):=by
 refine A4 19 [(0,b),(1,.func (.func 164) #[] #[])] func71 Z fun hL=>A7 1 Z<|Bb Unit (fun(_:Unit)=>[]) (fun(_:Unit) wr=>Bk w [] wr/\Ka=some r) ?_ ?_
 ·refine Bo 1 Z<|Ag (AZ e)<|AA 1 Z<|A2 ?_;obtain⟨f,h⟩:=AR h;refine Bj (Int×Nat) (fun⟨a,n⟩=>[(0,b),(1,.func (.func 164) #[] #[]),(7,No (a0.length:Int)),(8,No a)]) (fun⟨a,n⟩ wr=>Bk w [] wr/\DR (DW a0) n a=some r) (fun⟨a,n⟩=>n) (0,f) Z ⟨hL,h⟩ ?_;rintro⟨a,nn42⟩ s ⟨c,h⟩;obtain⟨f,x,rfl,h,d⟩:=AQ h;refine A7 1 Z<|A6<|AL h ?_ ?_<;>intro j h
  ·refine Au<|Aq<|A6<|A2<|A7 2 Z<|Bo 3 Z<|Ax h fun g h=>AW e a.toNat (Cx g) (AM g) ?_;rintro y _ rfl k;refine Ag (AT k (hH.trans c.arg))<|A1 h fun z l h=>P1 c (R0 _ _ (Av c) l) ?_;rintro _ aa rfl t i q;refine Ad<|Bi h ?_ ?_<;>intro m h
   ·refine A7 2 Z<|Aw<|Al<|Am<|Bc ?_;have h:=Bw.out h d;refine Al<|AN ?_
    cases h
    refine Ah Z ⟨i.ext,Z⟩
   refine Au<|Az<|Aq<|An<|Ax h fun o h=>Ag (Ay o)<|As 1 Z<|AE ?_;have h:=Bw.again h d;refine AD (_,_) Z ⟨i,h⟩
  refine Bf<|A5<|A3 ?_;have h:=Bw.out h d;refine AY<|A8 () ⟨c,h⟩
 rintro _ u ⟨p,h⟩;refine A7 1 Z<|Aw ?_
 cases h
 refine Ah Z ⟨p.ext,Z⟩
def Gk(a0:List Abv):Option Bool:=
 Qq9 (Mg a0) (fun a=>some (decide (0<=a)))
theorem S0{a0:List Abv}{a:Value}(b:AS .st H a a0){r:Bool}(h:Gk a0=some r):
  Qqv 40 [a,.func (.func 164) #[] #[]] w (fun v w'=>v=.bool r):=by
 refine A4 9 [(0,a),(1,.func (.func 164) #[] #[])] func40 Z fun hL=>A7 1 Z<|Bo 2 Z<|A1 h fun g c h=>A9 hL (Sy _ _ (Av hL) (b.mono  Aj) c) fun i f d e=>AA 2 Z<|Aw ?_
 cases h
 refine Ah Z ⟨d.ext,Z⟩
end
end Go.Proofs.YtopocbcekabkoaaGreatDoor
end
