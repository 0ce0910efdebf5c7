/- Texts of a claim, merged. -/
import Derived.Test.YtfgomcdgmihmpaaGreatDoorLa8
import Derived.ProofKit
import Derived.OpenShut
import Derived.Carry
import Derived.Deep.Slices
import Derived.Test.YtfgomcdgmihmpaaGreatDoorRows
import Derived.Lib.LaidU8T
import Derived.Lib.LaidTab
import Derived.Stop.LaidErr
import Derived.LaidMore
import Derived.MakeChecks
import Derived.LaidHandle
import Derived.KernelRfl
open List renaming getElem?_eq_some_iff->Qz0,mem_append->QzC
set_option linter.unusedVariables false
set_option linter.unusedSimpArgs false
noncomputable section
namespace Go.E
open Go Go.RowKit Go.ChangeShapes Go.WideShapes
section
variable {H:Type}{enc:TypeId×Value->H}{P:Program}{w:World}{base:Nat}{spare:Nat->Bool}{held:Bool}
theorem wf_u8{n:Int}(h:(Lit.int .u8 n).wf=true):0<=n/\n<=255:=by
 simpa[Lit.wf,IntKind.min,IntKind.max,IntKind.signed,IntKind.bits]using h
theorem MZ(hl:laidOutB P=true){W W':World}(hb:Below W.heap.size W W'):∀{ts:List TypeId}{vs:QqK}{ds:List (DataW H)}{ps:List MemPlace},(∀t∈ts,P.readableRec t=true/\t<P.types.size)->
  DataW.TrodAll enc P W 0 (fun _=>true) true ts vs ds ps->(∀x∈ps,x.block<W.heap.size)->DataW.TrodAll enc P W' 0 (fun b=>decide (b<W.heap.size)) true ts vs ds ps
 | [],[],[],ps,_,h,_=>h
 | t::ts,v::vs,d::ds,ps,ht,h,hlt=>by
  obtain⟨p,q,c,h2,rfl⟩:=h;have a:=ht t (.head _);exact⟨p,q,Below.trod hl a.1 a.2 c hb (fun x hx=>hlt x (QzC.2 (.inl hx))),MZ hl hb (fun t' h'=>ht t' (.tail _ h')) h2 (fun x hx=>hlt x (QzC.2 (.inr hx))),Z⟩
 | [],[],_::_,_,_,h,_=>by cases h
 | [],_::_,_,_,_,h,_=>by cases h
 | _::_,[],_,_,_,h,_=>by cases h
 | _::_,_::_,[],_,_,h,_=>by cases h
end
end Go.E
namespace Go.E
open Go Go.RowKit Go.ChangeShapes Go.WideShapes Go.Deep
def Reads(P:Program)(t:TypeId){α:Type}(r:Rp α)(ok:α->Prop):Prop:=
 ∀
  {H:Type}{enc:TypeId×Value->H}{w:World}{base:Nat}{spare:Nat->Bool}{held:Bool}{fuel:Nat}{cs:QqK}{x:DataW H×List MemPlace},
  DataW.trod enc P w base spare held fuel t cs=some x->∃a,r.rel (hp w) a cs/\ok a
section
variable {P:Program}{t e:TypeId}
theorem Sv(ht:P.underlying t=some (.int .u8)):Reads P t .byte (fun _=>True):=fun h=>by
 obtain⟨n,rfl,_,hw⟩:=DataW.trod_int ht h;have hw':=wf_u8 hw;refine⟨Go.L.u8 n,?_,trivial⟩
 show[_]=[_]
 rw[Go.L.Rs,Int.emod_eq_of_lt U U]
theorem RJ[Dr]{α:Type}{r:Rp α}{ok:α->Prop}(ht:P.underlying t=some (.slice e))(hc:P.cellsOf e=r.sz)(hsz:0<r.sz)(hr:Reads P e r ok):Reads P t (.vec r) (fun l=>l.length<=9223372036854775807/\∀x∈l,ok x):=fun {H enc w base spare held fuel cs x} h=>by
 rcases open_slice ht h with ⟨rfl,_⟩ | ⟨a,len,cap,m,n,D,Pl,rfl,hb,hl,hm,rfl,_,hel⟩
 ·exact⟨[],⟨_,Z,AD.nil _ _⟩,by simp,by simp⟩
 ·have q:len<=(if spare a.block then cap else len):=by split <;> omega
  have hx:∀i,i<len->∃y,ok y/\∃c,r.rel (hp w) y c/\w.cells? base (a.add (i * r.sz)) r.sz=some c:=fun i hi=>by
   obtain⟨cs',f,h2⟩:=hel i U;obtain⟨y,h3,b⟩:=hr h2;rw[hc]at f;exact⟨y,b,cs',h3,f⟩
  have key:∀k,k<=len->∃l:List α,l.length=k/\(∀x∈l,ok x)/\∀i y,l[i]? = some y->∃c,r.rel (hp w) y c/\w.cells? base (a.add (i * r.sz)) r.sz=some c:=by
   intro k
   induction k with
   | zero=>intro _;exact⟨[],Z,by simp,by simp⟩
   | succ k ih=>
    intro hk;obtain⟨l,f,h2,h3⟩:=ih U;obtain⟨y,b,c,d,p⟩:=hx k U;refine⟨l++[y],by simp[f],fun z hz=>?_,fun i z hz=>?_⟩
    ·rcases QzC.1 hz with hz | hz
     ·exact h2 z hz
     ·simp at hz;subst hz;exact b
    ·rcases Nat.lt_or_ge i l.length with hi | hi
     ·rw[List.getElem?_append_left hi]at hz;exact h3 i z hz
     ·rw[List.getElem?_append_right hi]at hz
      have g:i - l.length=0:=by
       have:=(Qz0.1 hz).1;simp at this;omega
      rw[g]at hz;simp at hz;subst hz;obtain rfl:i=k:=by omega
      exact⟨c,d,p⟩
  obtain⟨l,f,h2,h3⟩:=key len (Nat.le_refl _);have hlm:len<=9223372036854775807:=by unfold maxLen at hm;omega
  refine⟨l,⟨_,Z,some a,cap,by rw[f],by omega,hm,(fun h=>by cases h),fun A hA hne=>?_⟩,by omega,h2⟩
  cases hA
  have cell:∀i y,l[i]? = some y->∃c,r.rel (hp w) y c/\∀j u,c[j]? = some u->w.cell? ((a.add (i * r.sz)).add j)=some u:=fun i y hy=>by
   obtain⟨c,b,d⟩:=h3 i y hy;obtain⟨_,hlen,hcell⟩:=World.cells?_some d;exact⟨c,b,fun j u hu=>by rw[<- hu];exact hcell j (by rw[<- hlen];exact(Qz0.1 hu).1)⟩
  have hspot:a.spot=none:=by
   obtain⟨y,l',rfl⟩:=List.exists_cons_of_ne_nil hne;obtain⟨c,b,d⟩:=cell 0 y Z;have o:0<c.length:=by rw[r.len b];omega
   have:=World.cell?_spot (d 0 _ (List.getElem?_eq_getElem o))
   simpa[Addr.add]using this
  refine⟨hspot,fun i y hy=>?_⟩;obtain⟨c,b,d⟩:=cell i y hy;refine⟨c,b,fun j u hu=>?_⟩;rw[<- Kp hspot];exact d j u hu
end
end Go.E
end
noncomputable section
namespace Go.Proofs.YtfgomcdgmihmpaaGreatDoor
open Go Go.E Go.Shelf Go.Lib
def Qy : List (String × DataW Unit) := [("math/bits.deBruijn32tab", Rows.laid_math_bits_deBruijn32tab), ("math/bits.deBruijn64tab", Rows.laid_math_bits_deBruijn64tab), ("internal/strconv.uint64pow10", Rows.laid_internal_strconv_uint64pow10), ("unicode/utf8.acceptRanges", Rows.laid_unicode_utf8_acceptRanges), ("strconv.ErrRange", Rows.laid_strconv_ErrRange), ("strconv.ErrSyntax", Rows.laid_strconv_ErrSyntax), ("unicode.White_Space", Rows.laid_unicode_White_Space), ("strings.asciiSpace", Rows.laid_strings_asciiSpace), ("unicode/utf8.first", Rows.laid_unicode_utf8_first)]
theorem star : "*" ++ "errors.errorString" = "*errors.errorString" := by decide
theorem Vn (u : TypeId) (h : Tryz.prog.typeName? 3 u = some "*errors.errorString") : u = 247 :=
 typeName_ptr_named (nm := "errors.errorString") (by rw[star]; kernel_rfl) (by kernel_rfl) (by decide) u (by rw[star]; exact h)
theorem Vo{W w:World}{n:String}{cs:Array Value}(hs:Le (hp W) (hp w))(h:W.var? Tryz.prog n=some cs):w.var? Tryz.prog n=some cs:=by
 unfold World.var? at h ⊢
 cases hg:Tryz.prog.globalNamed n with
 | none=>rw[hg]at h;cases h
 | some g=>
  rw[hg]at h;simp only[Option.bind_some]at h ⊢
  cases ho:W.heap[g]? with
  | none=>rw[ho]at h;cases h
  | some o=>rw[ho]at h;rw[show w.heap[g]? = some o from hs g o ho];exact h
theorem O6{W:World}{n:String}{g:Nat}{v:Value}(hg:Tryz.prog.globalNamed n=some g)(h:W.var? Tryz.prog n=some #[v]):GZ (hp W) ⟨g,0,none⟩=some v:=by
 rw[QZ,World.var?_cell hg h 0]
 rfl
theorem QS{W:World}(h:laidMetH Tryz.prog Qy W):I3 (hp W):=by
 rw[MakeChecks.laidMetH_plain _ _ _ V]at h;have d:(Rows.laid_internal_strconv_uint64pow10:DataW Unit)=tabData .u64 pow10Tab:=by kernel_rfl
 have f:(Rows.laid_strings_asciiSpace:DataW Unit)=tabData .u8 asciiSpaceTab:=by kernel_rfl
 have hT : laidMet Tryz.prog (("internal/strconv.uint64pow10", tabData .u64 pow10Tab) :: _) W := d ▸ h.tail.tail
 have a : TabIs Tryz.prog W "internal/strconv.uint64pow10" .u64 pow10Tab := tabIs_of_head (g := 7) (t := 251) (e := 163) (n := 20) (by kernel_rfl) (by kernel_rfl) Tryz.underlying251 Tryz.underlying163 (by kernel_rfl) (by kernel_rfl) hT
 have hS : laidMet Tryz.prog (("strings.asciiSpace", tabData .u8 asciiSpaceTab) :: _) W := f ▸ h.tail.tail.tail.tail.tail.tail.tail
 have hsp : TabIs Tryz.prog W "strings.asciiSpace" .u8 asciiSpaceTab := tabIs_of_head (g := 0) (t := 141) (e := 5) (n := 256) (by kernel_rfl) (by kernel_rfl) Tryz.underlying141 Tryz.underlying5 (by kernel_rfl) (by kernel_rfl) hS
 obtain⟨a1,i,b,_⟩:=laid_sentinel (g:=4) h.tail.tail.tail.tail V V Tryz.underlying146 Vn Tryz.underlying247 Tryz.underlying249 Z Z Tryz.underlying9 V V;obtain⟨a2,j,c,_⟩:=laid_sentinel (g:=3) h.tail.tail.tail.tail.tail V V Tryz.underlying146 Vn Tryz.underlying247 Tryz.underlying249 Z Z Tryz.underlying9 V V;exact⟨fun w hw=>Vo hw a,⟨_,_,O6 V c⟩,⟨_,_,O6 V b⟩,fun w hw=>Vo hw hsp⟩
noncomputable def Oy(os:Os):World:=
 let N:=(World.settled Tryz.prog os).heap.size
 let u (l:QqX):Array Value:=(l.map (Value.int .u16)).toArray
 let a:=World.holding Tryz.prog os ⟨#[.cells #[.string ⟨#[118,97,108,117,101,32,111,117,116,32,111,102,32,114,97,110,103,101]⟩] 249,.cells #[.string ⟨#[105,110,118,97,108,105,100,32,115,121,110,116,97,120]⟩] 249,
  .cells #[.slice (some ⟨N+3,0,none⟩) 7 7,.slice none 0 0,.int .i64 2] 206,.cells (u [9,13,1,32,133,101,160,5760,5600,8192,8202,1,8232,8233,1,8239,8287,48,12288,12288,1]) 209],#[],[]⟩
 let put (h:Array Obj) (g:Nat) (cs:Array Value):Array Obj:=h.modify g fun
  | .cells _ t frozen=>.cells cs t frozen
  | o=>o
 let b:=put (put a.heap 4 #[.iface 247 (.pointer (some ⟨N,0,none⟩))]) 3 #[.iface 247 (.pointer (some ⟨N+1,0,none⟩))]
 let c:=put (put b 5 (Lib.firstTab.map fun z=>Value.int .u8 z).toArray) 6 ((List.range 16).flatMap fun i=>[Value.int .u8 (Lib.accLo i),Value.int .u8 (Lib.accHi i)]).toArray
 let h2:=put (put (put c 7 (pow10Tab.map (Value.int .u64)).toArray) 0 (asciiSpaceTab.map (Value.int .u8)).toArray) 2 #[.pointer (some ⟨N+2,0,none⟩)]
 let nums (d:DataW Unit):Array Value:=match d with
  | .agg l=>(l.map fun | .lit (.int k z)=>Value.int k z | _=>.int .u8 0).toArray
  | _=>#[]
 let h3:=put (put h2 8 (nums Rows.laid_math_bits_deBruijn32tab)) 9 (nums Rows.laid_math_bits_deBruijn64tab)
 {a with heap:=h3}
def WI:MemPlace->Nat
 | .cell b off=>b * 512+off
 | .map r=>r
def QT:List Nat->Nat->Bool
 | [],_=>true
 | x::l,m=>!m.testBit x&&QT l (m ||| 2 ^ x)
theorem O7:∀(l:List Nat) (m:Nat),QT l m=true->l.Nodup/\∀x∈l,m.testBit x=false
 | [],_,_=>⟨List.nodup_nil,fun x hx=>(by cases hx)⟩
 | x::l,m,h=>by
  simp only[QT,Bool.and_eq_true,Bool.not_eq_true']at h;obtain⟨a,h2⟩:=O7 l _ h.2;refine⟨List.nodup_cons.2 ⟨fun hx=>?_,a⟩,fun y hy=>?_⟩
  ·have:=h2 x hx;simp[Nat.testBit_or,Nat.testBit_two_pow]at this
  ·rcases List.mem_cons.1 hy with rfl | hy
   ·exact h.1
   ·have:=h2 y hy;rw[Nat.testBit_or,Bool.or_eq_false_iff]at this;exact this.1
theorem TJ{ps:List MemPlace}:(ps.map WI).Nodup->ps.Nodup:=by
 induction ps with
 | nil=>intro _;exact List.nodup_nil
 | cons p ps ih=>
  intro h;rw[List.map_cons,List.nodup_cons]at h;exact List.nodup_cons.2 ⟨fun hp=>h.1 (List.mem_map_of_mem hp),ih h.2⟩
theorem X8{P:Program}{w:World}{l:List (String×DataW Unit)}(fuel:Nat)(h:(DataW.laidRun P w fuel (l.map (·.1))).map (·.1)=some l)
  (hn:(DataW.laidRun P w fuel (l.map (·.1))).map (fun x=>QT (x.2.map WI) 0)=some true) (hr:(DataW.laidRun P w fuel (l.map (·.1))).map (fun x=>laidRowsB P w x.2)=some true):laidMet P l w:=by
 cases hx:DataW.laidRun P w fuel (l.map (·.1))with
 | none=>simp[hx]at h
 | some x=>
  obtain⟨l',ps⟩:=x;simp only[hx,Option.map_some,Option.some.injEq]at h hn hr;subst h;exact laidMet_of_run fuel hx (decide_eq_true (TJ (O7 _ _ hn).1)) hr
set_option maxRecDepth 100000 in
theorem Vp(os:Os)(args:Array Value):laidMet Tryz.prog (Qy.filter fun x=>x.2.handleName?.isNone) ((Oy os).forCall (fun _ _=>0) ⟨#[],args,[]⟩).memory:=X8 12 (by as_aux_lemma=>kernel_rfl) (by as_aux_lemma=>kernel_rfl) (by as_aux_lemma=>kernel_rfl)
set_option maxRecDepth 100000 in
theorem Vq(os:Os)(args:Array Value):laidMetH Tryz.prog Qy ((Oy os).forCall (fun _ _=>0) ⟨#[],args,[]⟩).memory:=
 laidMetH_of_parts3 (fuel:=12) (Vp os args) V V
end Go.Proofs.YtfgomcdgmihmpaaGreatDoor
end
