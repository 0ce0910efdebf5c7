/- Texts of a claim, merged. -/
import Derived.Test.YtekmbcbgknmhiaaGreatDoorLb6
import Derived.KernelRfl
import Derived.ProofKit
import Derived.OpenShut
import Derived.Carry
import Derived.Deep.Slices
import Derived.Test.YtekmbcbgknmhiaaGreatDoorRows
import Derived.Lib.LaidU8T
import Derived.Lib.LaidTab
import Derived.Stop.LaidErr
import Derived.LaidMore
import Derived.MakeChecks
import Derived.LaidHandle
set_option linter.unusedVariables false
set_option linter.unusedSimpArgs false
open _root_.Go.Proofs.Tryz renaming underlying58→AaR,underlying3→AaT,underlying5→Ab9,underlying22→AbE,underlying64→AbG,underlying26→AbP,underlying109→AbR,underlying9→Abb,underlying23→Abe,underlying28→Abs,underlying94→Ac3,underlying46→AcM,underlying137→AcS,underlying24→AcV,underlying62→Acm,underlying98→Ade,underlying42→Adi,underlying66→Adj,underlying52→Adk,underlying50→Adl,underlying43→Adm,underlying4→Adn
noncomputable section
namespace Go.Proofs.YtekmbcbgknmhiaaGreatDoor
open Go Go.L
theorem X1{s:List UInt8}{c:UInt8}(hs:s.length≤1000000):strings_Split s [c]=some (Lib.split s [c]):=by
 unfold strings_Split Mb;rw [An ⟨by omega,rfl,rfl,rfl⟩]
 rfl
theorem AbM{α:Type}{k:Int}(o:Option (α×List UInt8)):Option.bind (Sh k o) (fun x=>P9 x (some none) (fun y=>some (some (y.1,(y.2.1,y.2.2)))))=Sh k o:=by
 cases o <;> rfl
theorem Sb{one:List UInt8→Option (Qv×List UInt8)}{self:(List UInt8×Int)→Option (Option (Qv×(List UInt8×Int)))}{k:Int}{n:Nat}(hn:n≤1000000)(a:RZ one)(hs:∀ r,r.length<n→self (r,k)=Sh k (one r))
  {kind:Int} {sg:UInt8} {y:Qv×(List UInt8×Int)}:∀ (f:Nat) (l:List Qv) (r:List UInt8),r.length<f→r.length<n→l.length+r.length≤2000000→
  Ca kind [sg] self y (l,r,k)=Sh k ((Xy one sg f l r).map fun x=>(if x.1.length=1 then y.1 else .mk kind [] [] [] 0 0 x.1,x.2))
 | 0,_,_,h,_,_=>by omega
 | f+1,l,r,h,hr,hl=>by
  unfold Ca;rw [Xy]
  by_cases hsg:r.head? = some sg
  ·have ht:=CC hsg;rw [if_pos hsg]
   have hb:BC kind [sg] self y (l,r,k)=Option.bind (Sh k (one r.tail)) (fun b=>P9 b (Option.map Sum.inr (some none)) (fun y86=>Go.L.AU (Go.E.JE 112 (l.length+([y86.1]).length)) (some (Sum.inl ((l++[y86.1]),y86.2.1,y86.2.2))))):=by
    unfold BC;simp only;rw [NK hsg,Option.bind_some];simp only [if_true];rw [hs _ (by omega)]
   cases ho:one r.tail with
   | none=>
    rw [ho] at hb;exact Bm (m:=some none) hb
   | some x=>
    rw [ho] at hb;obtain⟨_,hx⟩:=a r.tail x (by omega) ho
    have hb':BC kind [sg] self y (l,r,k)=some (.inl (l++[x.1],x.2,k)):=by
     rw [hb]
     show Go.L.AU _ _=_
     rw [An (by unfold Go.E.JE;simp only [List.length_cons,List.length_nil];omega)]
    rw [BA hb',Option.bind_some];have:=Sb (kind:=kind) (sg:=sg) (y:=y) hn a hs f (l++[x.1]) x.2 (by omega) (by omega) (by simp;omega);unfold Ca at this;exact this
  ·rw [if_neg hsg];refine Bm ?_;unfold BC;simp only;rw [MT hsg,Option.bind_some];simp only [Bool.false_eq_true,if_false];unfold CQ Sh;simp only [Option.map_some]
   by_cases he:l.length=1
   ·rw [if_pos he,if_pos (by omega)];rfl
   ·rw [if_neg he,if_neg (by omega)];rfl
theorem Tc{one:List UInt8→Option (Qv×List UInt8)}{self:(List UInt8×Int)→Option (Option (Qv×(List UInt8×Int)))}{k:Int}{n:Nat}(hn:n≤1000000)(a:RZ one)(hs:∀ r,r.length<n→self (r,k)=Sh k (one r))
  {kind:Int} {sg:UInt8} {r:List UInt8} (hr:r.length<n):Ct self (r,k) kind [sg]=Sh k (Wz one kind sg r):=by
 unfold Ct Wz;simp only;rw [hs r hr]
 cases ho:one r with
 | none=>rfl
 | some x=>
  obtain⟨_,hx⟩:=a r x (by omega) ho
  show Ca kind [sg] self (x.1,(x.2,k)) ([x.1],x.2,k)=_
  rw [Sb hn a hs (x.2.length+1) [x.1] x.2 (by omega) (by omega) (by simp;omega)]
  rfl
theorem UY{lf:List UInt8→Option (Qv×List UInt8)}{self:(List UInt8×Int)→Option (Option (Qv×(List UInt8×Int)))}{k:Int}{n:Nat}(hn:n≤1000000)(a:RZ lf)(hs:∀ r,r.length<n→self (r,k)=Sh k (lf r))
  {r:List UInt8} (hr:r.length<n):C8 self (r,k)=Sh k (W0 lf r):=by
 have b:∀ r,r.length<n→Cp self (r,k)=Sh k (Wz lf 8 38 r):=fun r hr=>by
  unfold Cp;rw [Tc hn a hs hr];exact AbM _
 have c:Ey self (r,k) 9 [124]=Ct (Cp self) (r,k) 9 [124]:=rfl;unfold C8;simp only;rw [c,Tc hn (Sa a) b hr];exact AbM _
theorem Zj{k:Int}:∀ (n m:Nat) (r:List UInt8),n≤1000000→r.length<n→n≤m→Cq m (r,k)=Sh k (PU Sg n r)
 | 0,_,_,_,h,_=>by omega
 | n+1,0,_,_,_,h=>by omega
 | n+1,m+1,r,hn,hr,hm=>by
  have ih:∀ r,r.length<n→Cq m (r,k)=Sh k (PU Sg n r):=fun r hr=>Zj n m r (by omega) hr (by omega)
  show C3 (Cq m) (r,k)=_
  unfold C3;simp only;rw [PU]
  by_cases b:r.head? = some 33
  ·have:=CC b;rw [NK b,if_pos b,Option.bind_some];simp only [if_true];rw [ih _ (by omega)]
   cases PU Sg n r.tail <;> rfl
  rw [MT b,if_neg b,Option.bind_some];simp only [Bool.false_eq_true,if_false]
  by_cases c:r.head? = some 40
  ·have:=CC c;rw [NK c,if_pos c,Option.bind_some];simp only [if_true];rw [UY (by omega) (TY VH n) ih (by omega)]
   cases W0 (PU Sg n) r.tail with
   | none=>rfl
   | some x=>
    show Option.bind (B1 (x.2,k) [41]) _=_
    rw [Zf,Option.bind_some];unfold YZ
    by_cases g:x.2.head? = some 41
    ·rw [if_pos g]
     show _=Sh k (if x.2.head? = some 41 then some (x.1,x.2.tail) else none)
     rw [if_pos g]
     rfl
    ·rw [if_neg g]
     show _=Sh k (if x.2.head? = some 41 then some (x.1,x.2.tail) else none)
     rw [if_neg g]
     rfl
  rw [MT c,if_neg c,Option.bind_some];simp only [Bool.false_eq_true,if_false];unfold Sg
  by_cases d:r.head? = some 34
  ·have:=CC d;have hl:=LG [34] r.tail;rw [NK d,if_pos d,Option.bind_some];simp only [if_true];rw [Pr (by omega) (.inr rfl),Option.bind_some];simp only;rw [X1 (by omega),Option.bind_some,Zf,Option.bind_some]
   cases YZ 34 (Mn [34] r.tail).2 <;> rfl
  rw [MT d,if_neg d,Option.bind_some];simp only [Bool.false_eq_true,if_false]
  by_cases e:r.head? = some 39
  ·have:=CC e;rw [NK e,if_pos e,Option.bind_some];simp only [if_true];rw [UX (by omega)]
   cases Xz r.tail [] <;> rfl
  rw [MT e,if_neg e,Option.bind_some];simp only [Bool.false_eq_true,if_false]
  by_cases f:r.head? = some 47
  ·have:=CC f;rw [NK f,if_pos f,Option.bind_some];simp only [if_true];rw [AaC (by omega)];exact AbM _
  rw [MT f,if_neg f,Option.bind_some];simp only [Bool.false_eq_true,if_false];unfold pwd;have hl:=LG [126,38,124,41] r;rw [Pr (by omega) (.inl (.inr rfl)),Option.bind_some]
  by_cases a:(Mn [126,38,124,41] r).2.head? = some 126
  ·have:=CC a;rw [NK a,if_pos a,Option.bind_some];simp only [Bool.not_true,Bool.false_eq_true,if_false];rw [PW (by omega)]
   cases hp:QD (Mn [126,38,124,41] r).2.tail with
   | none=>rfl
   | some x=>
    obtain⟨_,hx⟩:=Pq _ _ hp
    show Option.bind (B1 (x.2,k) [126]) _=_
    rw [Zf,Option.bind_some,Option.bind_some]
    cases he:YZ 126 x.2 with
    | none=>rfl
    | some t=>
     have:=TX he
     show Option.bind (Cf (t,k) [126,38,124,41]) _=_
     rw [Pr (by omega) (.inl (.inr rfl))]
     rfl
  ·rw [MT a,if_neg a]
   rfl
theorem Zk{s:List UInt8}(hs:s.length≤200):Gn s=some (match acc (W0 (PU Sg 201)) s with
 | some q=>(q,(0,0))
 | none=>(.mk 0 [] [] [] 0 0 [],(1,-1))):=by
 unfold Gn acc;rw [if_neg (by omega)]
 have hq:C8 Gk (s,0)=Sh 0 (W0 (PU Sg 201) s):=
  UY (n:=201) (by omega) (TY VH 201) (fun r hr=>Zj 201 1000 r (by omega) hr (by omega)) (by omega)
 rw [hq]
 cases hp:W0 (PU Sg 201) s with
 | none=>rfl
 | some x=>
  obtain⟨hq,_⟩:=AbJ VH 201 s x (by omega) hp;rw [Option.bind_some]
  show Option.bind (DP x.1) _=_
  rw [RR hq,Option.bind_some];simp only
  by_cases h:(Wy x.1).1=0
  ·have a:=(VB h).2.2.2;rw [if_pos h]
   by_cases h2:x.2=[]∧tx 8 x.1=s
   ·rw [if_neg (by rw [a];simp [h2.1,h2.2]),if_pos ⟨h2.1,h,h2.2⟩]
    rfl
   ·rw [if_pos (by
     rw [a];simp
     by_cases e:x.2=[]
     ·exact .inr fun e'=>h2 ⟨e,e'⟩
     ·exact .inl e),if_neg (fun e=>h2 ⟨e.1,e.2.2⟩)]
    rfl
  ·rw [if_pos (by simp [h]),if_neg (fun e=>h e.2.1)]
   rfl
end Go.Proofs.YtekmbcbgknmhiaaGreatDoor
end
noncomputable section
namespace Go.Proofs.YtekmbcbgknmhiaaGreatDoor
open Go Go.E Go.RowKit Go.L
set_option maxHeartbeats 1000000
set_option maxRecDepth 10000
open _root_.Go.Proofs.Tryz
def Ja(a:Int)(b:List (((List Int))×(List Int)×(List Int)))(c:List Go.L.Pv)(d:List AaK):Option (((List Go.L.Pv)×(List AaK)×(List (((List Int))×(List Int)×(List Int)))×Int) ⊕ (((Int×(List (AaK×(List (Int×Int)))))×(Int×(List ((AaK×Int×Int×AaK)×(List Int))))×(List (((List Int))×(List Int)×(List Int))))×(Int×Int))):=
 AU (BL (a+(1:Int))) (some (Sum.inl (c,d,b,(a+(1:Int)))))
def Hy(a:List (((List Int))×(List Int)×(List Int)))(b:Int)(c:Int)(d:Int)(e:List (AaK×(List (Int×Int))))(f:Int)(g:List ((AaK×Int×Int×AaK)×(List Int))):Option (((Int×(List (AaK×(List (Int×Int)))))×(Int×(List ((AaK×Int×Int×AaK)×(List Int))))×(List (((List Int))×(List Int)×(List Int))))×(Int×Int)):=
 if b=(0:Int)∧c=(0:Int) then some (((d,e),(f,g),a),((0:Int),(0:Int))) else none
def Jb(d:List Go.L.Pv)(e:List AaK)(c:List (((List Int))×(List Int)×(List Int))):Option (((Int×(List (AaK×(List (Int×Int)))))×(Int×(List ((AaK×Int×Int×AaK)×(List Int))))×(List (((List Int))×(List Int)×(List Int))))×(Int×Int)):=
 Option.bind (L8 e) (fun a=>if a.2.1=(0:Int)∧a.2.2=(0:Int) then Option.bind (KD d) (fun b=>(Hy c) b.2.1 b.2.2 a.1.1 a.1.2 b.1.1 b.1.2) else(Hy c) a.2.1 a.2.2 a.1.1 a.1.2 (0:Int) ([]))
def I4(a0:List (AaK×Go.L.Pv)):(List Go.L.Pv)×(List AaK)×(List (((List Int))×(List Int)×(List Int)))×Int→Option (((List Go.L.Pv)×(List AaK)×(List (((List Int))×(List Int)×(List Int)))×Int) ⊕ (((Int×(List (AaK×(List (Int×Int)))))×(Int×(List ((AaK×Int×Int×AaK)×(List Int))))×(List (((List Int))×(List Int)×(List Int))))×(Int×Int))):=fun⟨c,d,e,a⟩=>
 if a<(a0.length:Int) then AU (0≤a∧a<(a0.length:Int)) (Option.bind (Kf ((a0.getD a.toNat default).1)) (fun b=>if b.2.1=(0:Int)∧b.2.2=(0:Int) then Option.bind (HX ((a0.getD a.toNat default).2)) (fun f=>if f.1=(0:Int)∧f.2=(0:Int) then AU (Go.E.JE 72 (e.length+([(b.1.1,b.1.2.1,b.1.2.2)]).length)) (AU (Go.E.JE 24 (d.length+([(a0.getD a.toNat default).1]).length)) (AU (Go.E.JE 88 (c.length+([((a0.getD a.toNat default).2)]).length)) ((Ja a) (e++[(b.1.1,b.1.2.1,b.1.2.2)]) (c++[((a0.getD a.toNat default).2)]) (d++[(a0.getD a.toNat default).1])))) else none) else none)) else Option.map Sum.inr (Jb c d e)
def K1(a0:List (AaK×Go.L.Pv))(s:(List Go.L.Pv)×(List AaK)×(List (((List Int))×(List Int)×(List Int)))×Int):Option (((Int×(List (AaK×(List (Int×Int)))))×(Int×(List ((AaK×Int×Int×AaK)×(List Int))))×(List (((List Int))×(List Int)×(List Int))))×(Int×Int)):=Go.L.run (I4 a0) s
def KH(a0:List (AaK×Go.L.Pv)):Option (((Int×(List (AaK×(List (Int×Int)))))×(Int×(List ((AaK×Int×Int×AaK)×(List Int))))×(List (((List Int))×(List Int)×(List Int))))×(Int×Int)):=
 if(64:Int)<(a0.length:Int) then none else(K1 a0) (([]:List Go.L.Pv),([]:List AaK),([]:List (((List Int))×(List Int)×(List Int))),(0:Int))
theorem QE(w:World)(H:PH)(hH:Le H (hp w))(hU:D9 H){a0:List (AaK×Go.L.Pv)}{eu:Value}(ir:AI (.pair (.vec .byte) .tree) H eu (a0)){r:((Int×(List (AaK×(List (Int×Int)))))×(Int×(List ((AaK×Int×Int×AaK)×(List Int))))×(List (((List Int))×(List Int)×(List Int))))×(Int×Int)}(h:KH a0=some r):
  Ok Tryz.prog 20 [eu] w (fun v w'=>Ext w w'∧∃ u0 u1 u2,v=.tuple #[.agg #[No r.1.1.1,u0,No r.1.2.1.1,u1,u2],.agg #[No r.2.1,No r.2.2]]∧AI (.pair .st (.vec (.pair (.int .i64) (.int .i64)))) (un H (nw w w')) u0 (r.1.1.2)∧AI (.pair (.pair .st (.pair (.int .i64) (.pair (.int .i64) .st))) (.vec (.int .i64))) (un H (nw w w')) u1 (r.1.2.1.2)∧C2 98 (.pair (.vec (.int .i64)) (.pair (.vec (.int .i64)) (.vec (.int .i64)))) H w w' u2 (r.1.2.2)):=by
 refine A4 (n:=89) [(0,eu)] func20 rfl rfl rfl rfl rfl ?_;have hL:=AO.start w;refine Ak<|AG MU rfl rfl hL fun w1 b1 ns o1 _=>AG AR rfl rfl ns fun w2 b2 nt o2 _=>Ac<|A7<|Bk 1 rfl<|Ae (Bo rfl Adi ir) rfl<|AA 1 rfl<|AM rfl h (fun nu h=>?_) (fun nu h=>?_)
 ·cases h
 refine Au<|Ao<|Ak<|AG MU rfl rfl nt fun w6 b6 nv o3 _=>Ac<|Bk 1 rfl ?_;obtain⟨nx,o4,jb⟩:=CB (.vec .byte) H 23 nv;refine Ac<|Bk 1 rfl ?_;obtain⟨ny,mh,jc⟩:=CB .tree H 64 nx;refine Ac<|Bn (σ:=(List Go.L.Pv)×(List AaK)×(List (((List Int))×(List Int)×(List Int)))×Value×(List Value)×Value×(List Value)×Value×(List Value)) (fun⟨ev,ew,a5,el,cc,em,cd,bd,a1⟩=>[(2,(AaH b1)),(3,(AaH b2)),(4,(AaH b6)),(5,em),(6,el)]) (fun⟨ev,ew,a5,el,cc,em,cd,bd,a1⟩ wr=>DZ w [.row (bd) 98 3 (a5).length (a1),.row (el) 64 5 (ev).length (cc),.row (em) 23 1 (ew).length (cd),.box b6 [No (0:Int),Aat,No (0:Int),Aat,bd] 52,.box b2 [No (0:Int),No (0:Int)] 28,.box b1 [No (0:Int),Aat,No (0:Int),Aat,Aat] 52] wr fun Oz=>AJ (.pair (.vec (.int .i64)) (.pair (.vec (.int .i64)) (.vec (.int .i64)))) (gz H w wr Oz) (a5) (a1)∧AJ .tree (gz H w wr Oz) (ev) (cc)∧AJ (.vec .byte) (gz H w wr Oz) (ew) (cd)∧Jb ev ew a5=some r) ?_ ?_
 ·refine Bk 1 rfl<|Ae (Bo rfl Adi ir) rfl<|AA 1 rfl<|A2 ?_;obtain⟨jy,h9,jz⟩:=CB (.pair (.vec (.int .i64)) (.pair (.vec (.int .i64)) (.vec (.int .i64)))) H 98 ny;obtain⟨is,h⟩:=AY h;have jb:=jb.mono (Ab hH (mh.trans h9));have jc:=jc.mono (Ab hH h9)
  refine Bw (σ:=(List Go.L.Pv)×(List AaK)×(List (((List Int))×(List Int)×(List Int)))×Int×Value×(List Value)×Value×(List Value)×Value×(List Value)×Nat) (fun⟨x,y,aa,b,a2,av,a3,aw,ap,ax,n⟩=>[(2,(AaH b1)),(3,(AaH b2)),(4,(AaH b6)),(5,a3),(6,a2),(18,eu),(19,No (a0.length:Int)),(20,No b)]) (fun⟨x,y,aa,b,a2,av,a3,aw,ap,ax,n⟩ wr=>DZ w [.row (ap) 98 3 (aa).length (ax),.row (a2) 64 5 (x).length (av),.row (a3) 23 1 (y).length (aw),.box b6 [No (0:Int),Aat,No (0:Int),Aat,ap] 52,.box b2 [No (0:Int),No (0:Int)] 28,.box b1 [No (0:Int),Aat,No (0:Int),Aat,Aat] 52] wr fun Oz=>AJ (.pair (.vec (.int .i64)) (.pair (.vec (.int .i64)) (.vec (.int .i64)))) (gz H w wr Oz) (aa) (ax)∧AJ .tree (gz H w wr Oz) (x) (av)∧AJ (.vec .byte) (gz H w wr Oz) (y) (aw)∧FT (I4 a0) n (x,y,aa,b)=some r) (fun⟨x,y,aa,b,a2,av,a3,aw,ap,ax,n⟩=>n) (([]:List Go.L.Pv),([]:List AaK),([]:List (((List Int))×(List Int)×(List Int))),(0:Int),Aat,[],Aat,[],Aat,[],is) (Sub.of rfl) ⟨jy,jz,jc,jb,h⟩ ?_
  rintro⟨x,y,aa,b,a2,av,a3,aw,ap,ax,nn612⟩ nz ⟨en,ah,ae,af,h⟩;obtain⟨is,mi,rfl,h,iw⟩:=AX h;have e:=en.rG H;refine A9 1 rfl<|A7<|AM rfl h (fun j0 h=>?_) (fun j0 h=>?_)
  ·refine Au<|Ao<|A7<|A2<|Bk 1 rfl ?_;refine Az h fun ix h=>?_;refine Bb rfl rfl Adi ZT ir b.toNat (EM ix) (AW ix) rfl ?_;rintro o5 _ ⟨_,_,rfl,⟨e618v0,rfl,e618h0⟩,e618t1⟩ j1;obtain⟨_,_,rfl,rfl,⟨_,_,rfl,rfl,⟨_,_,rfl,⟨e618v3,rfl,e618h3⟩,⟨_,_,rfl,⟨e618v4,rfl,e618h4⟩,⟨e618v5,rfl,e618h5⟩⟩⟩⟩⟩:=Go.E.Rp.NS e618t1;refine Ae (C1 rfl Adj rfl ZT j1 (hH.trans en.arg)) rfl<|AG ZT rfl rfl en fun o6 it j2 aj _=>Aq 1 rfl<|Aj 0 rfl rfl rfl ZT j2 rfl rfl (AH e618h0.one (AH rfl (AH rfl (AH e618h3.one (AH e618h4.one (AH e618h5.one Cj)))))) fun o7 be ak=>Ac<|Ak<|Ae (Af rfl Adj rfl Fw (by decide)) rfl<|Ae (Ag 0 rfl Abe rfl be rfl rfl) rfl ?_;refine Ax h fun d j3 h=>?_;refine Bs rfl rfl be (PQ _ _ (As hH be) (e618h0.mono (Ah hH)) j3) ?_;rintro _ o8 ⟨ce,cf,cg,rfl,i4,i5,i6⟩ gi j4 al;have g:=i4.mono (Dv hH be gi);have k:=i5.mono (Dv hH be gi);have o:=i6.mono (Dv hH be gi);refine Aq 3 rfl<|AG FY rfl rfl j4 fun o9 iu j5 p _=>AG AR rfl rfl j5 ?_
   intro pa jd j6 q _;refine Aj 1 rfl rfl rfl FY j6 rfl rfl (AH g.one (AH k.one (AH o.one Cj))) fun pb j7 t=>Aj 0 rfl rfl rfl AR j7 rfl rfl (AH rfl (AH rfl Cj)) fun pc ch u=>Ac<|A7 ?_;have c:=ch.rG H;refine Ak<|Ae (AE 0 rfl Abs rfl AR ch rfl) rfl<|Ae (AZ rfl (fun _=>BY _)) rfl<|Ae (JG rfl rfl I6 (Lp _ _ _ _)) rfl<|Ac<|Cl rfl h (fun j8 h=>?_) (fun j8 h=>?_)
   ·cases h
   refine Au<|Ao<|A7<|Ak<|Ae (Af rfl Adj rfl GR (by decide)) rfl<|Ae (Rl 2 5 rfl AbG rfl GR ch rfl rfl) rfl ?_;refine Ax h fun gj j9 h=>?_;refine AF rfl rfl ch (L3 (a0:=((a0.getD b.toNat default).2)) _ _ (As hH ch) (e618h3.mono (Ah hH)) (e618h4.mono (Ah hH)) (e618h5.mono (Ah hH)) j9) fun pd n0 ka a6=>AG AR rfl rfl ka fun pe je kb a7 _=>Aj 0 rfl rfl rfl AR kb rfl rfl (AH rfl (AH rfl Cj)) fun pf gk a8=>Ac<|Ak<|Ae (AE 0 rfl Abs rfl AR gk rfl) rfl<|Ae (AZ rfl (fun _=>BY _)) rfl<|Ae (JG rfl rfl I6 (Lp _ _ _ _)) rfl<|Ac<|Cl rfl h (fun kc h=>?_) (fun kc h=>?_)
   ·cases h
   refine Au<|Ao ?_
   refine Ab4 (σ:=(List (((List Int))×(List Int)×(List Int)))×(List Go.L.Pv)×(List AaK)×Value×(List Value)×Value×(List Value)×Value×(List Value)) (fun⟨ef,eg,eh,ci,a9,cj,ba,ck,bb⟩=>[(2,(AaH b1)),(3,(AaH b2)),(4,(AaH b6)),(5,ck),(6,cj),(18,eu),(19,No (a0.length:Int)),(20,No b)]) (fun⟨ef,eg,eh,ci,a9,cj,ba,ck,bb⟩ wr=>DZ w [.box je [No gj.1,No gj.2] 28,.box jd [No d.2.1,No d.2.2] 28,.box iu [ce,cf,cg] 98,.box it [e618v0,No (((a0.getD b.toNat default).2).f.1),No (((a0.getD b.toNat default).2).f.2.1),e618v3,e618v4,e618v5] 66,.row (ci) 98 3 (ef).length (a9),.row (cj) 64 5 (eg).length (ba),.row (ck) 23 1 (eh).length (bb),.box b6 [No (0:Int),Aat,No (0:Int),Aat,ci] 52,.box b2 [No (0:Int),No (0:Int)] 28,.box b1 [No (0:Int),Aat,No (0:Int),Aat,Aat] 52] wr fun Oz=>AI (.int .i64) (gz H w wr Oz) (ce) (d.1.1)∧AI (.int .i64) (gz H w wr Oz) (cf) (d.1.2.1)∧AI (.int .i64) (gz H w wr Oz) (cg) (d.1.2.2)∧AJ (.pair (.vec (.int .i64)) (.pair (.vec (.int .i64)) (.vec (.int .i64)))) (gz H w wr Oz) (ef) (a9)∧AJ .tree (gz H w wr Oz) (eg) (ba)∧AJ (.vec .byte) (gz H w wr Oz) (eh) (bb)∧(Ja b) ef eg eh=some mi) ?_ ?_
   ·refine JM (Mv (IB (Vl (QI (IB (Mv Mu)))))) (fun z0 z=>Le (gz H w z0 [.box je [No gj.1,No gj.2] 28,.box jd [No d.2.1,No d.2.2] 28,.box iu [ce,cf,cg] 98,.box it [e618v0,No (((a0.getD b.toNat default).2).f.1),No (((a0.getD b.toNat default).2).f.2.1),e618v3,e618v4,e618v5] 66,.row (ap) 98 3 (aa).length (ax),.row (a2) 64 5 (x).length (av),.row (a3) 23 1 (y).length (aw),.box b6 [No (0:Int),Aat,No (0:Int),Aat,ap] 52,.box b2 [No (0:Int),No (0:Int)] 28,.box b1 [No (0:Int),Aat,No (0:Int),Aat,Aat] 52]) (hp z)∧z.heap[iu]? = some (.cells [ce,cf,cg].toArray 98 (0,0))∧z.heap[it]? = some (.cells [e618v0,No (((a0.getD b.toNat default).2).f.1),No (((a0.getD b.toNat default).2).f.2.1),e618v3,e618v4,e618v5].toArray 66 (0,0))∧z.heap[b6]? = some (.cells [No (0:Int),Aat,No (0:Int),Aat,ap].toArray 52 (0,0))) mixed rfl (fun ad ph iy=>?_);have az:=gk.call iy;have bc:=AV gk iy;have a:=az.rG H;refine M1 ⟨a.trans (As hH az),az.at (i:=2) rfl,az.at (i:=3) rfl,az.at (i:=7) rfl⟩ fun kI804=>?_
    refine AB 0 ad kI804 (by kernel_rfl) rfl (fun _ _=>Af rfl Adk rfl Jn (by decide)) rfl<|AB 1 ad kI804 (by kernel_rfl) rfl (fun _ hI=>ID rfl Adl rfl hI.2.2.2 rfl) rfl<|AB 2 ad kI804 (by kernel_rfl) rfl (fun _ hI=>LZ rfl Ade rfl FY hI.2.1) rfl<|AB 5 ad kI804 (by kernel_rfl) rfl (fun _ _=>Ad rfl) rfl<|AB 6 ad kI804 (by kernel_rfl) rfl (fun _ _=>Af rfl Adj rfl Fw (by decide)) rfl<|AB 7 ad kI804 (by kernel_rfl) rfl (fun _ hI=>ID rfl Abe rfl hI.2.2.1 rfl) rfl<|AB 10 ad kI804 (by kernel_rfl) rfl (fun _ _=>Ad rfl) rfl<|AB 11 ad kI804 (by kernel_rfl) rfl (fun _ _=>Af rfl Adj rfl GR (by decide)) rfl<|AB 12 ad kI804 (by kernel_rfl) rfl (fun _ hI=>Yq 5 rfl AbG rfl GR hI.2.2.1 rfl) rfl<|NI3 (i:=3) (j:=8) (s:=13) (by kernel_rfl) rfl rfl rfl ?_ ?_ ?_
    ·have g:=g.mono (Ab hH (p.trans (q.trans (t.trans u))));have k:=k.mono (Ab hH (p.trans (q.trans (t.trans u))));have o:=o.mono (Ab hH (p.trans (q.trans (t.trans u))));have c:=c.trans (Ab hH (a6.trans (a7.trans (a8.trans bc))));refine Bu (r:=(.pair (.vec (.int .i64)) (.pair (.vec (.int .i64)) (.vec (.int .i64))))) (l:=[(d.1.1,d.1.2.1,d.1.2.2)]) rfl (fun _=>OU _ _ _ _) rfl (show 1≤9223372036854775807 by decide) hH az (.c3 ⟨_,_,rfl,⟨_,rfl,((g.mono c).mono a)⟩,⟨_,_,rfl,⟨_,rfl,((k.mono c).mono a)⟩,⟨_,rfl,((o.mono c).mono a)⟩⟩⟩ .nil) ?_;intro pi pj n1 a4 jf am;have a:=a.trans (Ab hH jf);refine Ba ⟨a.trans (As hH a4),a4.at (i:=2) rfl,a4.at (i:=3) rfl,a4.at (i:=7) rfl⟩ fun kI806=>?_;refine NI3 (i:=4) (j:=8) (s:=13) (by kernel_rfl) rfl rfl rfl ?_ ?_ ?_
     ·refine Az h fun ag h=>?_;have e:=e.trans (Ab hH (aj.trans (ak.trans (al.trans (p.trans (q.trans (t.trans u)))))));refine Bq (r:=(.pair (.vec (.int .i64)) (.pair (.vec (.int .i64)) (.vec (.int .i64))))) (l:=aa) (m:=[(d.1.1,d.1.2.1,d.1.2.2)]) 4 rfl rfl Adl FY rfl (by decide) rfl hH a4 rfl (((ah.mono e).mono c).mono a) am ag ?_;intro iv pk gl bf jg aq;have a:=a.trans (Ab hH jg);refine Ba ⟨a.trans (As hH bf),bf.at (i:=2) rfl,bf.at (i:=3) rfl,bf.at (i:=7) rfl⟩ fun kI809=>?_;refine AB 15 ad kI809 (by kernel_rfl) rfl (fun _ _=>Af rfl Adk rfl Jn (by decide)) rfl<|Yk (i:=8) (j:=13) (by kernel_rfl) rfl rfl ?_ ?_
      ·refine Bu (r:=(.vec .byte)) (l:=[(a0.getD b.toNat default).1]) rfl (fun _=>K8 _ e618h0.one _) rfl (show 1≤9223372036854775807 by decide) hH bf (.c1 ⟨_,rfl,(e618h0.mono (Ah hH))⟩ .nil) ?_;intro pl pm n2 bg ex eo;have a:=a.trans (Ab hH ex);refine Ba ⟨a.trans (As hH bg),bg.at (i:=2) rfl,bg.at (i:=3) rfl,bg.at (i:=7) rfl⟩ fun kI811=>?_;refine Yk (i:=9) (j:=13) (by kernel_rfl) rfl rfl ?_ ?_
       ·refine Az h fun ab h=>?_;refine Bq (r:=(.vec .byte)) (l:=y) (m:=[(a0.getD b.toNat default).1]) 6 rfl rfl Ac3 Fw rfl (by decide) rfl hH bg rfl (((af.mono e).mono c).mono a) eo ab ?_;intro mj pn kd cl ia gm;have a:=a.trans (Ab hH ia);refine Ba ⟨a.trans (As hH cl),cl.at (i:=2) rfl,cl.at (i:=3) rfl,cl.at (i:=7) rfl⟩ fun kI814=>?_;refine Ep (i:=13) (by kernel_rfl) rfl<|Bu (r:=.tree) (l:=[((a0.getD b.toNat default).2)]) rfl (fun _=>IL _ _ _ _ _ _) rfl (show 1≤9223372036854775807 by decide) hH cl (.c5 (Go.E.Rp.DF ⟨_,_,rfl,rfl,⟨_,_,rfl,rfl,⟨_,_,rfl,⟨_,rfl,(e618h3.mono (Ah hH))⟩,⟨_,_,rfl,⟨_,rfl,(e618h4.mono (Ah hH))⟩,⟨_,rfl,(e618h5.mono (Ah hH))⟩⟩⟩⟩⟩) .nil) ?_;intro po pp n3 cm ey ke;have a:=a.trans (Ab hH ey);refine Ba ⟨a.trans (As hH cm),cm.at (i:=2) rfl,cm.at (i:=3) rfl,cm.at (i:=7) rfl⟩ fun kI816=>?_;refine Ep (i:=14) (by kernel_rfl) rfl ?_;refine Az h fun ac h=>?_;refine Bq (r:=.tree) (l:=x) (m:=[((a0.getD b.toNat default).2)]) 5 rfl rfl Acm GR rfl (by decide) rfl hH cm rfl (((ae.mono e).mono c).mono a) ke ac ?_;intro mk pq kf bh ez gn;have a:=a.trans (Ab hH ez)
        refine Ba ⟨a.trans (As hH bh),bh.at (i:=2) rfl,bh.at (i:=3) rfl,bh.at (i:=7) rfl⟩ fun kI819=>?_;refine Ep (i:=16) (by kernel_rfl) rfl<|Bi 7 rfl rfl (row_one (bh.at (i:=4) rfl)) Jn bh rfl rfl fun pr kg cn=>C7 [0,1,2,3,4,5,6,7,8,9,10,11,12,13,14,15] (by kernel_rfl)<|Ep (i:=17) (by kernel_rfl) rfl<|Aq 1 rfl<|C7 [0,1,2,3,4,5,6,7,8,9,10,11,12,13,14,15,16] (by kernel_rfl)<|Ep (i:=18) (by kernel_rfl) rfl<|Aq 1 rfl<|EX (by kernel_rfl)<|DV (by kernel_rfl) ?_;have aq:=aq.mono (Ab hH (ex.trans (ia.trans (ey.trans (ez.trans cn)))));have gm:=gm.mono (Ab hH (ey.trans (ez.trans cn)));have gn:=gn.mono (Ab hH cn);have a:=a.trans (Ab hH cn);refine A6 ((aa++[(d.1.1,d.1.2.1,d.1.2.2)]),(x++[((a0.getD b.toNat default).2)]),(y++[(a0.getD b.toNat default).1]),iv,gl,mk,kf,mj,kd) (Sub.of rfl) ⟨kg,((g.mono c).mono a),((k.mono c).mono a),((o.mono c).mono a),aq,gn,gm,h⟩
       refine Az h fun ab h=>?_;refine Az h fun ac h=>?_;refine Bu (r:=.tree) (l:=[((a0.getD b.toNat default).2)]) rfl (fun _=>IL _ _ _ _ _ _) rfl (show 1≤9223372036854775807 by decide) hH bg (.c5 (Go.E.Rp.DF ⟨_,_,rfl,rfl,⟨_,_,rfl,rfl,⟨_,_,rfl,⟨_,rfl,(e618h3.mono (Ah hH))⟩,⟨_,_,rfl,⟨_,rfl,(e618h4.mono (Ah hH))⟩,⟨_,rfl,(e618h5.mono (Ah hH))⟩⟩⟩⟩⟩) .nil) ?_;intro ps pt n4 co e0 go;have a:=a.trans (Ab hH e0);refine Ba ⟨a.trans (As hH co),co.at (i:=2) rfl,co.at (i:=3) rfl,co.at (i:=7) rfl⟩ fun kI822=>?_;refine Ep (i:=9) (by kernel_rfl) rfl ?_;have eo:=eo.mono (Ab hH e0);refine Bq (r:=(.vec .byte)) (l:=y) (m:=[(a0.getD b.toNat default).1]) 6 rfl rfl Ac3 Fw rfl (by decide) rfl hH co rfl (((af.mono e).mono c).mono a) eo ab ?_;intro ml pu kh cp e1 gp;have a:=a.trans (Ab hH e1);refine Ba ⟨a.trans (As hH cp),cp.at (i:=2) rfl,cp.at (i:=3) rfl,cp.at (i:=7) rfl⟩ fun kI824=>?_;refine Ep (i:=14) (by kernel_rfl) rfl ?_;have go:=go.mono (Ab hH e1);refine Bq (r:=.tree) (l:=x) (m:=[((a0.getD b.toNat default).2)]) 5 rfl rfl Acm GR rfl (by decide) rfl hH cp rfl (((ae.mono e).mono c).mono a) go ac ?_
       intro mm pv ki bi e2 gq;have a:=a.trans (Ab hH e2);refine Ba ⟨a.trans (As hH bi),bi.at (i:=2) rfl,bi.at (i:=3) rfl,bi.at (i:=7) rfl⟩ fun kI826=>?_;refine Ep (i:=16) (by kernel_rfl) rfl<|Bi 7 rfl rfl (row_one (bi.at (i:=4) rfl)) Jn bi rfl rfl fun pw kj cq=>C7 [0,1,2,3,4,5,6,7,8,9,10,11,12,13,14,15] (by kernel_rfl)<|Ep (i:=17) (by kernel_rfl) rfl<|Aq 1 rfl<|C7 [0,1,2,3,4,5,6,7,8,9,10,11,12,13,14,15,16] (by kernel_rfl)<|Ep (i:=18) (by kernel_rfl) rfl<|Aq 1 rfl<|EX (by kernel_rfl)<|DV (by kernel_rfl) ?_;have aq:=aq.mono (Ab hH (ex.trans (e0.trans (e1.trans (e2.trans cq)))));have gp:=gp.mono (Ab hH (e2.trans cq));have gq:=gq.mono (Ab hH cq);have a:=a.trans (Ab hH cq);refine A6 ((aa++[(d.1.1,d.1.2.1,d.1.2.2)]),(x++[((a0.getD b.toNat default).2)]),(y++[(a0.getD b.toNat default).1]),iv,gl,mm,ki,ml,kh) (Sub.of rfl) ⟨kj,((g.mono c).mono a),((k.mono c).mono a),((o.mono c).mono a),aq,gq,gp,h⟩
      refine Az h fun ab h=>?_;refine Az h fun ac h=>?_;refine Bu (r:=.tree) (l:=[((a0.getD b.toNat default).2)]) rfl (fun _=>IL _ _ _ _ _ _) rfl (show 1≤9223372036854775807 by decide) hH bf (.c5 (Go.E.Rp.DF ⟨_,_,rfl,rfl,⟨_,_,rfl,rfl,⟨_,_,rfl,⟨_,rfl,(e618h3.mono (Ah hH))⟩,⟨_,_,rfl,⟨_,rfl,(e618h4.mono (Ah hH))⟩,⟨_,rfl,(e618h5.mono (Ah hH))⟩⟩⟩⟩⟩) .nil) ?_;intro px py n5 cr ib gr;have a:=a.trans (Ab hH ib);refine Ba ⟨a.trans (As hH cr),cr.at (i:=2) rfl,cr.at (i:=3) rfl,cr.at (i:=7) rfl⟩ fun kI829=>?_;refine Ep (i:=8) (by kernel_rfl) rfl<|Bu (r:=(.vec .byte)) (l:=[(a0.getD b.toNat default).1]) rfl (fun _=>K8 _ e618h0.one _) rfl (show 1≤9223372036854775807 by decide) hH cr (.c1 ⟨_,rfl,(e618h0.mono (Ah hH))⟩ .nil) ?_;intro pz p0 n6 cs e3 kk;have a:=a.trans (Ab hH e3);refine Ba ⟨a.trans (As hH cs),cs.at (i:=2) rfl,cs.at (i:=3) rfl,cs.at (i:=7) rfl⟩ fun kI831=>?_;refine Ep (i:=9) (by kernel_rfl) rfl<|Bq (r:=(.vec .byte)) (l:=y) (m:=[(a0.getD b.toNat default).1]) 6 rfl rfl Ac3 Fw rfl (by decide) rfl hH cs rfl (((af.mono e).mono c).mono a) kk ab ?_;intro mn p1 kl ct e4 gs;have a:=a.trans (Ab hH e4)
      refine Ba ⟨a.trans (As hH ct),ct.at (i:=2) rfl,ct.at (i:=3) rfl,ct.at (i:=7) rfl⟩ fun kI833=>?_;refine Ep (i:=14) (by kernel_rfl) rfl ?_;have gr:=gr.mono (Ab hH (e3.trans e4));refine Bq (r:=.tree) (l:=x) (m:=[((a0.getD b.toNat default).2)]) 5 rfl rfl Acm GR rfl (by decide) rfl hH ct rfl (((ae.mono e).mono c).mono a) gr ac ?_;intro mo p2 km bj e5 gt;have a:=a.trans (Ab hH e5);refine Ba ⟨a.trans (As hH bj),bj.at (i:=2) rfl,bj.at (i:=3) rfl,bj.at (i:=7) rfl⟩ fun kI835=>?_;refine Ep (i:=16) (by kernel_rfl) rfl<|Bi 7 rfl rfl (row_one (bj.at (i:=4) rfl)) Jn bj rfl rfl fun p3 kn cu=>C7 [0,1,2,3,4,5,6,7,8,9,10,11,12,13,14,15] (by kernel_rfl)<|Ep (i:=17) (by kernel_rfl) rfl<|Aq 1 rfl<|C7 [0,1,2,3,4,5,6,7,8,9,10,11,12,13,14,15,16] (by kernel_rfl)<|Ep (i:=18) (by kernel_rfl) rfl<|Aq 1 rfl<|EX (by kernel_rfl)<|DV (by kernel_rfl) ?_;have aq:=aq.mono (Ab hH (ib.trans (e3.trans (e4.trans (e5.trans cu)))));have gs:=gs.mono (Ab hH (e5.trans cu));have gt:=gt.mono (Ab hH cu);have a:=a.trans (Ab hH cu)
      refine A6 ((aa++[(d.1.1,d.1.2.1,d.1.2.2)]),(x++[((a0.getD b.toNat default).2)]),(y++[(a0.getD b.toNat default).1]),iv,gl,mo,km,mn,kl) (Sub.of rfl) ⟨kn,((g.mono c).mono a),((k.mono c).mono a),((o.mono c).mono a),aq,gt,gs,h⟩
     ·refine Az h fun ag h=>?_;refine Az h fun ab h=>?_;refine Az h fun ac h=>?_;refine Bu (r:=(.vec .byte)) (l:=[(a0.getD b.toNat default).1]) rfl (fun _=>K8 _ e618h0.one _) rfl (show 1≤9223372036854775807 by decide) hH a4 (.c1 ⟨_,rfl,(e618h0.mono (Ah hH))⟩ .nil) ?_;intro p4 p5 n7 bk e6 ar;have a:=a.trans (Ab hH e6);refine Ba ⟨a.trans (As hH bk),bk.at (i:=2) rfl,bk.at (i:=3) rfl,bk.at (i:=7) rfl⟩ fun kI838=>?_;refine Yk (i:=4) (j:=13) (by kernel_rfl) rfl rfl ?_ ?_
      ·have e:=e.trans (Ab hH (aj.trans (ak.trans (al.trans (p.trans (q.trans (t.trans u)))))));have am:=am.mono (Ab hH e6);refine Bq (r:=(.pair (.vec (.int .i64)) (.pair (.vec (.int .i64)) (.vec (.int .i64))))) (l:=aa) (m:=[(d.1.1,d.1.2.1,d.1.2.2)]) 4 rfl rfl Adl FY rfl (by decide) rfl hH bk rfl (((ah.mono e).mono c).mono a) am ag ?_;intro jh p6 iz bl e7 bm;have a:=a.trans (Ab hH e7);refine Ba ⟨a.trans (As hH bl),bl.at (i:=2) rfl,bl.at (i:=3) rfl,bl.at (i:=7) rfl⟩ fun kI840=>?_;refine AB 15 ad kI840 (by kernel_rfl) rfl (fun _ _=>Af rfl Adk rfl Jn (by decide)) rfl<|Yk (i:=9) (j:=13) (by kernel_rfl) rfl rfl ?_ ?_
       ·have ar:=ar.mono (Ab hH e7);refine Bq (r:=(.vec .byte)) (l:=y) (m:=[(a0.getD b.toNat default).1]) 6 rfl rfl Ac3 Fw rfl (by decide) rfl hH bl rfl (((af.mono e).mono c).mono a) ar ab ?_;intro mp p7 ko cv ic gu;have a:=a.trans (Ab hH ic);refine Ba ⟨a.trans (As hH cv),cv.at (i:=2) rfl,cv.at (i:=3) rfl,cv.at (i:=7) rfl⟩ fun kI842=>?_;refine Ep (i:=13) (by kernel_rfl) rfl<|Bu (r:=.tree) (l:=[((a0.getD b.toNat default).2)]) rfl (fun _=>IL _ _ _ _ _ _) rfl (show 1≤9223372036854775807 by decide) hH cv (.c5 (Go.E.Rp.DF ⟨_,_,rfl,rfl,⟨_,_,rfl,rfl,⟨_,_,rfl,⟨_,rfl,(e618h3.mono (Ah hH))⟩,⟨_,_,rfl,⟨_,rfl,(e618h4.mono (Ah hH))⟩,⟨_,rfl,(e618h5.mono (Ah hH))⟩⟩⟩⟩⟩) .nil) ?_;intro p8 p9 n8 cw e8 kp;have a:=a.trans (Ab hH e8);refine Ba ⟨a.trans (As hH cw),cw.at (i:=2) rfl,cw.at (i:=3) rfl,cw.at (i:=7) rfl⟩ fun kI844=>?_;refine Ep (i:=14) (by kernel_rfl) rfl<|Bq (r:=.tree) (l:=x) (m:=[((a0.getD b.toNat default).2)]) 5 rfl rfl Acm GR rfl (by decide) rfl hH cw rfl (((ae.mono e).mono c).mono a) kp ac ?_;intro mq qa kq bn e9 gv;have a:=a.trans (Ab hH e9)
        refine Ba ⟨a.trans (As hH bn),bn.at (i:=2) rfl,bn.at (i:=3) rfl,bn.at (i:=7) rfl⟩ fun kI846=>?_;refine Ep (i:=16) (by kernel_rfl) rfl<|Bi 7 rfl rfl (row_one (bn.at (i:=4) rfl)) Jn bn rfl rfl fun qb kr cx=>C7 [0,1,2,3,4,5,6,7,8,9,10,11,12,13,14,15] (by kernel_rfl)<|Ep (i:=17) (by kernel_rfl) rfl<|Aq 1 rfl<|C7 [0,1,2,3,4,5,6,7,8,9,10,11,12,13,14,15,16] (by kernel_rfl)<|Ep (i:=18) (by kernel_rfl) rfl<|Aq 1 rfl<|EX (by kernel_rfl)<|DV (by kernel_rfl) ?_;have bm:=bm.mono (Ab hH (ic.trans (e8.trans (e9.trans cx))));have gu:=gu.mono (Ab hH (e8.trans (e9.trans cx)));have gv:=gv.mono (Ab hH cx);have a:=a.trans (Ab hH cx);refine A6 ((aa++[(d.1.1,d.1.2.1,d.1.2.2)]),(x++[((a0.getD b.toNat default).2)]),(y++[(a0.getD b.toNat default).1]),jh,iz,mq,kq,mp,ko) (Sub.of rfl) ⟨kr,((g.mono c).mono a),((k.mono c).mono a),((o.mono c).mono a),bm,gv,gu,h⟩
       refine Bu (r:=.tree) (l:=[((a0.getD b.toNat default).2)]) rfl (fun _=>IL _ _ _ _ _ _) rfl (show 1≤9223372036854775807 by decide) hH bl (.c5 (Go.E.Rp.DF ⟨_,_,rfl,rfl,⟨_,_,rfl,rfl,⟨_,_,rfl,⟨_,rfl,(e618h3.mono (Ah hH))⟩,⟨_,_,rfl,⟨_,rfl,(e618h4.mono (Ah hH))⟩,⟨_,rfl,(e618h5.mono (Ah hH))⟩⟩⟩⟩⟩) .nil) ?_;intro qc qd n9 cy fa gw;have a:=a.trans (Ab hH fa);refine Ba ⟨a.trans (As hH cy),cy.at (i:=2) rfl,cy.at (i:=3) rfl,cy.at (i:=7) rfl⟩ fun kI849=>?_;refine Ep (i:=9) (by kernel_rfl) rfl ?_;have ar:=ar.mono (Ab hH (e7.trans fa));refine Bq (r:=(.vec .byte)) (l:=y) (m:=[(a0.getD b.toNat default).1]) 6 rfl rfl Ac3 Fw rfl (by decide) rfl hH cy rfl (((af.mono e).mono c).mono a) ar ab ?_;intro mr qe ks cz fb gx;have a:=a.trans (Ab hH fb);refine Ba ⟨a.trans (As hH cz),cz.at (i:=2) rfl,cz.at (i:=3) rfl,cz.at (i:=7) rfl⟩ fun kI851=>?_;refine Ep (i:=14) (by kernel_rfl) rfl ?_;have gw:=gw.mono (Ab hH fb);refine Bq (r:=.tree) (l:=x) (m:=[((a0.getD b.toNat default).2)]) 5 rfl rfl Acm GR rfl (by decide) rfl hH cz rfl (((ae.mono e).mono c).mono a) gw ac ?_;intro ms qf kt bo fc gy
       have a:=a.trans (Ab hH fc);refine Ba ⟨a.trans (As hH bo),bo.at (i:=2) rfl,bo.at (i:=3) rfl,bo.at (i:=7) rfl⟩ fun kI853=>?_;refine Ep (i:=16) (by kernel_rfl) rfl<|Bi 7 rfl rfl (row_one (bo.at (i:=4) rfl)) Jn bo rfl rfl fun qg ku c0=>C7 [0,1,2,3,4,5,6,7,8,9,10,11,12,13,14,15] (by kernel_rfl)<|Ep (i:=17) (by kernel_rfl) rfl<|Aq 1 rfl<|C7 [0,1,2,3,4,5,6,7,8,9,10,11,12,13,14,15,16] (by kernel_rfl)<|Ep (i:=18) (by kernel_rfl) rfl<|Aq 1 rfl<|EX (by kernel_rfl)<|DV (by kernel_rfl) ?_;have bm:=bm.mono (Ab hH (fa.trans (fb.trans (fc.trans c0))));have gx:=gx.mono (Ab hH (fc.trans c0));have gy:=gy.mono (Ab hH c0);have a:=a.trans (Ab hH c0);refine A6 ((aa++[(d.1.1,d.1.2.1,d.1.2.2)]),(x++[((a0.getD b.toNat default).2)]),(y++[(a0.getD b.toNat default).1]),jh,iz,ms,kt,mr,ks) (Sub.of rfl) ⟨ku,((g.mono c).mono a),((k.mono c).mono a),((o.mono c).mono a),bm,gy,gx,h⟩
      refine Bu (r:=.tree) (l:=[((a0.getD b.toNat default).2)]) rfl (fun _=>IL _ _ _ _ _ _) rfl (show 1≤9223372036854775807 by decide) hH bk (.c5 (Go.E.Rp.DF ⟨_,_,rfl,rfl,⟨_,_,rfl,rfl,⟨_,_,rfl,⟨_,rfl,(e618h3.mono (Ah hH))⟩,⟨_,_,rfl,⟨_,rfl,(e618h4.mono (Ah hH))⟩,⟨_,rfl,(e618h5.mono (Ah hH))⟩⟩⟩⟩⟩) .nil) ?_;intro qh qi oa c2 fd g0;have a:=a.trans (Ab hH fd);refine Ba ⟨a.trans (As hH c2),c2.at (i:=2) rfl,c2.at (i:=3) rfl,c2.at (i:=7) rfl⟩ fun kI856=>?_;refine Ep (i:=4) (by kernel_rfl) rfl ?_;have e:=e.trans (Ab hH (aj.trans (ak.trans (al.trans (p.trans (q.trans (t.trans u)))))));have am:=am.mono (Ab hH (e6.trans fd));refine Bq (r:=(.pair (.vec (.int .i64)) (.pair (.vec (.int .i64)) (.vec (.int .i64))))) (l:=aa) (m:=[(d.1.1,d.1.2.1,d.1.2.2)]) 4 rfl rfl Adl FY rfl (by decide) rfl hH c2 rfl (((ah.mono e).mono c).mono a) am ag ?_;intro mt qj kv c4 fe g1;have a:=a.trans (Ab hH fe);refine Ba ⟨a.trans (As hH c4),c4.at (i:=2) rfl,c4.at (i:=3) rfl,c4.at (i:=7) rfl⟩ fun kI858=>?_;refine AB 15 ad kI858 (by kernel_rfl) rfl (fun _ _=>Af rfl Adk rfl Jn (by decide)) rfl<|Ep (i:=9) (by kernel_rfl) rfl ?_
      have ar:=ar.mono (Ab hH (fd.trans fe));refine Bq (r:=(.vec .byte)) (l:=y) (m:=[(a0.getD b.toNat default).1]) 6 rfl rfl Ac3 Fw rfl (by decide) rfl hH c4 rfl (((af.mono e).mono c).mono a) ar ab ?_;intro mu qk kw c6 ff g2;have a:=a.trans (Ab hH ff);refine Ba ⟨a.trans (As hH c6),c6.at (i:=2) rfl,c6.at (i:=3) rfl,c6.at (i:=7) rfl⟩ fun kI860=>?_;refine Ep (i:=14) (by kernel_rfl) rfl ?_;have g0:=g0.mono (Ab hH (fe.trans ff));refine Bq (r:=.tree) (l:=x) (m:=[((a0.getD b.toNat default).2)]) 5 rfl rfl Acm GR rfl (by decide) rfl hH c6 rfl (((ae.mono e).mono c).mono a) g0 ac ?_;intro mv ql kx bp fg g3;have a:=a.trans (Ab hH fg);refine Ba ⟨a.trans (As hH bp),bp.at (i:=2) rfl,bp.at (i:=3) rfl,bp.at (i:=7) rfl⟩ fun kI862=>?_;refine Ep (i:=16) (by kernel_rfl) rfl<|Bi 7 rfl rfl (row_one (bp.at (i:=4) rfl)) Jn bp rfl rfl fun qm ky c7=>C7 [0,1,2,3,4,5,6,7,8,9,10,11,12,13,14,15] (by kernel_rfl)<|Ep (i:=17) (by kernel_rfl) rfl<|Aq 1 rfl<|C7 [0,1,2,3,4,5,6,7,8,9,10,11,12,13,14,15,16] (by kernel_rfl)<|Ep (i:=18) (by kernel_rfl) rfl<|Aq 1 rfl ?_
      refine EX (by kernel_rfl)<|DV (by kernel_rfl) ?_;have g1:=g1.mono (Ab hH (ff.trans (fg.trans c7)));have g2:=g2.mono (Ab hH (fg.trans c7));have g3:=g3.mono (Ab hH c7);have a:=a.trans (Ab hH c7);refine A6 ((aa++[(d.1.1,d.1.2.1,d.1.2.2)]),(x++[((a0.getD b.toNat default).2)]),(y++[(a0.getD b.toNat default).1]),mt,kv,mv,kx,mu,kw) (Sub.of rfl) ⟨ky,((g.mono c).mono a),((k.mono c).mono a),((o.mono c).mono a),g1,g3,g2,h⟩
     refine Az h fun ag h=>?_;refine Az h fun ab h=>?_;refine Az h fun ac h=>?_;refine Bu (r:=.tree) (l:=[((a0.getD b.toNat default).2)]) rfl (fun _=>IL _ _ _ _ _ _) rfl (show 1≤9223372036854775807 by decide) hH a4 (.c5 (Go.E.Rp.DF ⟨_,_,rfl,rfl,⟨_,_,rfl,rfl,⟨_,_,rfl,⟨_,rfl,(e618h3.mono (Ah hH))⟩,⟨_,_,rfl,⟨_,rfl,(e618h4.mono (Ah hH))⟩,⟨_,rfl,(e618h5.mono (Ah hH))⟩⟩⟩⟩⟩) .nil) ?_;intro qn qo ob bq fh br;have a:=a.trans (Ab hH fh);refine Ba ⟨a.trans (As hH bq),bq.at (i:=2) rfl,bq.at (i:=3) rfl,bq.at (i:=7) rfl⟩ fun kI865=>?_;refine Yk (i:=4) (j:=8) (by kernel_rfl) rfl rfl ?_ ?_
     ·have e:=e.trans (Ab hH (aj.trans (ak.trans (al.trans (p.trans (q.trans (t.trans u)))))));have am:=am.mono (Ab hH fh);refine Bq (r:=(.pair (.vec (.int .i64)) (.pair (.vec (.int .i64)) (.vec (.int .i64))))) (l:=aa) (m:=[(d.1.1,d.1.2.1,d.1.2.2)]) 4 rfl rfl Adl FY rfl (by decide) rfl hH bq rfl (((ah.mono e).mono c).mono a) am ag ?_;intro mw qp kz c8 ie g4;have a:=a.trans (Ab hH ie);refine Ba ⟨a.trans (As hH c8),c8.at (i:=2) rfl,c8.at (i:=3) rfl,c8.at (i:=7) rfl⟩ fun kI867=>?_;refine AB 15 ad kI867 (by kernel_rfl) rfl (fun _ _=>Af rfl Adk rfl Jn (by decide)) rfl<|Ep (i:=8) (by kernel_rfl) rfl<|Bu (r:=(.vec .byte)) (l:=[(a0.getD b.toNat default).1]) rfl (fun _=>K8 _ e618h0.one _) rfl (show 1≤9223372036854775807 by decide) hH c8 (.c1 ⟨_,rfl,(e618h0.mono (Ah hH))⟩ .nil) ?_;intro qq qr oc c9 fi k0;have a:=a.trans (Ab hH fi);refine Ba ⟨a.trans (As hH c9),c9.at (i:=2) rfl,c9.at (i:=3) rfl,c9.at (i:=7) rfl⟩ fun kI869=>?_;refine Ep (i:=9) (by kernel_rfl) rfl ?_
      refine Bq (r:=(.vec .byte)) (l:=y) (m:=[(a0.getD b.toNat default).1]) 6 rfl rfl Ac3 Fw rfl (by decide) rfl hH c9 rfl (((af.mono e).mono c).mono a) k0 ab ?_;intro mx qs k1 da fj g5;have a:=a.trans (Ab hH fj);refine Ba ⟨a.trans (As hH da),da.at (i:=2) rfl,da.at (i:=3) rfl,da.at (i:=7) rfl⟩ fun kI871=>?_;refine Ep (i:=14) (by kernel_rfl) rfl ?_;have br:=br.mono (Ab hH (ie.trans (fi.trans fj)));refine Bq (r:=.tree) (l:=x) (m:=[((a0.getD b.toNat default).2)]) 5 rfl rfl Acm GR rfl (by decide) rfl hH da rfl (((ae.mono e).mono c).mono a) br ac ?_;intro my qt k2 bs fk g6;have a:=a.trans (Ab hH fk);refine Ba ⟨a.trans (As hH bs),bs.at (i:=2) rfl,bs.at (i:=3) rfl,bs.at (i:=7) rfl⟩ fun kI873=>?_;refine Ep (i:=16) (by kernel_rfl) rfl<|Bi 7 rfl rfl (row_one (bs.at (i:=4) rfl)) Jn bs rfl rfl fun qu k3 db=>C7 [0,1,2,3,4,5,6,7,8,9,10,11,12,13,14,15] (by kernel_rfl)<|Ep (i:=17) (by kernel_rfl) rfl<|Aq 1 rfl<|C7 [0,1,2,3,4,5,6,7,8,9,10,11,12,13,14,15,16] (by kernel_rfl)<|Ep (i:=18) (by kernel_rfl) rfl<|Aq 1 rfl<|EX (by kernel_rfl) ?_
      refine DV (by kernel_rfl) ?_;have g4:=g4.mono (Ab hH (fi.trans (fj.trans (fk.trans db))));have g5:=g5.mono (Ab hH (fk.trans db));have g6:=g6.mono (Ab hH db);have a:=a.trans (Ab hH db);refine A6 ((aa++[(d.1.1,d.1.2.1,d.1.2.2)]),(x++[((a0.getD b.toNat default).2)]),(y++[(a0.getD b.toNat default).1]),mw,kz,my,k2,mx,k1) (Sub.of rfl) ⟨k3,((g.mono c).mono a),((k.mono c).mono a),((o.mono c).mono a),g4,g6,g5,h⟩
     refine Bu (r:=(.vec .byte)) (l:=[(a0.getD b.toNat default).1]) rfl (fun _=>K8 _ e618h0.one _) rfl (show 1≤9223372036854775807 by decide) hH bq (.c1 ⟨_,rfl,(e618h0.mono (Ah hH))⟩ .nil) ?_;intro qv qw od dc fl g7;have a:=a.trans (Ab hH fl);refine Ba ⟨a.trans (As hH dc),dc.at (i:=2) rfl,dc.at (i:=3) rfl,dc.at (i:=7) rfl⟩ fun kI876=>?_;refine Ep (i:=4) (by kernel_rfl) rfl ?_;have e:=e.trans (Ab hH (aj.trans (ak.trans (al.trans (p.trans (q.trans (t.trans u)))))));have am:=am.mono (Ab hH (fh.trans fl));refine Bq (r:=(.pair (.vec (.int .i64)) (.pair (.vec (.int .i64)) (.vec (.int .i64))))) (l:=aa) (m:=[(d.1.1,d.1.2.1,d.1.2.2)]) 4 rfl rfl Adl FY rfl (by decide) rfl hH dc rfl (((ah.mono e).mono c).mono a) am ag ?_;intro mz qx k4 dd fm g8;have a:=a.trans (Ab hH fm);refine Ba ⟨a.trans (As hH dd),dd.at (i:=2) rfl,dd.at (i:=3) rfl,dd.at (i:=7) rfl⟩ fun kI878=>?_;refine AB 15 ad kI878 (by kernel_rfl) rfl (fun _ _=>Af rfl Adk rfl Jn (by decide)) rfl<|Ep (i:=9) (by kernel_rfl) rfl ?_;have g7:=g7.mono (Ab hH fm)
     refine Bq (r:=(.vec .byte)) (l:=y) (m:=[(a0.getD b.toNat default).1]) 6 rfl rfl Ac3 Fw rfl (by decide) rfl hH dd rfl (((af.mono e).mono c).mono a) g7 ab ?_;intro m0 qy k5 de fn g9;have a:=a.trans (Ab hH fn);refine Ba ⟨a.trans (As hH de),de.at (i:=2) rfl,de.at (i:=3) rfl,de.at (i:=7) rfl⟩ fun kI880=>?_;refine Ep (i:=14) (by kernel_rfl) rfl ?_;have br:=br.mono (Ab hH (fl.trans (fm.trans fn)));refine Bq (r:=.tree) (l:=x) (m:=[((a0.getD b.toNat default).2)]) 5 rfl rfl Acm GR rfl (by decide) rfl hH de rfl (((ae.mono e).mono c).mono a) br ac ?_;intro m1 qz k6 bt fo ha;have a:=a.trans (Ab hH fo);refine Ba ⟨a.trans (As hH bt),bt.at (i:=2) rfl,bt.at (i:=3) rfl,bt.at (i:=7) rfl⟩ fun kI882=>?_;refine Ep (i:=16) (by kernel_rfl) rfl<|Bi 7 rfl rfl (row_one (bt.at (i:=4) rfl)) Jn bt rfl rfl fun q0 k7 df=>C7 [0,1,2,3,4,5,6,7,8,9,10,11,12,13,14,15] (by kernel_rfl)<|Ep (i:=17) (by kernel_rfl) rfl<|Aq 1 rfl<|C7 [0,1,2,3,4,5,6,7,8,9,10,11,12,13,14,15,16] (by kernel_rfl)<|Ep (i:=18) (by kernel_rfl) rfl<|Aq 1 rfl<|EX (by kernel_rfl) ?_
     refine DV (by kernel_rfl) ?_;have g8:=g8.mono (Ab hH (fn.trans (fo.trans df)));have g9:=g9.mono (Ab hH (fo.trans df));have ha:=ha.mono (Ab hH df);have a:=a.trans (Ab hH df);refine A6 ((aa++[(d.1.1,d.1.2.1,d.1.2.2)]),(x++[((a0.getD b.toNat default).2)]),(y++[(a0.getD b.toNat default).1]),mz,k4,m1,k6,m0,k5) (Sub.of rfl) ⟨k7,((g.mono c).mono a),((k.mono c).mono a),((o.mono c).mono a),g8,ha,g9,h⟩
    ·refine Az h fun ag h=>?_;refine Az h fun ab h=>?_;refine Az h fun ac h=>?_;refine Bu (r:=(.vec .byte)) (l:=[(a0.getD b.toNat default).1]) rfl (fun _=>K8 _ e618h0.one _) rfl (show 1≤9223372036854775807 by decide) hH az (.c1 ⟨_,rfl,(e618h0.mono (Ah hH))⟩ .nil) ?_;intro q1 q2 oe bu ji an;have a:=a.trans (Ab hH ji);refine Ba ⟨a.trans (As hH bu),bu.at (i:=2) rfl,bu.at (i:=3) rfl,bu.at (i:=7) rfl⟩ fun kI885=>?_;refine Yk (i:=3) (j:=13) (by kernel_rfl) rfl rfl ?_ ?_
     ·have g:=g.mono (Ab hH (p.trans (q.trans (t.trans u))));have k:=k.mono (Ab hH (p.trans (q.trans (t.trans u))));have o:=o.mono (Ab hH (p.trans (q.trans (t.trans u))));have c:=c.trans (Ab hH (a6.trans (a7.trans (a8.trans bc))));refine Bu (r:=(.pair (.vec (.int .i64)) (.pair (.vec (.int .i64)) (.vec (.int .i64))))) (l:=[(d.1.1,d.1.2.1,d.1.2.2)]) rfl (fun _=>OU _ _ _ _) rfl (show 1≤9223372036854775807 by decide) hH bu (.c3 ⟨_,_,rfl,⟨_,rfl,((g.mono c).mono a)⟩,⟨_,_,rfl,⟨_,rfl,((k.mono c).mono a)⟩,⟨_,rfl,((o.mono c).mono a)⟩⟩⟩ .nil) ?_;intro q3 q4 og bv dg ep;have a:=a.trans (Ab hH dg);refine Ba ⟨a.trans (As hH bv),bv.at (i:=2) rfl,bv.at (i:=3) rfl,bv.at (i:=7) rfl⟩ fun kI887=>?_;refine Yk (i:=4) (j:=13) (by kernel_rfl) rfl rfl ?_ ?_
      ·have e:=e.trans (Ab hH (aj.trans (ak.trans (al.trans (p.trans (q.trans (t.trans u)))))));refine Bq (r:=(.pair (.vec (.int .i64)) (.pair (.vec (.int .i64)) (.vec (.int .i64))))) (l:=aa) (m:=[(d.1.1,d.1.2.1,d.1.2.2)]) 4 rfl rfl Adl FY rfl (by decide) rfl hH bv rfl (((ah.mono e).mono c).mono a) ep ag ?_;intro jj q5 i0 bw fp bx;have a:=a.trans (Ab hH fp);refine Ba ⟨a.trans (As hH bw),bw.at (i:=2) rfl,bw.at (i:=3) rfl,bw.at (i:=7) rfl⟩ fun kI889=>?_;refine AB 15 ad kI889 (by kernel_rfl) rfl (fun _ _=>Af rfl Adk rfl Jn (by decide)) rfl<|Yk (i:=9) (j:=13) (by kernel_rfl) rfl rfl ?_ ?_
       ·have an:=an.mono (Ab hH (dg.trans fp));refine Bq (r:=(.vec .byte)) (l:=y) (m:=[(a0.getD b.toNat default).1]) 6 rfl rfl Ac3 Fw rfl (by decide) rfl hH bw rfl (((af.mono e).mono c).mono a) an ab ?_;intro m2 q6 k8 dh ig hb;have a:=a.trans (Ab hH ig);refine Ba ⟨a.trans (As hH dh),dh.at (i:=2) rfl,dh.at (i:=3) rfl,dh.at (i:=7) rfl⟩ fun kI891=>?_;refine Ep (i:=13) (by kernel_rfl) rfl<|Bu (r:=.tree) (l:=[((a0.getD b.toNat default).2)]) rfl (fun _=>IL _ _ _ _ _ _) rfl (show 1≤9223372036854775807 by decide) hH dh (.c5 (Go.E.Rp.DF ⟨_,_,rfl,rfl,⟨_,_,rfl,rfl,⟨_,_,rfl,⟨_,rfl,(e618h3.mono (Ah hH))⟩,⟨_,_,rfl,⟨_,rfl,(e618h4.mono (Ah hH))⟩,⟨_,rfl,(e618h5.mono (Ah hH))⟩⟩⟩⟩⟩) .nil) ?_;intro q7 q8 oh di fq k9;have a:=a.trans (Ab hH fq);refine Ba ⟨a.trans (As hH di),di.at (i:=2) rfl,di.at (i:=3) rfl,di.at (i:=7) rfl⟩ fun kI893=>?_;refine Ep (i:=14) (by kernel_rfl) rfl<|Bq (r:=.tree) (l:=x) (m:=[((a0.getD b.toNat default).2)]) 5 rfl rfl Acm GR rfl (by decide) rfl hH di rfl (((ae.mono e).mono c).mono a) k9 ac ?_;intro m3 q9 la bz fr hc;have a:=a.trans (Ab hH fr)
        refine Ba ⟨a.trans (As hH bz),bz.at (i:=2) rfl,bz.at (i:=3) rfl,bz.at (i:=7) rfl⟩ fun kI895=>?_;refine Ep (i:=16) (by kernel_rfl) rfl<|Bi 7 rfl rfl (row_one (bz.at (i:=4) rfl)) Jn bz rfl rfl fun ra lb dj=>C7 [0,1,2,3,4,5,6,7,8,9,10,11,12,13,14,15] (by kernel_rfl)<|Ep (i:=17) (by kernel_rfl) rfl<|Aq 1 rfl<|C7 [0,1,2,3,4,5,6,7,8,9,10,11,12,13,14,15,16] (by kernel_rfl)<|Ep (i:=18) (by kernel_rfl) rfl<|Aq 1 rfl<|EX (by kernel_rfl)<|DV (by kernel_rfl) ?_;have bx:=bx.mono (Ab hH (ig.trans (fq.trans (fr.trans dj))));have hb:=hb.mono (Ab hH (fq.trans (fr.trans dj)));have hc:=hc.mono (Ab hH dj);have a:=a.trans (Ab hH dj);refine A6 ((aa++[(d.1.1,d.1.2.1,d.1.2.2)]),(x++[((a0.getD b.toNat default).2)]),(y++[(a0.getD b.toNat default).1]),jj,i0,m3,la,m2,k8) (Sub.of rfl) ⟨lb,((g.mono c).mono a),((k.mono c).mono a),((o.mono c).mono a),bx,hc,hb,h⟩
       refine Bu (r:=.tree) (l:=[((a0.getD b.toNat default).2)]) rfl (fun _=>IL _ _ _ _ _ _) rfl (show 1≤9223372036854775807 by decide) hH bw (.c5 (Go.E.Rp.DF ⟨_,_,rfl,rfl,⟨_,_,rfl,rfl,⟨_,_,rfl,⟨_,rfl,(e618h3.mono (Ah hH))⟩,⟨_,_,rfl,⟨_,rfl,(e618h4.mono (Ah hH))⟩,⟨_,rfl,(e618h5.mono (Ah hH))⟩⟩⟩⟩⟩) .nil) ?_;intro rb rc oi dk fs hd;have a:=a.trans (Ab hH fs);refine Ba ⟨a.trans (As hH dk),dk.at (i:=2) rfl,dk.at (i:=3) rfl,dk.at (i:=7) rfl⟩ fun kI898=>?_;refine Ep (i:=9) (by kernel_rfl) rfl ?_;have an:=an.mono (Ab hH (dg.trans (fp.trans fs)));refine Bq (r:=(.vec .byte)) (l:=y) (m:=[(a0.getD b.toNat default).1]) 6 rfl rfl Ac3 Fw rfl (by decide) rfl hH dk rfl (((af.mono e).mono c).mono a) an ab ?_;intro m4 rd lc dl ft he;have a:=a.trans (Ab hH ft);refine Ba ⟨a.trans (As hH dl),dl.at (i:=2) rfl,dl.at (i:=3) rfl,dl.at (i:=7) rfl⟩ fun kI900=>?_;refine Ep (i:=14) (by kernel_rfl) rfl ?_;have hd:=hd.mono (Ab hH ft);refine Bq (r:=.tree) (l:=x) (m:=[((a0.getD b.toNat default).2)]) 5 rfl rfl Acm GR rfl (by decide) rfl hH dl rfl (((ae.mono e).mono c).mono a) hd ac ?_;intro m5 re ld b0 fu hf
       have a:=a.trans (Ab hH fu);refine Ba ⟨a.trans (As hH b0),b0.at (i:=2) rfl,b0.at (i:=3) rfl,b0.at (i:=7) rfl⟩ fun kI902=>?_;refine Ep (i:=16) (by kernel_rfl) rfl<|Bi 7 rfl rfl (row_one (b0.at (i:=4) rfl)) Jn b0 rfl rfl fun rf le dm=>C7 [0,1,2,3,4,5,6,7,8,9,10,11,12,13,14,15] (by kernel_rfl)<|Ep (i:=17) (by kernel_rfl) rfl<|Aq 1 rfl<|C7 [0,1,2,3,4,5,6,7,8,9,10,11,12,13,14,15,16] (by kernel_rfl)<|Ep (i:=18) (by kernel_rfl) rfl<|Aq 1 rfl<|EX (by kernel_rfl)<|DV (by kernel_rfl) ?_;have bx:=bx.mono (Ab hH (fs.trans (ft.trans (fu.trans dm))));have he:=he.mono (Ab hH (fu.trans dm));have hf:=hf.mono (Ab hH dm);have a:=a.trans (Ab hH dm);refine A6 ((aa++[(d.1.1,d.1.2.1,d.1.2.2)]),(x++[((a0.getD b.toNat default).2)]),(y++[(a0.getD b.toNat default).1]),jj,i0,m5,ld,m4,lc) (Sub.of rfl) ⟨le,((g.mono c).mono a),((k.mono c).mono a),((o.mono c).mono a),bx,hf,he,h⟩
      refine Bu (r:=.tree) (l:=[((a0.getD b.toNat default).2)]) rfl (fun _=>IL _ _ _ _ _ _) rfl (show 1≤9223372036854775807 by decide) hH bv (.c5 (Go.E.Rp.DF ⟨_,_,rfl,rfl,⟨_,_,rfl,rfl,⟨_,_,rfl,⟨_,rfl,(e618h3.mono (Ah hH))⟩,⟨_,_,rfl,⟨_,rfl,(e618h4.mono (Ah hH))⟩,⟨_,rfl,(e618h5.mono (Ah hH))⟩⟩⟩⟩⟩) .nil) ?_;intro rg rh oj dn fv hg;have a:=a.trans (Ab hH fv);refine Ba ⟨a.trans (As hH dn),dn.at (i:=2) rfl,dn.at (i:=3) rfl,dn.at (i:=7) rfl⟩ fun kI905=>?_;refine Ep (i:=4) (by kernel_rfl) rfl ?_;have e:=e.trans (Ab hH (aj.trans (ak.trans (al.trans (p.trans (q.trans (t.trans u)))))));have ep:=ep.mono (Ab hH fv);refine Bq (r:=(.pair (.vec (.int .i64)) (.pair (.vec (.int .i64)) (.vec (.int .i64))))) (l:=aa) (m:=[(d.1.1,d.1.2.1,d.1.2.2)]) 4 rfl rfl Adl FY rfl (by decide) rfl hH dn rfl (((ah.mono e).mono c).mono a) ep ag ?_;intro m6 ri lf dp fw hh;have a:=a.trans (Ab hH fw);refine Ba ⟨a.trans (As hH dp),dp.at (i:=2) rfl,dp.at (i:=3) rfl,dp.at (i:=7) rfl⟩ fun kI907=>?_;refine AB 15 ad kI907 (by kernel_rfl) rfl (fun _ _=>Af rfl Adk rfl Jn (by decide)) rfl<|Ep (i:=9) (by kernel_rfl) rfl ?_
      have an:=an.mono (Ab hH (dg.trans (fv.trans fw)));refine Bq (r:=(.vec .byte)) (l:=y) (m:=[(a0.getD b.toNat default).1]) 6 rfl rfl Ac3 Fw rfl (by decide) rfl hH dp rfl (((af.mono e).mono c).mono a) an ab ?_;intro m7 rj lg dq fx hi;have a:=a.trans (Ab hH fx);refine Ba ⟨a.trans (As hH dq),dq.at (i:=2) rfl,dq.at (i:=3) rfl,dq.at (i:=7) rfl⟩ fun kI909=>?_;refine Ep (i:=14) (by kernel_rfl) rfl ?_;have hg:=hg.mono (Ab hH (fw.trans fx));refine Bq (r:=.tree) (l:=x) (m:=[((a0.getD b.toNat default).2)]) 5 rfl rfl Acm GR rfl (by decide) rfl hH dq rfl (((ae.mono e).mono c).mono a) hg ac ?_;intro m8 rk lh b3 fy hj;have a:=a.trans (Ab hH fy);refine Ba ⟨a.trans (As hH b3),b3.at (i:=2) rfl,b3.at (i:=3) rfl,b3.at (i:=7) rfl⟩ fun kI911=>?_;refine Ep (i:=16) (by kernel_rfl) rfl<|Bi 7 rfl rfl (row_one (b3.at (i:=4) rfl)) Jn b3 rfl rfl fun rl li dr=>C7 [0,1,2,3,4,5,6,7,8,9,10,11,12,13,14,15] (by kernel_rfl)<|Ep (i:=17) (by kernel_rfl) rfl<|Aq 1 rfl<|C7 [0,1,2,3,4,5,6,7,8,9,10,11,12,13,14,15,16] (by kernel_rfl)<|Ep (i:=18) (by kernel_rfl) rfl ?_
      refine Aq 1 rfl<|EX (by kernel_rfl)<|DV (by kernel_rfl) ?_;have hh:=hh.mono (Ab hH (fx.trans (fy.trans dr)));have hi:=hi.mono (Ab hH (fy.trans dr));have hj:=hj.mono (Ab hH dr);have a:=a.trans (Ab hH dr);refine A6 ((aa++[(d.1.1,d.1.2.1,d.1.2.2)]),(x++[((a0.getD b.toNat default).2)]),(y++[(a0.getD b.toNat default).1]),m6,lf,m8,lh,m7,lg) (Sub.of rfl) ⟨li,((g.mono c).mono a),((k.mono c).mono a),((o.mono c).mono a),hh,hj,hi,h⟩
     refine Bu (r:=.tree) (l:=[((a0.getD b.toNat default).2)]) rfl (fun _=>IL _ _ _ _ _ _) rfl (show 1≤9223372036854775807 by decide) hH bu (.c5 (Go.E.Rp.DF ⟨_,_,rfl,rfl,⟨_,_,rfl,rfl,⟨_,_,rfl,⟨_,rfl,(e618h3.mono (Ah hH))⟩,⟨_,_,rfl,⟨_,rfl,(e618h4.mono (Ah hH))⟩,⟨_,rfl,(e618h5.mono (Ah hH))⟩⟩⟩⟩⟩) .nil) ?_;intro rm rn ok ds ih hk;have a:=a.trans (Ab hH ih);refine Ba ⟨a.trans (As hH ds),ds.at (i:=2) rfl,ds.at (i:=3) rfl,ds.at (i:=7) rfl⟩ fun kI914=>?_;refine Ep (i:=3) (by kernel_rfl) rfl ?_;have g:=g.mono (Ab hH (p.trans (q.trans (t.trans u))));have k:=k.mono (Ab hH (p.trans (q.trans (t.trans u))));have o:=o.mono (Ab hH (p.trans (q.trans (t.trans u))));have c:=c.trans (Ab hH (a6.trans (a7.trans (a8.trans bc))));refine Bu (r:=(.pair (.vec (.int .i64)) (.pair (.vec (.int .i64)) (.vec (.int .i64))))) (l:=[(d.1.1,d.1.2.1,d.1.2.2)]) rfl (fun _=>OU _ _ _ _) rfl (show 1≤9223372036854775807 by decide) hH ds (.c3 ⟨_,_,rfl,⟨_,rfl,((g.mono c).mono a)⟩,⟨_,_,rfl,⟨_,rfl,((k.mono c).mono a)⟩,⟨_,rfl,((o.mono c).mono a)⟩⟩⟩ .nil) ?_;intro ro rp ol dt fz lj
     have a:=a.trans (Ab hH fz);refine Ba ⟨a.trans (As hH dt),dt.at (i:=2) rfl,dt.at (i:=3) rfl,dt.at (i:=7) rfl⟩ fun kI916=>?_;refine Ep (i:=4) (by kernel_rfl) rfl ?_;have e:=e.trans (Ab hH (aj.trans (ak.trans (al.trans (p.trans (q.trans (t.trans u)))))));refine Bq (r:=(.pair (.vec (.int .i64)) (.pair (.vec (.int .i64)) (.vec (.int .i64))))) (l:=aa) (m:=[(d.1.1,d.1.2.1,d.1.2.2)]) 4 rfl rfl Adl FY rfl (by decide) rfl hH dt rfl (((ah.mono e).mono c).mono a) lj ag ?_;intro m9 rq lk du f0 hl;have a:=a.trans (Ab hH f0);refine Ba ⟨a.trans (As hH du),du.at (i:=2) rfl,du.at (i:=3) rfl,du.at (i:=7) rfl⟩ fun kI918=>?_;refine AB 15 ad kI918 (by kernel_rfl) rfl (fun _ _=>Af rfl Adk rfl Jn (by decide)) rfl<|Ep (i:=9) (by kernel_rfl) rfl ?_;have an:=an.mono (Ab hH (ih.trans (fz.trans f0)));refine Bq (r:=(.vec .byte)) (l:=y) (m:=[(a0.getD b.toNat default).1]) 6 rfl rfl Ac3 Fw rfl (by decide) rfl hH du rfl (((af.mono e).mono c).mono a) an ab ?_;intro na rr ll dv f1 hm;have a:=a.trans (Ab hH f1)
     refine Ba ⟨a.trans (As hH dv),dv.at (i:=2) rfl,dv.at (i:=3) rfl,dv.at (i:=7) rfl⟩ fun kI920=>?_;refine Ep (i:=14) (by kernel_rfl) rfl ?_;have hk:=hk.mono (Ab hH (fz.trans (f0.trans f1)));refine Bq (r:=.tree) (l:=x) (m:=[((a0.getD b.toNat default).2)]) 5 rfl rfl Acm GR rfl (by decide) rfl hH dv rfl (((ae.mono e).mono c).mono a) hk ac ?_;intro nb rs lm b4 f2 hn;have a:=a.trans (Ab hH f2);refine Ba ⟨a.trans (As hH b4),b4.at (i:=2) rfl,b4.at (i:=3) rfl,b4.at (i:=7) rfl⟩ fun kI922=>?_;refine Ep (i:=16) (by kernel_rfl) rfl<|Bi 7 rfl rfl (row_one (b4.at (i:=4) rfl)) Jn b4 rfl rfl fun rt ln dw=>C7 [0,1,2,3,4,5,6,7,8,9,10,11,12,13,14,15] (by kernel_rfl)<|Ep (i:=17) (by kernel_rfl) rfl<|Aq 1 rfl<|C7 [0,1,2,3,4,5,6,7,8,9,10,11,12,13,14,15,16] (by kernel_rfl)<|Ep (i:=18) (by kernel_rfl) rfl<|Aq 1 rfl<|EX (by kernel_rfl)<|DV (by kernel_rfl) ?_;have hl:=hl.mono (Ab hH (f1.trans (f2.trans dw)));have hm:=hm.mono (Ab hH (f2.trans dw));have hn:=hn.mono (Ab hH dw);have a:=a.trans (Ab hH dw)
     refine A6 ((aa++[(d.1.1,d.1.2.1,d.1.2.2)]),(x++[((a0.getD b.toNat default).2)]),(y++[(a0.getD b.toNat default).1]),m9,lk,nb,lm,na,ll) (Sub.of rfl) ⟨ln,((g.mono c).mono a),((k.mono c).mono a),((o.mono c).mono a),hl,hn,hm,h⟩
    refine Az h fun ag h=>?_;refine Az h fun ab h=>?_;refine Az h fun ac h=>?_;refine Bu (r:=.tree) (l:=[((a0.getD b.toNat default).2)]) rfl (fun _=>IL _ _ _ _ _ _) rfl (show 1≤9223372036854775807 by decide) hH az (.c5 (Go.E.Rp.DF ⟨_,_,rfl,rfl,⟨_,_,rfl,rfl,⟨_,_,rfl,⟨_,rfl,(e618h3.mono (Ah hH))⟩,⟨_,_,rfl,⟨_,rfl,(e618h4.mono (Ah hH))⟩,⟨_,rfl,(e618h5.mono (Ah hH))⟩⟩⟩⟩⟩) .nil) ?_;intro ru rv om b5 jk au;have a:=a.trans (Ab hH jk);refine Ba ⟨a.trans (As hH b5),b5.at (i:=2) rfl,b5.at (i:=3) rfl,b5.at (i:=7) rfl⟩ fun kI925=>?_;refine Yk (i:=3) (j:=8) (by kernel_rfl) rfl rfl ?_ ?_
    ·have g:=g.mono (Ab hH (p.trans (q.trans (t.trans u))));have k:=k.mono (Ab hH (p.trans (q.trans (t.trans u))));have o:=o.mono (Ab hH (p.trans (q.trans (t.trans u))));have c:=c.trans (Ab hH (a6.trans (a7.trans (a8.trans bc))));refine Bu (r:=(.pair (.vec (.int .i64)) (.pair (.vec (.int .i64)) (.vec (.int .i64))))) (l:=[(d.1.1,d.1.2.1,d.1.2.2)]) rfl (fun _=>OU _ _ _ _) rfl (show 1≤9223372036854775807 by decide) hH b5 (.c3 ⟨_,_,rfl,⟨_,rfl,((g.mono c).mono a)⟩,⟨_,_,rfl,⟨_,rfl,((k.mono c).mono a)⟩,⟨_,rfl,((o.mono c).mono a)⟩⟩⟩ .nil) ?_;intro rx ry oo b7 f3 eq;have a:=a.trans (Ab hH f3);refine Ba ⟨a.trans (As hH b7),b7.at (i:=2) rfl,b7.at (i:=3) rfl,b7.at (i:=7) rfl⟩ fun kI927=>?_;refine Yk (i:=4) (j:=8) (by kernel_rfl) rfl rfl ?_ ?_
     ·have e:=e.trans (Ab hH (aj.trans (ak.trans (al.trans (p.trans (q.trans (t.trans u)))))));refine Bq (r:=(.pair (.vec (.int .i64)) (.pair (.vec (.int .i64)) (.vec (.int .i64))))) (l:=aa) (m:=[(d.1.1,d.1.2.1,d.1.2.2)]) 4 rfl rfl Adl FY rfl (by decide) rfl hH b7 rfl (((ah.mono e).mono c).mono a) eq ag ?_;intro nc rz lo dx ii ho;have a:=a.trans (Ab hH ii);refine Ba ⟨a.trans (As hH dx),dx.at (i:=2) rfl,dx.at (i:=3) rfl,dx.at (i:=7) rfl⟩ fun kI929=>?_;refine AB 15 ad kI929 (by kernel_rfl) rfl (fun _ _=>Af rfl Adk rfl Jn (by decide)) rfl<|Ep (i:=8) (by kernel_rfl) rfl<|Bu (r:=(.vec .byte)) (l:=[(a0.getD b.toNat default).1]) rfl (fun _=>K8 _ e618h0.one _) rfl (show 1≤9223372036854775807 by decide) hH dx (.c1 ⟨_,rfl,(e618h0.mono (Ah hH))⟩ .nil) ?_;intro r0 r1 op dy f4 lp;have a:=a.trans (Ab hH f4);refine Ba ⟨a.trans (As hH dy),dy.at (i:=2) rfl,dy.at (i:=3) rfl,dy.at (i:=7) rfl⟩ fun kI931=>?_;refine Ep (i:=9) (by kernel_rfl) rfl<|Bq (r:=(.vec .byte)) (l:=y) (m:=[(a0.getD b.toNat default).1]) 6 rfl rfl Ac3 Fw rfl (by decide) rfl hH dy rfl (((af.mono e).mono c).mono a) lp ab ?_
      intro nd r2 lq dz f5 hq;have a:=a.trans (Ab hH f5);refine Ba ⟨a.trans (As hH dz),dz.at (i:=2) rfl,dz.at (i:=3) rfl,dz.at (i:=7) rfl⟩ fun kI933=>?_;refine Ep (i:=14) (by kernel_rfl) rfl ?_;have au:=au.mono (Ab hH (f3.trans (ii.trans (f4.trans f5))));refine Bq (r:=.tree) (l:=x) (m:=[((a0.getD b.toNat default).2)]) 5 rfl rfl Acm GR rfl (by decide) rfl hH dz rfl (((ae.mono e).mono c).mono a) au ac ?_;intro nf r3 lr b8 f6 hr;have a:=a.trans (Ab hH f6);refine Ba ⟨a.trans (As hH b8),b8.at (i:=2) rfl,b8.at (i:=3) rfl,b8.at (i:=7) rfl⟩ fun kI935=>?_;refine Ep (i:=16) (by kernel_rfl) rfl<|Bi 7 rfl rfl (row_one (b8.at (i:=4) rfl)) Jn b8 rfl rfl fun r4 ls d0=>C7 [0,1,2,3,4,5,6,7,8,9,10,11,12,13,14,15] (by kernel_rfl)<|Ep (i:=17) (by kernel_rfl) rfl<|Aq 1 rfl<|C7 [0,1,2,3,4,5,6,7,8,9,10,11,12,13,14,15,16] (by kernel_rfl)<|Ep (i:=18) (by kernel_rfl) rfl<|Aq 1 rfl<|EX (by kernel_rfl)<|DV (by kernel_rfl) ?_;have ho:=ho.mono (Ab hH (f4.trans (f5.trans (f6.trans d0))));have hq:=hq.mono (Ab hH (f6.trans d0))
      have hr:=hr.mono (Ab hH d0);have a:=a.trans (Ab hH d0);refine A6 ((aa++[(d.1.1,d.1.2.1,d.1.2.2)]),(x++[((a0.getD b.toNat default).2)]),(y++[(a0.getD b.toNat default).1]),nc,lo,nf,lr,nd,lq) (Sub.of rfl) ⟨ls,((g.mono c).mono a),((k.mono c).mono a),((o.mono c).mono a),ho,hr,hq,h⟩
     refine Bu (r:=(.vec .byte)) (l:=[(a0.getD b.toNat default).1]) rfl (fun _=>K8 _ e618h0.one _) rfl (show 1≤9223372036854775807 by decide) hH b7 (.c1 ⟨_,rfl,(e618h0.mono (Ah hH))⟩ .nil) ?_;intro r5 r6 oq d1 f7 hs;have a:=a.trans (Ab hH f7);refine Ba ⟨a.trans (As hH d1),d1.at (i:=2) rfl,d1.at (i:=3) rfl,d1.at (i:=7) rfl⟩ fun kI938=>?_;refine Ep (i:=4) (by kernel_rfl) rfl ?_;have e:=e.trans (Ab hH (aj.trans (ak.trans (al.trans (p.trans (q.trans (t.trans u)))))));have eq:=eq.mono (Ab hH f7);refine Bq (r:=(.pair (.vec (.int .i64)) (.pair (.vec (.int .i64)) (.vec (.int .i64))))) (l:=aa) (m:=[(d.1.1,d.1.2.1,d.1.2.2)]) 4 rfl rfl Adl FY rfl (by decide) rfl hH d1 rfl (((ah.mono e).mono c).mono a) eq ag ?_;intro ng r7 lt d2 f8 ht;have a:=a.trans (Ab hH f8);refine Ba ⟨a.trans (As hH d2),d2.at (i:=2) rfl,d2.at (i:=3) rfl,d2.at (i:=7) rfl⟩ fun kI940=>?_;refine AB 15 ad kI940 (by kernel_rfl) rfl (fun _ _=>Af rfl Adk rfl Jn (by decide)) rfl<|Ep (i:=9) (by kernel_rfl) rfl ?_;have hs:=hs.mono (Ab hH f8)
     refine Bq (r:=(.vec .byte)) (l:=y) (m:=[(a0.getD b.toNat default).1]) 6 rfl rfl Ac3 Fw rfl (by decide) rfl hH d2 rfl (((af.mono e).mono c).mono a) hs ab ?_;intro nh r8 lu d3 f9 hu;have a:=a.trans (Ab hH f9);refine Ba ⟨a.trans (As hH d3),d3.at (i:=2) rfl,d3.at (i:=3) rfl,d3.at (i:=7) rfl⟩ fun kI942=>?_;refine Ep (i:=14) (by kernel_rfl) rfl ?_;have au:=au.mono (Ab hH (f3.trans (f7.trans (f8.trans f9))));refine Bq (r:=.tree) (l:=x) (m:=[((a0.getD b.toNat default).2)]) 5 rfl rfl Acm GR rfl (by decide) rfl hH d3 rfl (((ae.mono e).mono c).mono a) au ac ?_;intro ni r9 lv b9 ga hv;have a:=a.trans (Ab hH ga);refine Ba ⟨a.trans (As hH b9),b9.at (i:=2) rfl,b9.at (i:=3) rfl,b9.at (i:=7) rfl⟩ fun kI944=>?_;refine Ep (i:=16) (by kernel_rfl) rfl<|Bi 7 rfl rfl (row_one (b9.at (i:=4) rfl)) Jn b9 rfl rfl fun sa lw d4=>C7 [0,1,2,3,4,5,6,7,8,9,10,11,12,13,14,15] (by kernel_rfl)<|Ep (i:=17) (by kernel_rfl) rfl<|Aq 1 rfl<|C7 [0,1,2,3,4,5,6,7,8,9,10,11,12,13,14,15,16] (by kernel_rfl)<|Ep (i:=18) (by kernel_rfl) rfl<|Aq 1 rfl<|EX (by kernel_rfl) ?_
     refine DV (by kernel_rfl) ?_;have ht:=ht.mono (Ab hH (f9.trans (ga.trans d4)));have hu:=hu.mono (Ab hH (ga.trans d4));have hv:=hv.mono (Ab hH d4);have a:=a.trans (Ab hH d4);refine A6 ((aa++[(d.1.1,d.1.2.1,d.1.2.2)]),(x++[((a0.getD b.toNat default).2)]),(y++[(a0.getD b.toNat default).1]),ng,lt,ni,lv,nh,lu) (Sub.of rfl) ⟨lw,((g.mono c).mono a),((k.mono c).mono a),((o.mono c).mono a),ht,hv,hu,h⟩
    refine Bu (r:=(.vec .byte)) (l:=[(a0.getD b.toNat default).1]) rfl (fun _=>K8 _ e618h0.one _) rfl (show 1≤9223372036854775807 by decide) hH b5 (.c1 ⟨_,rfl,(e618h0.mono (Ah hH))⟩ .nil) ?_;intro sb sc os d5 ij hw;have a:=a.trans (Ab hH ij);refine Ba ⟨a.trans (As hH d5),d5.at (i:=2) rfl,d5.at (i:=3) rfl,d5.at (i:=7) rfl⟩ fun kI947=>?_;refine Ep (i:=3) (by kernel_rfl) rfl ?_;have g:=g.mono (Ab hH (p.trans (q.trans (t.trans u))));have k:=k.mono (Ab hH (p.trans (q.trans (t.trans u))));have o:=o.mono (Ab hH (p.trans (q.trans (t.trans u))));have c:=c.trans (Ab hH (a6.trans (a7.trans (a8.trans bc))));refine Bu (r:=(.pair (.vec (.int .i64)) (.pair (.vec (.int .i64)) (.vec (.int .i64))))) (l:=[(d.1.1,d.1.2.1,d.1.2.2)]) rfl (fun _=>OU _ _ _ _) rfl (show 1≤9223372036854775807 by decide) hH d5 (.c3 ⟨_,_,rfl,⟨_,rfl,((g.mono c).mono a)⟩,⟨_,_,rfl,⟨_,rfl,((k.mono c).mono a)⟩,⟨_,rfl,((o.mono c).mono a)⟩⟩⟩ .nil) ?_;intro sd se ot d6 gb lx;have a:=a.trans (Ab hH gb);refine Ba ⟨a.trans (As hH d6),d6.at (i:=2) rfl,d6.at (i:=3) rfl,d6.at (i:=7) rfl⟩ fun kI949=>?_
    refine Ep (i:=4) (by kernel_rfl) rfl ?_;have e:=e.trans (Ab hH (aj.trans (ak.trans (al.trans (p.trans (q.trans (t.trans u)))))));refine Bq (r:=(.pair (.vec (.int .i64)) (.pair (.vec (.int .i64)) (.vec (.int .i64))))) (l:=aa) (m:=[(d.1.1,d.1.2.1,d.1.2.2)]) 4 rfl rfl Adl FY rfl (by decide) rfl hH d6 rfl (((ah.mono e).mono c).mono a) lx ag ?_;intro nj sf ly d7 gc hx;have a:=a.trans (Ab hH gc);refine Ba ⟨a.trans (As hH d7),d7.at (i:=2) rfl,d7.at (i:=3) rfl,d7.at (i:=7) rfl⟩ fun kI951=>?_;refine AB 15 ad kI951 (by kernel_rfl) rfl (fun _ _=>Af rfl Adk rfl Jn (by decide)) rfl<|Ep (i:=9) (by kernel_rfl) rfl ?_;have hw:=hw.mono (Ab hH (gb.trans gc));refine Bq (r:=(.vec .byte)) (l:=y) (m:=[(a0.getD b.toNat default).1]) 6 rfl rfl Ac3 Fw rfl (by decide) rfl hH d7 rfl (((af.mono e).mono c).mono a) hw ab ?_;intro nk sg lz d8 gd hy;have a:=a.trans (Ab hH gd);refine Ba ⟨a.trans (As hH d8),d8.at (i:=2) rfl,d8.at (i:=3) rfl,d8.at (i:=7) rfl⟩ fun kI953=>?_;refine Ep (i:=14) (by kernel_rfl) rfl ?_;have au:=au.mono (Ab hH (ij.trans (gb.trans (gc.trans gd))))
    refine Bq (r:=.tree) (l:=x) (m:=[((a0.getD b.toNat default).2)]) 5 rfl rfl Acm GR rfl (by decide) rfl hH d8 rfl (((ae.mono e).mono c).mono a) au ac ?_;intro nl sh l0 ca ge hz;have a:=a.trans (Ab hH ge);refine Ba ⟨a.trans (As hH ca),ca.at (i:=2) rfl,ca.at (i:=3) rfl,ca.at (i:=7) rfl⟩ fun kI955=>?_;refine Ep (i:=16) (by kernel_rfl) rfl<|Bi 7 rfl rfl (row_one (ca.at (i:=4) rfl)) Jn ca rfl rfl fun si l1 d9=>C7 [0,1,2,3,4,5,6,7,8,9,10,11,12,13,14,15] (by kernel_rfl)<|Ep (i:=17) (by kernel_rfl) rfl<|Aq 1 rfl<|C7 [0,1,2,3,4,5,6,7,8,9,10,11,12,13,14,15,16] (by kernel_rfl)<|Ep (i:=18) (by kernel_rfl) rfl<|Aq 1 rfl<|EX (by kernel_rfl)<|DV (by kernel_rfl) ?_;have hx:=hx.mono (Ab hH (gd.trans (ge.trans d9)));have hy:=hy.mono (Ab hH (ge.trans d9));have hz:=hz.mono (Ab hH d9);have a:=a.trans (Ab hH d9)
    refine A6 ((aa++[(d.1.1,d.1.2.1,d.1.2.2)]),(x++[((a0.getD b.toNat default).2)]),(y++[(a0.getD b.toNat default).1]),nj,ly,nl,l0,nk,lz) (Sub.of rfl) ⟨l1,((g.mono c).mono a),((k.mono c).mono a),((o.mono c).mono a),hx,hz,hy,h⟩
   rintro⟨ef,eg,eh,ci,a9,cj,ba,ck,bb⟩ ou ⟨i1,nm,nn,no,jl,jm,jn,h⟩;refine A8<|Ao ?_;have ea:=i1.rG H;refine Ar ?_;refine Az h fun l2 h=>?_;refine Ae (AK rfl rfl rfl l2) rfl<|Aq 1 rfl<|AL ?_;have l3:=i1.AP (i:=0) rfl;have l4:=l3.AP (i:=0) rfl;have l5:=l4.AP (i:=0) rfl;have l6:=l5.AP (i:=0) rfl;have h:=BV.again h iw;have ea:=ea.trans (Ab hH ((Al (i:=0) rfl).trans ((Al (i:=0) rfl).trans ((Al (i:=0) rfl).trans (Al (i:=0) rfl)))));refine AN (eg,eh,ef,(b+(1:Int)),cj,ba,ck,bb,ci,a9,is) (Sub.of rfl) ⟨l6,(jl.mono ea),(jm.mono ea),(jn.mono ea),h⟩ (Nat.lt_succ_self _)
  refine Br<|AD<|A5 ?_;have h:=BV.out h iw;refine Bd<|A6 (x,y,aa,a2,av,a3,aw,ap,ax) (Sub.of rfl) ⟨en,(ah.mono e),(ae.mono e),(af.mono e),h⟩
 rintro⟨ev,ew,a5,el,cc,em,cd,bd,a1⟩ ov ⟨i2,ik,jo,jp,h⟩;have ai:=i2.rG H;refine Ak<|AG AR rfl rfl i2 fun sj jq i3 jr _=>Ac<|Bn (σ:=Int×Int×Int×(List (AaK×(List (Int×Int))))×Int×(List ((AaK×Int×Int×AaK)×(List Int)))×Value×Value) (fun⟨h0,h1,h2,h3,h4,h5,er,es⟩=>[(2,(AaH b1)),(3,(AaH b2)),(4,(AaH b6)),(12,(AaH jq))]) (fun⟨h0,h1,h2,h3,h4,h5,er,es⟩ wr=>DZ w [.box jq [No h0,No h1] 28,.row (bd) 98 3 (a5).length (a1),.box b6 [No h2,er,No h4,es,bd] 52,.box b2 [No (0:Int),No (0:Int)] 28,.box b1 [No (0:Int),Aat,No (0:Int),Aat,Aat] 52] wr fun Oz=>AJ (.pair (.vec (.int .i64)) (.pair (.vec (.int .i64)) (.vec (.int .i64)))) (gz H w wr Oz) (a5) (a1)∧AI (.pair .st (.vec (.pair (.int .i64) (.int .i64)))) (gz H w wr Oz) (er) (h3)∧AI (.pair (.pair .st (.pair (.int .i64) (.pair (.int .i64) .st))) (.vec (.int .i64))) (gz H w wr Oz) (es) (h5)∧(Hy a5) h0 h1 h2 h3 h4 h5=some r) ?_ ?_
 ·refine Bk 1 rfl ?_;have ai:=ai.trans (Ab hH jr);have l7:=i3.CA hH (i:=3) rfl (jp.mono ai);have h6:=i3.AP (i:=3) rfl;refine Ax h fun ei l8 h=>?_;refine Bs rfl rfl h6 (RN _ _ (As hH h6) (hU.mono (Ah hH)) l7 l8) ?_;rintro _ sk ⟨il,rfl,i7⟩ l9 ma im;have ao:=i7.mono (Dv hH h6 l9);refine Aq 3 rfl<|Ae (Af rfl Adk rfl OB (by decide)) rfl<|SI 3 0 rfl rfl rfl OB ma rfl rfl rfl (AH rfl (AH ao.one Cj)) fun sl mb eb=>Aj 0 rfl rfl rfl AR mb rfl rfl (AH rfl (AH rfl Cj)) fun sm et ec=>Ac<|Ak<|Ae (AE 0 rfl Abs rfl AR et rfl) rfl<|Ae (AZ rfl (fun _=>BY _)) rfl<|Ae (VT rfl rfl I6 (Lp _ _ _ _)) rfl<|Ac<|AM rfl h (fun mc h=>?_) (fun mc h=>?_)
  ·refine Ar<|Aq 1 rfl ?_;have ai:=ai.trans (Ab hH ((Al (i:=3) rfl).trans (im.trans (eb.trans ec))));have md:=et.CA hH (i:=2) rfl (jo.mono ai);have h7:=et.AP (i:=2) rfl;refine Ax h fun h8 me h=>?_;refine Bs rfl rfl h7 (Q6 _ _ (As hH h7) md me) ?_;rintro _ sn ⟨js,rfl,i8⟩ mf mg io;have cb:=i8.mono (Dv hH h7 mf);refine Aq 3 rfl<|Ae (Af rfl Adk rfl Qw (by decide)) rfl<|SI 2 2 rfl rfl rfl Qw mg rfl rfl rfl (AH rfl (AH cb.one Cj)) fun ow jt ej=>Aj 0 rfl rfl rfl AR jt rfl rfl (AH rfl (AH rfl Cj)) fun ox ju ek=>AL ?_;have ao:=ao.mono (Ab hH (eb.trans (ec.trans ((Al (i:=2) rfl).trans (io.trans (ej.trans ek))))));have ai:=ai.trans (Ab hH ((Al (i:=2) rfl).trans (io.trans (ej.trans ek))));have cb:=cb.mono (Ab hH (ej.trans ek));refine A6 (h8.2.1,h8.2.2,ei.1.1,ei.1.2,h8.1.1,h8.1.2,il,js) (Sub.of rfl) ⟨ju,(ik.mono ai),ao,cb,h⟩
  refine Au ?_;have ai:=ai.trans (Ab hH ((Al (i:=3) rfl).trans (im.trans (eb.trans ec))));have jv:=et.AP (i:=2) rfl;have ao:=ao.mono (Ab hH (eb.trans (ec.trans (Al (i:=2) rfl))));have ai:=ai.trans (Ab hH (Al (i:=2) rfl));refine A6 (ei.2.1,ei.2.2,ei.1.1,ei.1.2,(0:Int),[],il,Aat) (Sub.of rfl) ⟨jv,(ik.mono ai),ao,(AI.nil _ _),h⟩
 rintro⟨h0,h1,h2,h3,h4,h5,er,es⟩ oy ⟨ed,he988_j404,ip,iq,h⟩;refine A7 ?_;have ay:=ed.rG H;refine Ak<|Ae (AE 0 rfl Abs rfl AR ed rfl) rfl<|Ae (AZ rfl (fun _=>BY _)) rfl<|Ae (JG rfl rfl I6 (Lp _ _ _ _)) rfl<|Ac<|Cl rfl h (fun jw h=>?_) (fun jw h=>?_)
 ·cases h
 refine Au<|Ao<|Ak<|Ae (AE 2 rfl Adk rfl MU ed rfl) rfl<|Ae (AZ rfl (fun _=>BY _)) rfl<|Aj 4 rfl rfl rfl MU ed rfl rfl (AH rfl (AH (ip.mono ay).one (AH rfl (AH (iq.mono ay).one (AH (row_one (ed.at (i:=1) rfl)) Cj))))) fun oz jx i9=>Aj 3 rfl rfl rfl AR jx rfl rfl (AH rfl (AH rfl Cj)) fun o0 ee ja=>Ac<|Ay ?_
 cases h
 refine C9 rfl (.cell rfl Adk rfl MU (AT (i:=4) ee rfl)) (.cell rfl Abs rfl AR (AT (i:=3) ee rfl)) ?_;have ay:=ay.trans (Ab hH (i9.trans ja));exact⟨ee.ext,_,_,_,rfl,((ip.mono ay).mono (Dm hH)),((iq.mono ay).mono (Dm hH)),(ee.GQ hH (i:=1) rfl (he988_j404.mono ay))⟩
def CS(a0:(Int×(List (AaK×(List (Int×Int)))))×(Int×(List ((AaK×Int×Int×AaK)×(List Int))))×(List (((List Int))×(List Int)×(List Int)))):Option (Int):=
 some ((a0.2.2.length:Int))
theorem EG(w:World)(H:PH)(_hH:Le H (hp w)){a0:(Int×(List (AaK×(List (Int×Int)))))×(Int×(List ((AaK×Int×Int×AaK)×(List Int))))×(List (((List Int))×(List Int)×(List Int)))}{a:Value}{b:Value}{c:Value}(_h0_0:AI (.pair .st (.vec (.pair (.int .i64) (.int .i64)))) H a (a0.1.2))(_h0_1:AI (.pair (.pair .st (.pair (.int .i64) (.pair (.int .i64) .st))) (.vec (.int .i64))) H b (a0.2.1.2))(e:AI (.pair (.vec (.int .i64)) (.pair (.vec (.int .i64)) (.vec (.int .i64)))) H c (a0.2.2)){r:Int}(h:CS a0=some r):
  Ok Tryz.prog 22 [.agg #[No a0.1.1,a,No a0.2.1.1,b,c]] w (fun v w'=>Ext w w'∧v=No r):=by
 refine A4 (n:=6) [(0,.agg #[No a0.1.1,a,No a0.2.1.1,b,c])] func22 rfl rfl rfl rfl rfl ?_;have hL:=AO.start w;refine Ak<|CK (t:=52) rfl rfl rfl hL fun g i d f _=>AA 1 rfl<|Ak<|Ae (Af rfl Adk rfl Jn (by decide)) rfl<|Ae (Ag 0 rfl Adl rfl d rfl rfl) rfl<|Ae (Bo rfl Adl e) rfl<|AA 1 rfl<|Ay ?_
 cases h
 refine Am rfl rfl ?_;exact⟨d.ext,rfl⟩
def FP(a:List Bool):Option ((List Bool)):=
 some (a)
def Fo(a1:List Int):(List Bool)×Int→Option (((List Bool)×Int) ⊕ ((List Bool))):=fun⟨b,a⟩=>
 if a<(a1.length:Int) then AU (0≤a∧a<(a1.length:Int)) (AU (0≤a1.getD a.toNat default∧a1.getD a.toNat default<(b.length:Int)) (AU (BL (a+(1:Int))) (some (Sum.inl ((b.set ((a1.getD a.toNat default).toNat) true),(a+(1:Int))))))) else Option.map Sum.inr (FP b)
def HC(a1:List Int)(s:(List Bool)×Int):Option ((List Bool)):=Go.L.run (Fo a1) s
def Hp(a0:(Int×(List (AaK×(List (Int×Int)))))×(Int×(List ((AaK×Int×Int×AaK)×(List Int))))×(List (((List Int))×(List Int)×(List Int))))(a1:List Int):Option ((List Bool)):=
 Option.bind (CS ((a0.1.1,a0.1.2),(a0.2.1.1,a0.2.1.2),a0.2.2)) (fun a=>AU (0≤a∧((1:Nat):Int) * a≤281474976710656∧a≤9223372036854775807) ((HC a1) ((List.replicate a.toNat (false:Bool)),(0:Int))))
theorem Nd(w:World)(H:PH)(hH:Le H (hp w)){a0:(Int×(List (AaK×(List (Int×Int)))))×(Int×(List ((AaK×Int×Int×AaK)×(List Int))))×(List (((List Int))×(List Int)×(List Int)))}{a1:List Int}{e:Value}{f:Value}{g:Value}{k:Value}(ad:AI (.pair .st (.vec (.pair (.int .i64) (.int .i64)))) H e (a0.1.2))(ae:AI (.pair (.pair .st (.pair (.int .i64) (.pair (.int .i64) .st))) (.vec (.int .i64))) H f (a0.2.1.2))(af:AI (.pair (.vec (.int .i64)) (.pair (.vec (.int .i64)) (.vec (.int .i64)))) H g (a0.2.2))(q:AI (.int .i64) H k (a1)){r:(List Bool)}(h:Hp a0 a1=some r):
  Ok Tryz.prog 91 [.agg #[No a0.1.1,e,No a0.2.1.1,f,g],k] w (fun v w'=>Ext w w'∧∃ u0,v=u0∧C2 4 .bool H w w' u0 (r)):=by
 refine A4 (n:=22) [(0,.agg #[No a0.1.1,e,No a0.2.1.1,f,g]),(1,k)] func91 rfl rfl rfl rfl rfl ?_;have hL:=AO.start w;refine Ak<|CK (t:=52) rfl rfl rfl hL fun w1 b1 s ay _=>AA 1 rfl<|Ak<|Ae (AE 0 rfl Adk rfl MU s rfl) rfl ?_;refine Ax h fun x2 ap h=>?_;refine AF rfl rfl s (EG (a0:=((a0.1.1,a0.1.2),(a0.2.1.1,a0.2.1.2),a0.2.2)) _ _ (As hH s) (ad.mono (Ah hH)) (ae.mono (Ah hH)) (af.mono (Ah hH)) ap) ?_;intro w3 a6 aq a2;refine Az h fun ar h=>?_;refine Tq (r:=.bool) (z:=(false:Bool)) rfl rfl rfl Adm ZR rfl (fun _=>rfl) rfl hH aq ar fun v4 w4 au av a3 aw=>AA 1 rfl<|Bn (σ:=(List Bool)×(List Value)) (fun⟨m,d⟩=>[(5,v4)]) (fun⟨m,d⟩ wr=>DZ w [.row (v4) 4 1 (m).length (d),.box b1 [No a0.1.1,e,No a0.2.1.1,f,g] 52] wr fun Oz=>AJ .bool (gz H w wr Oz) (m) (d)∧FP m=some r) ?_ ?_
 ·refine Bk 1 rfl<|Ae (Bo rfl AaR q) rfl<|AA 1 rfl<|A2 ?_;obtain⟨u,h⟩:=AY h;refine Bw (σ:=(List Bool)×Int×(List Value)×Nat) (fun⟨c,a,b,n⟩=>[(5,v4),(11,k),(12,No (a1.length:Int)),(13,No a)]) (fun⟨c,a,b,n⟩ wr=>DZ w [.row (v4) 4 1 (c).length (b),.box b1 [No a0.1.1,e,No a0.2.1.1,f,g] 52] wr fun Oz=>AJ .bool (gz H w wr Oz) (c) (b)∧FT (Fo a1) n (c,a)=some r) (fun⟨c,a,b,n⟩=>n) ((List.replicate x2.toNat (false:Bool)),(0:Int),au,u) (Sub.of rfl) ⟨av,aw,h⟩ ?_;rintro⟨c,a,b,nn44⟩ a4 ⟨l,p,h⟩;obtain⟨u,a7,rfl,h,x⟩:=AX h;refine A9 1 rfl<|A7<|AM rfl h (fun ag h=>?_) (fun ag h=>?_)
  ·refine Au<|Ao<|A7<|A2<|Ak ?_;refine Az h fun y h=>?_;refine Bb rfl rfl AaR Cc q a.toNat (EM y) (AW y) rfl ?_;rintro a8 _ rfl ah;refine Ae (Be rfl AaT rfl ah (hH.trans l.arg)) rfl<|AA 1 rfl<|Ar<|Aq 2 rfl ?_;refine Az h fun o h=>?_;refine KM 0 rfl rfl Adm ZR l rfl ((a1.getD a.toNat default).toNat) (EM o) (AW o) rfl fun a9 ai=>KO (z:=true) (j:=(a1.getD a.toNat default).toNat) 0 rfl rfl rfl ZR hH l rfl p ai rfl (AW o) rfl fun ba aj ak ax al=>AL<|A8<|Ao<|Ar ?_;refine Az h fun am h=>?_;refine Ae (AK rfl rfl rfl am) rfl<|Aq 1 rfl<|AL ?_;have h:=BV.again h x;refine AN ((c.set ((a1.getD a.toNat default).toNat) true),(a+(1:Int)),aj,u) (Sub.of rfl) ⟨ak,al,h⟩ (Nat.lt_succ_self _)
  refine Br<|AD<|A5 ?_;have h:=BV.out h x;refine Bd<|A6 (c,b) (Sub.of rfl) ⟨l,p,h⟩
 rintro⟨m,d⟩ a5 ⟨aa,ac,h⟩;refine A9 2 rfl<|Ay ?_
 cases h
 refine Am rfl rfl ?_;exact⟨aa.ext,_,rfl,(aa.GQ hH (i:=0) rfl ac)⟩
def I5(a:List Int):Option ((List Int)):=
 some (a)
def HO(a0:List (Int×Int)):(List Int)×Int→Option (((List Int)×Int) ⊕ ((List Int))):=fun⟨b,a⟩=>
 if a<(a0.length:Int) then AU (0≤a∧a<(a0.length:Int)) (AU (Go.E.JE 8 (b.length+([(a0.getD a.toNat default).1]).length)) (AU (BL (a+(1:Int))) (some (Sum.inl ((b++[(a0.getD a.toNat default).1]),(a+(1:Int))))))) else Option.map Sum.inr (I5 b)
def JU(a0:List (Int×Int))(s:(List Int)×Int):Option ((List Int)):=Go.L.run (HO a0) s
def Kh(a0:List (Int×Int)):Option ((List Int)):=
 (JU a0) (([]:List Int),(0:Int))
theorem PX(w:World)(H:PH)(hH:Le H (hp w)){a0:List (Int×Int)}{g:Value}(q:AI (.pair (.int .i64) (.int .i64)) H g (a0)){r:(List Int)}(h:Kh a0=some r):
  Ok Tryz.prog 145 [g] w (fun v w'=>Ext w w'∧∃ u0,v=u0∧C2 3 (.int .i64) H w w' u0 (r)):=by
 refine A4 (n:=19) [(0,g)] func145 rfl rfl rfl rfl rfl ?_;have hL:=AO.start w;refine A9 1 rfl<|Bk 1 rfl ?_;obtain⟨ao,au,ap⟩:=CB (.int .i64) H 3 hL;refine Ac<|Bn (σ:=(List Int)×Value×(List Value)) (fun⟨k,j,e⟩=>[(3,j)]) (fun⟨k,j,e⟩ wr=>DZ w [.row (j) 3 1 (k).length (e)] wr fun Oz=>AJ (.int .i64) (gz H w wr Oz) (k) (e)∧I5 k=some r) ?_ ?_
 ·refine Bk 1 rfl<|Ae (Bo rfl AbR q) rfl<|AA 1 rfl<|A2 ?_;obtain⟨s,h⟩:=AY h;refine Bw (σ:=(List Int)×Int×Value×(List Value)×Nat) (fun⟨c,a,d,b,n⟩=>[(3,d),(6,g),(7,No (a0.length:Int)),(8,No a)]) (fun⟨c,a,d,b,n⟩ wr=>DZ w [.row (d) 3 1 (c).length (b)] wr fun Oz=>AJ (.int .i64) (gz H w wr Oz) (c) (b)∧FT (HO a0) n (c,a)=some r) (fun⟨c,a,d,b,n⟩=>n) (([]:List Int),(0:Int),Aat,[],s) (Sub.of rfl) ⟨ao,ap,h⟩ ?_;rintro⟨c,a,d,b,nn46⟩ av ⟨o,f,h⟩;obtain⟨s,ay,rfl,h,t⟩:=AX h;refine A9 1 rfl<|A7<|AM rfl h (fun ad h=>?_) (fun ad h=>?_)
  ·refine Au<|Ao<|A7<|A2<|Ak ?_;refine Az h fun u h=>?_;refine Bb rfl rfl AbR K4 q a.toNat (EM u) (AW u) rfl ?_;rintro az _ ⟨_,_,rfl,rfl,rfl⟩ ae;refine Ae (C1 rfl AcS rfl K4 ae (hH.trans o.arg)) rfl<|AG K4 rfl rfl o fun a1 a2 af z _=>Aj 0 rfl rfl rfl K4 af rfl rfl (AH rfl (AH rfl Cj)) fun a3 x aa=>Ac<|Ar<|Aq 1 rfl<|Ae (Af rfl AcS rfl Cc (by decide)) rfl<|Ae (Ag 0 rfl AaT rfl x rfl rfl) rfl<|Bu (r:=(.int .i64)) (l:=[(a0.getD a.toNat default).1]) rfl (fun _=>Il _ _) rfl (show 1≤9223372036854775807 by decide) hH x (.c1 rfl .nil) ?_;intro a4 a5 aw ag ab ah;refine Az h fun ai h=>?_;have f:=f.mono (Ab hH (z.trans (aa.trans ab)));refine Bq (r:=(.int .i64)) (l:=c) (m:=[(a0.getD a.toNat default).1]) 1 rfl rfl AaR Cc rfl (by decide) rfl hH ag rfl f ah ai fun aq a6 aj ak ar p=>Aq 1 rfl<|AL<|A8<|Ao<|Ar ?_;refine Az h fun al h=>?_;refine Ae (AK rfl rfl rfl al) rfl<|Aq 1 rfl<|AL ?_;have am:=ak.AP (i:=0) rfl;have h:=BV.again h t
   have p:=p.mono (Ab hH (Al (i:=0) rfl));refine AN ((c++[(a0.getD a.toNat default).1]),(a+(1:Int)),aq,aj,s) (Sub.of rfl) ⟨am,p,h⟩ (Nat.lt_succ_self _)
  refine Br<|AD<|A5 ?_;have h:=BV.out h t;refine Bd<|A6 (c,d,b) (Sub.of rfl) ⟨o,f,h⟩
 rintro⟨k,j,e⟩ ax ⟨y,ac,h⟩;refine A9 2 rfl<|Ay ?_
 cases h
 refine Am rfl rfl ?_;exact⟨y.ext,_,rfl,(y.GQ hH (i:=0) rfl ac)⟩
def Fp(a:List (Int×Int)):Option ((List Int)):=
 Option.bind (Kh a) (fun b=>some (b))
def G4(a0:(Int×(List (AaK×(List (Int×Int)))))×(Int×(List ((AaK×Int×Int×AaK)×(List Int))))×(List (((List Int))×(List Int)×(List Int))))(a1:Go.L.Qv):Option ((List Int)):=
 if a1.f.1=(1:Int) then AU (0≤(0:Int)∧(0:Int)<(a1.f.2.1.length:Int)) (Option.bind (Ix (a0.1.1,a0.1.2) (a1.f.2.1.getD ((0:Int).toNat) default)) (fun a=>Fp a.1)) else(if a1.f.1=(2:Int) then none else(if a1.f.1=(3:Int) then none else(if a1.f.1=(4:Int) then none else(if a1.f.1=(5:Int) then none else(if a1.f.1=(6:Int) then none else(if a1.f.1=(7:Int) then none else some ([])))))))
theorem MH(w:World)(H:PH)(hH:Le H (hp w))(hU:D9 H){a0:(Int×(List (AaK×(List (Int×Int)))))×(Int×(List ((AaK×Int×Int×AaK)×(List Int))))×(List (((List Int))×(List Int)×(List Int)))}{a1:Go.L.Qv}{g:Value}{j:Value}{k:Value}{l:Value}{m:Value}{o:Value}(aa:AI (.pair .st (.vec (.pair (.int .i64) (.int .i64)))) H g (a0.1.2))(_h0_1:AI (.pair (.pair .st (.pair (.int .i64) (.pair (.int .i64) .st))) (.vec (.int .i64))) H j (a0.2.1.2))(_h0_2:AI (.pair (.vec (.int .i64)) (.pair (.vec (.int .i64)) (.vec (.int .i64)))) H k (a0.2.2))(a2:AI .st H l (a1.f.2.1))(_h1_1:AI .byte H m (a1.f.2.2.2.1))(_h1_2:AI .Bc H o (a1.f.2.2.2.2.2.2)){r:(List Int)}(h:G4 a0 a1=some r):
  Ok Tryz.prog 92 [.agg #[No a0.1.1,g,No a0.2.1.1,j,k],.agg #[No a1.f.1,l,AaJ a1.f.2.2.1,m,No a1.f.2.2.2.2.1,No a1.f.2.2.2.2.2.1,o]] w (fun v w'=>Ext w w'∧∃ u0,v=u0∧C2 3 (.int .i64) H w w' u0 (r)):=by
 refine A4 (n:=121) [(0,.agg #[No a0.1.1,g,No a0.2.1.1,j,k]),(1,.agg #[No a1.f.1,l,AaJ a1.f.2.2.1,m,No a1.f.2.2.2.2.1,No a1.f.2.2.2.2.2.1,o])] func92 rfl rfl rfl rfl rfl ?_;have hL:=AO.start w;refine Ak<|CK (t:=52) rfl rfl rfl hL fun w1 b1 bm bt _=>CK (t:=26) rfl rfl rfl bm fun w2 b2 ab bv _=>AA 1 rfl<|A9 1 rfl<|A7<|Ak<|Ae (Af rfl AbP rfl Cc (by decide)) rfl<|Ae (Ag 0 rfl AaT rfl ab rfl rfl) rfl<|Ac<|A2<|A9 2 rfl ?_;refine AM rfl h (fun bn h=>?_) (fun bn h=>?_)
 ·refine Bn (σ:=(List (Int×Int))×Value) (fun⟨c,a⟩=>[(6,a)]) (fun⟨c,a⟩ wr=>DZ w [.box b2 [No a1.f.1,l,AaJ a1.f.2.2.1,m,No a1.f.2.2.2.2.1,No a1.f.2.2.2.2.2.1,o] 26,.box b1 [No a0.1.1,g,No a0.2.1.1,j,k] 52] wr fun Oz=>AI (.pair (.int .i64) (.int .i64)) (gz H w wr Oz) (a) (c)∧Fp c=some r) ?_ ?_
  ·refine Nl (.q 0 (.q 1 (.q 2 (.q 3 (.q 4 (.q 5 (.h2 6 (.q 7 (.q 8 (.q 9 (.h 10 (.q 11 (.tail 12)))))) 10 (.h 6 (.q 7 (.q 8 (.q 9 (.q 11 (.tail 12))))))))))))) mixed (by kernel_rfl) (fun bz a3=>?_);have b:=ab.call a3;refine BH (Af rfl Adk rfl OB (by decide)) rfl rfl<|BH (Rl 1 2 rfl AcM rfl OB b rfl rfl) rfl rfl<|BH (Af rfl AbP rfl Jm (by decide)) rfl rfl<|BH (Ag 0 rfl AbE rfl b rfl rfl) rfl rfl ?_;refine Az h fun ac h=>?_;refine HE rfl rfl rfl AbE Fu a2 ((0:Int).toNat) (EM ac) (AW ac) rfl ?_;rintro b0 _ rfl a4;refine BH (Be rfl Abb rfl a4 (hH.trans b.arg)) rfl rfl<|Uq ?_ ?_
   ·refine Ax h fun ad p h=>?_;refine Ck rfl rfl rfl (fun bo s=>K5 _ _ (As hH (b.call s)) (hU.mono (Ah hH)) (aa.mono (Ah hH)) p) ?_;rintro bo _ b3 s ae ⟨aq,rfl,af⟩;have ag:=b.call s;have a5:=ag.call ae;have d:=af.CA hH ag ae;refine CD 3 rfl<|Mt rfl AR rfl rfl a5 fun b4 b5 ah ar=>CD 1 rfl<|BQ (fun b6 ai=>?_);have a6:=ah.call ai;have au:=AV ah ai;refine Aj 0 rfl rfl rfl AR a6 rfl rfl (AH rfl (AH rfl Cj)) fun b7 a7 av=>AL ?_;have a8:=a7.AP (i:=0) rfl;have d:=d.mono (Ab hH (ar.trans (au.trans (av.trans (Al (i:=0) rfl)))));refine A6 (ad.1,aq) (Sub.of rfl) ⟨a8,d,h⟩
   refine Ax h fun ad p h=>?_;refine Mt rfl AR rfl rfl b fun b8 b9 aj bq=>Ck rfl rfl rfl (fun bp u=>K5 _ _ (As hH (aj.call u)) (hU.mono (Ah hH)) (aa.mono (Ah hH)) p) ?_;rintro bp _ ca u ak ⟨aw,rfl,al⟩;have am:=aj.call u;have an:=am.call ak;have e:=al.CA hH am ak;refine CD 4 rfl<|BQ (fun cb ao=>?_);have a9:=an.call ao;have ax:=AV an ao;refine Aj 0 rfl rfl rfl AR a9 rfl rfl (AH rfl (AH rfl Cj)) fun cc ba ay=>AL ?_;have bb:=ba.AP (i:=0) rfl;have e:=e.mono (Ab hH (ax.trans (ay.trans (Al (i:=0) rfl))));refine A6 (ad.1,aw) (Sub.of rfl) ⟨bb,e,h⟩
  rintro⟨c,a⟩ bw ⟨x,z,h⟩;refine Ar<|Aq 1 rfl ?_;refine Ax h fun cd bc h=>?_;refine Bs rfl rfl x (PX _ _ (As hH x) z bc) ?_;rintro br ce ⟨_,rfl,ap⟩ bd y az;obtain⟨bx,y,az,be⟩:=ap.take hH x bd;refine Aq 1 rfl<|AL<|A8<|Ao<|A9 2 rfl<|Ay ?_
  cases h
  refine Am rfl rfl ?_;exact⟨y.ext,_,rfl,(y.GQ hH (i:=0) rfl be)⟩
 refine A9 2 rfl<|AM rfl h (fun bf h=>?_) (fun bf h=>?_)
 ·cases h
 refine A9 2 rfl<|AM rfl h (fun bg h=>?_) (fun bg h=>?_)
 ·cases h
 refine A9 2 rfl<|AM rfl h (fun bh h=>?_) (fun bh h=>?_)
 ·cases h
 refine A9 2 rfl<|AM rfl h (fun bi h=>?_) (fun bi h=>?_)
 ·cases h
 refine A9 2 rfl<|AM rfl h (fun bj h=>?_) (fun bj h=>?_)
 ·cases h
 refine A9 2 rfl<|AM rfl h (fun bk h=>?_) (fun bk h=>?_)
 ·cases h
 refine Au<|A8<|Ao<|A9 2 rfl<|Ay ?_
 cases h
 refine Am rfl rfl ?_;exact⟨ab.ext,_,rfl,C2.nil⟩
def Du(a:List Bool):Option ((List Bool)):=
 some (a)
def Di(a1:Go.L.Qv)(b:List Bool):Int→Option ((Int) ⊕ ((List Bool))):=fun a=>
 if a<((a1.f.2.2.2.2.2.2.drop (1:Int).toNat).length:Int) then AU (0≤a∧a<((a1.f.2.2.2.2.2.2.drop (1:Int).toNat).length:Int)) (none) else Option.map Sum.inr ((Du b))
def EK(a1:Go.L.Qv)(a:List Bool)(s:Int):Option ((List Bool)):=Go.L.run (Di a1 a) s
def C6(a1:Go.L.Qv)(a:List Bool):Option ((List Bool)):=
 AU (0≤(1:Int)∧(1:Int)≤(a1.f.2.2.2.2.2.2.length:Int)) ((EK a1 a) (0:Int))
def Dj(a1:Go.L.Qv)(c:(List Bool)):(List Bool)×Int→Option (((List Bool)×Int) ⊕ ((List Bool))):=fun⟨b,a⟩=>
 if a<(c.length:Int) then AU (0≤a∧a<(b.length:Int)) (AU (0≤a∧a<(b.length:Int)) (AU (BL (a+(1:Int))) (some (Sum.inl ((b.set a.toNat (!(b.getD a.toNat default))),(a+(1:Int))))))) else Option.map Sum.inr ((C6 a1) b)
def EL(a1:Go.L.Qv)(a:(List Bool))(s:(List Bool)×Int):Option ((List Bool)):=Go.L.run (Dj a1 a) s
def Dd(self:((Int×(List (AaK×(List (Int×Int)))))×(Int×(List ((AaK×Int×Int×AaK)×(List Int))))×(List (((List Int))×(List Int)×(List Int))))→Go.L.Qv→Option ((List Bool)))(a0:(Int×(List (AaK×(List (Int×Int)))))×(Int×(List ((AaK×Int×Int×AaK)×(List Int))))×(List (((List Int))×(List Int)×(List Int))))(a1:Go.L.Qv):Option ((List Bool)):=
 Option.bind (H5 a1.f.1) (fun c=>if c then Option.bind (G4 ((a0.1.1,a0.1.2),(a0.2.1.1,a0.2.1.2),a0.2.2) a1) (fun d=>Option.bind (Hp ((a0.1.1,a0.1.2),(a0.2.1.1,a0.2.1.2),a0.2.2) d) (fun b=>some (b))) else AU (0≤(0:Int)∧(0:Int)<(a1.f.2.2.2.2.2.2.length:Int)) (Option.bind (self ((a0.1.1,a0.1.2),(a0.2.1.1,a0.2.1.2),a0.2.2) (a1.f.2.2.2.2.2.2.getD ((0:Int).toNat) default)) (fun a=>if a1.f.1=(10:Int) then(EL a1 a) (a,(0:Int)) else(C6 a1) a)))
def Db:Nat→((Int×(List (AaK×(List (Int×Int)))))×(Int×(List ((AaK×Int×Int×AaK)×(List Int))))×(List (((List Int))×(List Int)×(List Int))))→Go.L.Qv→Option ((List Bool))
 | 0=>fun _ _=>none
 | n+1=>Dd (Db n)
def Gp:((Int×(List (AaK×(List (Int×Int)))))×(Int×(List ((AaK×Int×Int×AaK)×(List Int))))×(List (((List Int))×(List Int)×(List Int))))→Go.L.Qv→Option ((List Bool)):=Db 1000
theorem K2(self:((Int×(List (AaK×(List (Int×Int)))))×(Int×(List ((AaK×Int×Int×AaK)×(List Int))))×(List (((List Int))×(List Int)×(List Int))))→Go.L.Qv→Option ((List Bool)))(hself:∀ (w:World) (H:PH) (hH:Le H (hp w)) (hU:D9 H) {a0:(Int×(List (AaK×(List (Int×Int)))))×(Int×(List ((AaK×Int×Int×AaK)×(List Int))))×(List (((List Int))×(List Int)×(List Int)))} {a1:Go.L.Qv} {c:Value} {d:Value} {e:Value} {l:Value} {m:Value} {o:Value} (ab:AI (.pair .st (.vec (.pair (.int .i64) (.int .i64)))) H c (a0.1.2)) (ac:AI (.pair (.pair .st (.pair (.int .i64) (.pair (.int .i64) .st))) (.vec (.int .i64))) H d (a0.2.1.2)) (ad:AI (.pair (.vec (.int .i64)) (.pair (.vec (.int .i64)) (.vec (.int .i64)))) H e (a0.2.2)) (ay:AI .st H l (a1.f.2.1)) (az:AI .byte H m (a1.f.2.2.2.1)) (ae:AI .Bc H o (a1.f.2.2.2.2.2.2)) {r:(List Bool)} (h:self a0 a1=some r),Ok Tryz.prog 51 [.agg #[No a0.1.1,c,No a0.2.1.1,d,e],.agg #[No a1.f.1,l,AaJ a1.f.2.2.1,m,No a1.f.2.2.2.2.1,No a1.f.2.2.2.2.2.1,o]] w (fun v w'=>Ext w w'∧∃ u0,v=u0∧C2 4 .bool H w w' u0 (r)))(w:World)(H:PH)(hH:Le H (hp w))(hU:D9 H){a0:(Int×(List (AaK×(List (Int×Int)))))×(Int×(List ((AaK×Int×Int×AaK)×(List Int))))×(List (((List Int))×(List Int)×(List Int)))}{a1:Go.L.Qv}{c:Value}{d:Value}{e:Value}{l:Value}{m:Value}{o:Value}(ab:AI (.pair .st (.vec (.pair (.int .i64) (.int .i64)))) H c (a0.1.2))(ac:AI (.pair (.pair .st (.pair (.int .i64) (.pair (.int .i64) .st))) (.vec (.int .i64))) H d (a0.2.1.2))(ad:AI (.pair (.vec (.int .i64)) (.pair (.vec (.int .i64)) (.vec (.int .i64)))) H e (a0.2.2))(ay:AI .st H l (a1.f.2.1))(az:AI .byte H m (a1.f.2.2.2.1))(ae:AI .Bc H o (a1.f.2.2.2.2.2.2)){r:(List Bool)}(h:Dd self a0 a1=some r):
  Ok Tryz.prog 51 [.agg #[No a0.1.1,c,No a0.2.1.1,d,e],.agg #[No a1.f.1,l,AaJ a1.f.2.2.1,m,No a1.f.2.2.2.2.1,No a1.f.2.2.2.2.2.1,o]] w (fun v w'=>Ext w w'∧∃ u0,v=u0∧C2 4 .bool H w w' u0 (r)):=by
 refine A4 (n:=88) [(0,.agg #[No a0.1.1,c,No a0.2.1.1,d,e]),(1,.agg #[No a1.f.1,l,AaJ a1.f.2.2.1,m,No a1.f.2.2.2.2.1,No a1.f.2.2.2.2.2.1,o])] func51 rfl rfl rfl rfl rfl ?_;have hL:=AO.start w;refine Ak<|CK (t:=52) rfl rfl rfl hL fun w1 b1 b9 co _=>CK (t:=26) rfl rfl rfl b9 fun w2 b2 a3 cp _=>AA 1 rfl<|A7<|Ak<|Ae (Af rfl AbP rfl Cc (by decide)) rfl<|Ae (Ag 0 rfl AaT rfl a3 rfl rfl) rfl ?_;refine Ax h fun x3 ca h=>?_;refine AF rfl rfl a3 (JR _ _ (As hH a3) ca) fun w4 cz y cq=>Ac<|Bl rfl h (fun cb h=>?_) (fun cb h=>?_)
 ·refine EH (.q 0 (.q 1 (.q 2 (.h 3 (.h 4 (.q 5 (.tail 6))))))) mixed (by kernel_rfl) (fun w7 cc=>?_);have aq:=y.call cc
  iterate 2 refine BH (AE 1 rfl Adk rfl MU aq rfl) rfl rfl ?_
  refine BH (AE 0 rfl AbP rfl Bh aq rfl) rfl rfl ?_;refine Ax h fun x9 cd h=>?_;refine Ck rfl rfl rfl (fun ce aj=>MH _ _ (As hH (aq.call aj)) (hU.mono (Ah hH)) (ab.mono (Ah hH)) (ac.mono (Ah hH)) (ad.mono (Ah hH)) (ay.mono (Ah hH)) (az.mono (Ah hH)) (ae.mono (Ah hH)) cd) ?_;rintro ce ci c0 aj a4 ⟨_,rfl,a5⟩;have a6:=aq.call aj;have ak:=a6.call a4;have a7:=a5.CA hH a6 a4;refine Ax h fun c1 bt h=>?_;refine Ck rfl rfl rfl (fun cf af=>Nd _ _ (As hH (ak.call af)) (ab.mono (Ah hH)) (ac.mono (Ah hH)) (ad.mono (Ah hH)) (a7.mono (Ab hH (AV ak af))) bt) ?_;rintro cf cj c2 af al ⟨_,rfl,a8⟩;have am:=ak.call af;have an:=am.call al;have bl:=AV am al;obtain⟨cr,an,bl,ao⟩:=a8.take hH am al;refine CD 1 rfl<|BQ (fun c3 a9=>?_);have ba:=an.call a9;have bm:=AV an a9;refine Ac<|Ay<|Av ?_
  cases h
  refine Am rfl rfl ?_;have ao:=ao.mono (Ab hH bm);exact⟨ba.ext,_,rfl,(ba.GQ hH (i:=0) rfl ao)⟩
 refine Au<|Ao<|Ak<|Ae (AE 1 rfl Adk rfl MU y rfl) rfl<|AA 2 rfl<|Bk 1 rfl<|Ae (Af rfl AbP rfl Hr (by decide)) rfl<|Ae (Ag 0 rfl AcV rfl y rfl rfl) rfl ?_;refine Az h fun bb h=>?_;refine Bb rfl rfl AcV Bh ae ((0:Int).toNat) (EM bb) (AW bb) rfl ?_;rintro c4 _ e20t0 bu;obtain⟨_,_,rfl,rfl,⟨_,_,rfl,⟨e20v1,rfl,e20h1⟩,⟨_,_,rfl,rfl,⟨_,_,rfl,⟨e20v3,rfl,e20h3⟩,⟨_,_,rfl,rfl,⟨_,_,rfl,rfl,⟨e20v6,rfl,e20h6⟩⟩⟩⟩⟩⟩⟩:=Go.E.Rp.CM e20t0;refine Ae (C1 rfl AbP rfl Bh bu (hH.trans y.arg)) rfl ?_;refine Ax h fun ar bv h=>?_;refine Ys [.agg #[No a0.1.1,c,No a0.2.1.1,d,e]] [] rfl rfl rfl y (hself _ _ (As hH y) (hU.mono (Ah hH)) (ab.mono (Ah hH)) (ac.mono (Ah hH)) (ad.mono (Ah hH)) (e20h1.mono (Ah hH)) (e20h3.mono (Ah hH)) (e20h6.mono (Ah hH)) bv) ?_;rintro g c5 ⟨_,rfl,bc⟩ bw aa bn;obtain⟨bd,aa,bn,be⟩:=bc.take hH y bw;refine AA 1 rfl ?_
 refine Bn (σ:=(List Bool)×(List Value)) (fun⟨p,k⟩=>[(3,(AaH b2)),(6,g)]) (fun⟨p,k⟩ wr=>DZ w [.row (g) 4 1 (p).length (k),.box b2 [No a1.f.1,l,AaJ a1.f.2.2.1,m,No a1.f.2.2.2.2.1,No a1.f.2.2.2.2.2.1,o] 26,.box b1 [No a0.1.1,c,No a0.2.1.1,d,e] 52] wr fun Oz=>AJ .bool (gz H w wr Oz) (p) (k)∧(C6 a1) p=some r) ?_ ?_
 ·refine Ak<|Ae (Af rfl AbP rfl Cc (by decide)) rfl<|Ae (Ag 1 rfl AaT rfl aa rfl rfl) rfl<|AA 1 rfl<|AM rfl h (fun bx h=>?_) (fun bx h=>?_)
  ·refine Bk 1 rfl<|Ae (P4 (i:=0) rfl Adm aa rfl) rfl<|AA 1 rfl<|A2 ?_;obtain⟨bf,h⟩:=AY h;refine Bw (σ:=(List Bool)×Int×(List Value)×Nat) (fun⟨u,a,s,n⟩=>[(3,(AaH b2)),(6,g),(32,No (ar.length:Int)),(33,No a)]) (fun⟨u,a,s,n⟩ wr=>DZ w [.row (g) 4 1 (u).length (s),.box b2 [No a1.f.1,l,AaJ a1.f.2.2.1,m,No a1.f.2.2.2.2.1,No a1.f.2.2.2.2.2.1,o] 26,.box b1 [No a0.1.1,c,No a0.2.1.1,d,e] 52] wr fun Oz=>AJ .bool (gz H w wr Oz) (u) (s)∧FT (Dj a1 ar) n (u,a)=some r) (fun⟨u,a,s,n⟩=>n) (ar,(0:Int),bd,bf) (Sub.of rfl) ⟨aa,be,h⟩ ?_;rintro⟨u,a,s,nn67⟩ cs ⟨ag,ah,h⟩;obtain⟨bf,c6,rfl,h,bg⟩:=AX h;refine A9 1 rfl<|A7<|AM rfl h (fun bz h=>?_) (fun bz h=>?_)
   ·refine Au<|Ao<|A7<|A2<|A9 2 rfl<|Ar<|Aq 4 rfl ?_;refine Az h fun bh h=>?_;refine Bb rfl rfl Adm ZR (ag.Tp hH (i:=0) rfl ah) a.toNat (EM bh) (AW bh) rfl ?_;rintro c7 _ rfl b0;refine Ae (Be rfl Adn rfl b0 (Le.refl _)) rfl<|Aq 1 rfl ?_;refine Az h fun ap h=>?_;refine KM 0 rfl rfl Adm ZR ag rfl a.toNat (EM ap) (AW ap) rfl fun c8 b3=>KO (z:=!(u.getD a.toNat default)) (j:=a.toNat) 0 rfl rfl rfl ZR hH ag rfl ah b3 rfl (AW ap) rfl fun c9 b4 b5 ck b6=>AL<|A8<|Ao<|Ar ?_;refine Az h fun b7 h=>?_;refine Ae (AK rfl rfl rfl b7) rfl<|Aq 1 rfl<|AL ?_;have h:=BV.again h bg;refine AN ((u.set a.toNat (!(u.getD a.toNat default))),(a+(1:Int)),b4,bf) (Sub.of rfl) ⟨b5,b6,h⟩ (Nat.lt_succ_self _)
   refine Br<|AD<|A5 ?_;have h:=BV.out h bg;refine Bd<|A6 (u,s) (Sub.of rfl) ⟨ag,ah,h⟩
  refine Au<|A6 (ar,bd) (Sub.of rfl) ⟨aa,be,h⟩
 rintro⟨p,k⟩ ct ⟨bi,x,h⟩;refine Bn (σ:=Unit) (fun(_:Unit)=>[(6,g)]) (fun(_:Unit) wr=>DZ w [.row (g) 4 1 (p).length (k),.box b2 [No a1.f.1,l,AaJ a1.f.2.2.1,m,No a1.f.2.2.2.2.1,No a1.f.2.2.2.2.2.1,o] 26,.box b1 [No a0.1.1,c,No a0.2.1.1,d,e] 52] wr fun Oz=>AJ .bool (gz H w wr Oz) (p) (k)∧(Du p)=some r) ?_ ?_
 ·refine Ak<|Ae (Af rfl AbP rfl Hr (by decide)) rfl<|Ae (Ag 1 rfl AcV rfl bi rfl rfl) rfl ?_;refine Az h fun bo h=>?_;refine Uw rfl rfl AcV Bh ae bo rfl fun b8 au=>Ae (Bo rfl AcV au) rfl<|AA 1 rfl<|A2 ?_;obtain⟨bj,h⟩:=AY h;refine Bw (σ:=Int×Nat) (fun⟨b,n⟩=>[(6,g),(47,b8),(48,No ((a1.f.2.2.2.2.2.2.drop (1:Int).toNat).length:Int)),(49,No b)]) (fun⟨b,n⟩ wr=>DZ w [.row (g) 4 1 (p).length (k),.box b2 [No a1.f.1,l,AaJ a1.f.2.2.1,m,No a1.f.2.2.2.2.1,No a1.f.2.2.2.2.2.1,o] 26,.box b1 [No a0.1.1,c,No a0.2.1.1,d,e] 52] wr fun Oz=>AJ .bool (gz H w wr Oz) (p) (k)∧FT (Di a1 p) n b=some r) (fun⟨b,n⟩=>n) ((0:Int),bj) (Sub.of rfl) ⟨bi,x,h⟩ ?_;rintro⟨b,nn113⟩ cl ⟨ai,x,h⟩;obtain⟨bj,cu,rfl,h,bp⟩:=AX h;refine A9 1 rfl<|A7<|AM rfl h (fun bq h=>?_) (fun bq h=>?_)
  ·refine Au<|Ao<|A7<|A2<|Ak ?_;refine Az h fun av h=>?_;refine Bb rfl rfl AcV Bh au b.toNat (EM av) (AW av) rfl ?_;rintro cv _ e117t0 br;obtain⟨_,_,rfl,rfl,⟨_,_,rfl,⟨e117v1,rfl,e117h1⟩,⟨_,_,rfl,rfl,⟨_,_,rfl,⟨e117v3,rfl,e117h3⟩,⟨_,_,rfl,rfl,⟨_,_,rfl,rfl,⟨e117v6,rfl,e117h6⟩⟩⟩⟩⟩⟩⟩:=Go.E.Rp.CM e117t0;refine Ae (C1 rfl AbP rfl Bh br (hH.trans ai.arg)) rfl<|AG Bh rfl rfl ai fun cw cx bs cg _=>Aj 0 rfl rfl rfl Bh bs rfl rfl (AH rfl (AH e117h1.one (AH rfl (AH e117h3.one (AH rfl (AH rfl (AH e117h6.one Cj))))))) fun cy cm ch=>Ac ?_
   cases h
  refine Br<|AD<|A5 ?_;have h:=BV.out h bp;refine Bd<|A6 () (Sub.of rfl) ⟨ai,x,h⟩
 rintro _ cn ⟨aw,x,h⟩;refine A9 2 rfl<|Ay ?_
 cases h
 refine Am rfl rfl ?_;exact⟨aw.ext,_,rfl,(aw.GQ hH (i:=0) rfl x)⟩
theorem Lv(n:Nat):∀ (w:World) (H:PH) (hH:Le H (hp w)) (hU:D9 H) {a0:(Int×(List (AaK×(List (Int×Int)))))×(Int×(List ((AaK×Int×Int×AaK)×(List Int))))×(List (((List Int))×(List Int)×(List Int)))} {a1:Go.L.Qv} {a:Value} {b:Value} {c:Value} {d:Value} {e:Value} {g:Value} (j:AI (.pair .st (.vec (.pair (.int .i64) (.int .i64)))) H a (a0.1.2)) (k:AI (.pair (.pair .st (.pair (.int .i64) (.pair (.int .i64) .st))) (.vec (.int .i64))) H b (a0.2.1.2)) (l:AI (.pair (.vec (.int .i64)) (.pair (.vec (.int .i64)) (.vec (.int .i64)))) H c (a0.2.2)) (m:AI .st H d (a1.f.2.1)) (o:AI .byte H e (a1.f.2.2.2.1)) (p:AI .Bc H g (a1.f.2.2.2.2.2.2)) {r:(List Bool)} (h:Db n a0 a1=some r),Ok Tryz.prog 51 [.agg #[No a0.1.1,a,No a0.2.1.1,b,c],.agg #[No a1.f.1,d,AaJ a1.f.2.2.1,e,No a1.f.2.2.2.2.1,No a1.f.2.2.2.2.2.1,g]] w (fun v w'=>Ext w w'∧∃ i,v=i∧C2 4 .bool H w w' i (r)):=by
 induction n with
 | zero=>intros;rename_i h;cases h
 | succ n ih=>exact @K2 (Db n) ih
theorem Mo(w:World)(H:PH)(hH:Le H (hp w))(hU:D9 H){a0:(Int×(List (AaK×(List (Int×Int)))))×(Int×(List ((AaK×Int×Int×AaK)×(List Int))))×(List (((List Int))×(List Int)×(List Int)))}{a1:Go.L.Qv}{a:Value}{b:Value}{c:Value}{d:Value}{e:Value}{g:Value}(i:AI (.pair .st (.vec (.pair (.int .i64) (.int .i64)))) H a (a0.1.2))(j:AI (.pair (.pair .st (.pair (.int .i64) (.pair (.int .i64) .st))) (.vec (.int .i64))) H b (a0.2.1.2))(k:AI (.pair (.vec (.int .i64)) (.pair (.vec (.int .i64)) (.vec (.int .i64)))) H c (a0.2.2))(l:AI .st H d (a1.f.2.1))(m:AI .byte H e (a1.f.2.2.2.1))(n:AI .Bc H g (a1.f.2.2.2.2.2.2)){r:(List Bool)}(h:Gp a0 a1=some r):Ok Tryz.prog 51 [.agg #[No a0.1.1,a,No a0.2.1.1,b,c],.agg #[No a1.f.1,d,AaJ a1.f.2.2.1,e,No a1.f.2.2.2.2.1,No a1.f.2.2.2.2.2.1,g]] w (fun v w'=>Ext w w'∧∃ o,v=o∧C2 4 .bool H w w' o (r)):=Lv 1000 w H hH hU i j k l m n h
def FQ(a:List Int):Option ((List Int)×(Int×Int)):=
 some (a,((0:Int),(0:Int)))
def Fq(a2:List Bool)(c:(List Bool)):(List Int)×Int→Option (((List Int)×Int) ⊕ ((List Int)×(Int×Int))):=fun⟨b,a⟩=>
 if a<(c.length:Int) then AU (0≤a∧a<(c.length:Int)) (if c.getD a.toNat default then AU (0≤a∧a<(a2.length:Int)) (if a2.getD a.toNat default then AU (Go.E.JE 8 (b.length+([a]).length)) (AU (BL (a+(1:Int))) (some (Sum.inl ((b++[a]),(a+(1:Int)))))) else AU (BL (a+(1:Int))) (some (Sum.inl (b,(a+(1:Int)))))) else AU (BL (a+(1:Int))) (some (Sum.inl (b,(a+(1:Int)))))) else Option.map Sum.inr (FQ b)
def HD(a2:List Bool)(a:(List Bool))(s:(List Int)×Int):Option ((List Int)×(Int×Int)):=Go.L.run (Fq a2 a) s
def FF(a0:(Int×(List (AaK×(List (Int×Int)))))×(Int×(List ((AaK×Int×Int×AaK)×(List Int))))×(List (((List Int))×(List Int)×(List Int))))(a1:Go.L.Qv)(a2:List Bool):Option ((List Int)×(Int×Int)):=
 Option.bind (CV a1) (fun a=>if a.1=(0:Int)∧a.2=(0:Int) then Option.bind (CS ((a0.1.1,a0.1.2),(a0.2.1.1,a0.2.1.2),a0.2.2)) (fun b=>if(a2.length:Int)=b then Option.bind (Gp ((a0.1.1,a0.1.2),(a0.2.1.1,a0.2.1.2),a0.2.2) a1) (fun c=>(HD a2 c) (([]:List Int),(0:Int))) else none) else none)
theorem JI(w:World)(H:PH)(hH:Le H (hp w))(hU:D9 H){a0:(Int×(List (AaK×(List (Int×Int)))))×(Int×(List ((AaK×Int×Int×AaK)×(List Int))))×(List (((List Int))×(List Int)×(List Int)))}{a1:Go.L.Qv}{a2:List Bool}{p:Value}{q:Value}{u:Value}{x:Value}{y:Value}{z:Value}{ab:Value}(an:AI (.pair .st (.vec (.pair (.int .i64) (.int .i64)))) H p (a0.1.2))(ao:AI (.pair (.pair .st (.pair (.int .i64) (.pair (.int .i64) .st))) (.vec (.int .i64))) H q (a0.2.1.2))(ap:AI (.pair (.vec (.int .i64)) (.pair (.vec (.int .i64)) (.vec (.int .i64)))) H u (a0.2.2))(aq:AI .st H x (a1.f.2.1))(ar:AI .byte H y (a1.f.2.2.2.1))(au:AI .Bc H z (a1.f.2.2.2.2.2.2))(av:AI .bool H ab (a2)){r:(List Int)×(Int×Int)}(h:FF a0 a1 a2=some r):
  Ok Tryz.prog 24 [.agg #[No a0.1.1,p,No a0.2.1.1,q,u],.agg #[No a1.f.1,x,AaJ a1.f.2.2.1,y,No a1.f.2.2.2.2.1,No a1.f.2.2.2.2.2.1,z],ab] w (fun v w'=>Ext w w'∧∃ u0,v=.tuple #[u0,.agg #[No r.2.1,No r.2.2]]∧C2 3 (.int .i64) H w w' u0 (r.1)):=by
 refine A4 (n:=47) [(0,.agg #[No a0.1.1,p,No a0.2.1.1,q,u]),(1,.agg #[No a1.f.1,x,AaJ a1.f.2.2.1,y,No a1.f.2.2.2.2.1,No a1.f.2.2.2.2.2.1,z]),(2,ab)] func24 rfl rfl rfl rfl rfl ?_;have hL:=AO.start w;refine Ak<|CK (t:=52) rfl rfl rfl hL fun w1 b1 bw cc _=>CK (t:=26) rfl rfl rfl bw fun w2 b2 bz cd _=>Aq 1 rfl<|AG AR rfl rfl bz fun w3 b3 aw ce _=>Ac<|A7<|Ak<|Ae (AE 1 rfl AbP rfl Bh aw rfl) rfl ?_;refine Ax h fun x4 b0 h=>?_;refine AF rfl rfl aw (FD (a0:=a1) _ _ (As hH aw) (hU.mono (Ah hH)) (aq.mono (Ah hH)) (ar.mono (Ah hH)) (au.mono (Ah hH)) b0) fun w5 cp b4 cf=>AG AR rfl rfl b4 fun w6 b6 b7 cg _=>Aj 0 rfl rfl rfl AR b7 rfl rfl (AH rfl (AH rfl Cj)) fun w7 al ch=>Ac<|Ak<|Ae (AE 0 rfl Abs rfl AR al rfl) rfl<|Ae (AZ rfl (fun _=>BY _)) rfl<|Ae (JG rfl rfl I6 (Lp _ _ _ _)) rfl<|Ac<|Cl rfl h (fun b8 h=>?_) (fun b8 h=>?_)
 ·cases h
 refine Au<|Ao<|A7<|Bk 1 rfl<|Ae (Bo rfl Adm av) rfl<|Ae (AE 3 rfl Adk rfl MU al rfl) rfl ?_;refine Ax h fun cq bi h=>?_;refine AF rfl rfl al (EG (a0:=((a0.1.1,a0.1.2),(a0.2.1.1,a0.2.1.2),a0.2.2)) _ _ (As hH al) (an.mono (Ah hH)) (ao.mono (Ah hH)) (ap.mono (Ah hH)) bi) fun cr ci bj b9=>AA 1 rfl<|Cl rfl h (fun bk h=>?_) (fun bk h=>?_)
 ·cases h
 refine Au<|Ao<|Bk 1 rfl ?_;obtain⟨aa,ca,ak⟩:=CB (.int .i64) H 3 bj;refine Ac<|Bn (σ:=(List Int)×Value×(List Value)) (fun⟨ag,ac,o⟩=>[(7,(AaH b3)),(9,ac)]) (fun⟨ag,ac,o⟩ wr=>DZ w [.row (ac) 3 1 (ag).length (o),.box b6 [No x4.1,No x4.2] 28,.box b3 [No (0:Int),No (0:Int)] 28,.box b2 [No a1.f.1,x,AaJ a1.f.2.2.1,y,No a1.f.2.2.2.2.1,No a1.f.2.2.2.2.2.1,z] 26,.box b1 [No a0.1.1,p,No a0.2.1.1,q,u] 52] wr fun Oz=>AJ (.int .i64) (gz H w wr Oz) (ag) (o)∧FQ ag=some r) ?_ ?_
 ·refine Ak<|Ae (AE 4 rfl Adk rfl MU aa rfl) rfl<|Ae (AE 3 rfl AbP rfl Bh aa rfl) rfl ?_;refine Ax h fun ax bl h=>?_;refine Bs rfl rfl aa (Mo (a0:=((a0.1.1,a0.1.2),(a0.2.1.1,a0.2.1.2),a0.2.2)) (a1:=a1) _ _ (As hH aa) (hU.mono (Ah hH)) (an.mono (Ah hH)) (ao.mono (Ah hH)) (ap.mono (Ah hH)) (aq.mono (Ah hH)) (ar.mono (Ah hH)) (au.mono (Ah hH)) bl) ?_;rintro am cs ⟨_,rfl,ay⟩ bm bn a8;have ah:=ay.CA hH aa bm;refine Ae (Bo rfl Adm ah) rfl<|AA 1 rfl<|A2 ?_;obtain⟨ai,h⟩:=AY h;have ak:=ak.mono (Ab hH a8)
  refine Bw (σ:=(List Int)×Int×Value×(List Value)×Nat) (fun⟨e,a,g,b,n⟩=>[(2,ab),(7,(AaH b3)),(9,g),(26,am),(27,No (ax.length:Int)),(28,No a)]) (fun⟨e,a,g,b,n⟩ wr=>DZ w [.row (g) 3 1 (e).length (b),.box b6 [No x4.1,No x4.2] 28,.box b3 [No (0:Int),No (0:Int)] 28,.box b2 [No a1.f.1,x,AaJ a1.f.2.2.1,y,No a1.f.2.2.2.2.1,No a1.f.2.2.2.2.2.1,z] 26,.box b1 [No a0.1.1,p,No a0.2.1.1,q,u] 52] wr fun Oz=>AI .bool (gz H w wr Oz) (am) (ax)∧AJ (.int .i64) (gz H w wr Oz) (e) (b)∧FT (Fq a2 ax) n (e,a)=some r) (fun⟨e,a,g,b,n⟩=>n) (([]:List Int),(0:Int),Aat,[],ai) (Sub.of rfl) ⟨bn,ah,ak,h⟩ ?_;rintro⟨e,a,g,b,nn89⟩ cj ⟨k,d,j,h⟩;obtain⟨ai,ct,rfl,h,ad⟩:=AX h;refine A9 1 rfl<|A7<|AM rfl h (fun bo h=>?_) (fun bo h=>?_)
  ·refine Au<|Ao<|A7<|A2<|Bk 1 rfl ?_;refine Az h fun az h=>?_;refine Bb rfl rfl Adm ZR d a.toNat (EM az) (AW az) rfl ?_;rintro cu _ rfl bp;refine Ae (Be rfl Adn rfl bp (As hH k)) rfl<|AA 2 rfl<|Bk 2 rfl<|AQ (s:=34) rfl (fun c=>?_) (fun c=>?_)
   ·have h:=G5 c h;refine Aa rfl rfl c<|Ae (Ad rfl) rfl<|Aa rfl rfl c<|Ae (Ad rfl) rfl<|Aa rfl rfl c ?_;refine Az h fun a3 h=>?_;refine Bb rfl rfl Adm ZR av a.toNat (EM a3) (AW a3) rfl ?_;rintro cv _ rfl bq;refine Aa rfl rfl c<|Ae (Be rfl Adn rfl bq (hH.trans k.arg)) rfl<|Ae (A1 rfl c rfl) rfl<|Ac<|Bl rfl h (fun br h=>?_) (fun br h=>?_)
    ·refine Ar<|Aq 2 rfl<|Bu (r:=(.int .i64)) (l:=[a]) rfl (fun _=>Il _ _) rfl (show 1≤9223372036854775807 by decide) hH k (.c1 rfl .nil) ?_;intro ck cl cb a9 aj ba;refine Az h fun bb h=>?_;have j:=j.mono (Ab hH aj);refine Bq (r:=(.int .i64)) (l:=e) (m:=[a]) 0 rfl rfl AaR Cc rfl (by decide) rfl hH a9 rfl j ba bb fun bs cm bc bd a4 be=>Aq 1 rfl<|AL<|A8<|Ao<|Ar ?_;refine Az h fun bf h=>?_;refine Ae (AK rfl rfl rfl bf) rfl<|Aq 1 rfl<|AL ?_;have h:=BV.again h ad;have d:=d.mono (Ab hH (aj.trans a4));refine AN ((e++[a]),(a+(1:Int)),bs,bc,ai) (Sub.of rfl) ⟨bd,d,be,h⟩ (Nat.lt_succ_self _)
    refine Au<|A8<|Ao<|Ar ?_;refine Az h fun bg h=>?_;refine Ae (AK rfl rfl rfl bg) rfl<|Aq 1 rfl<|AL ?_;have h:=BV.again h ad;refine AN (e,(a+(1:Int)),g,b,ai) (Sub.of rfl) ⟨k,d,j,h⟩ (Nat.lt_succ_self _)
   have h:=G6 c h
   iterate 4 refine Ai rfl rfl c rfl ?_
   refine Ae (A3 rfl c rfl) rfl<|Ac<|Cw rfl<|Au<|A8<|Ao<|Ar ?_;refine Az h fun bh h=>?_;refine Ae (AK rfl rfl rfl bh) rfl<|Aq 1 rfl<|AL ?_;have h:=BV.again h ad;refine AN (e,(a+(1:Int)),g,b,ai) (Sub.of rfl) ⟨k,d,j,h⟩ (Nat.lt_succ_self _)
  refine Br<|AD<|A5 ?_;have h:=BV.out h ad;refine Bd<|A6 (e,g,b) (Sub.of rfl) ⟨k,j,h⟩
 rintro⟨ag,ac,o⟩ cn ⟨bt,ae,h⟩;refine Bk 1 rfl<|Ae (AZ rfl (fun _=>BY _)) rfl<|Aq 1 rfl<|Aj 2 rfl rfl rfl AR bt rfl rfl (AH rfl (AH rfl Cj)) fun co af a5=>Ac<|Ay ?_
 cases h
 refine C9 rfl (.tmp rfl) (.cell rfl Abs rfl AR (AT (i:=2) af rfl)) ?_;have ae:=ae.mono (Ab hH a5);exact⟨af.ext,_,rfl,(af.GQ hH (i:=0) rfl ae)⟩
def FR(a0:AaK):Option (AaK):=
 some (a0)
theorem LR(w:World)(H:PH)(hH:Le H (hp w)){a0:AaK}{a:Value}(b:AI .byte H a (a0)){r:AaK}(h:FR a0=some r):
  Ok Tryz.prog 61 [a] w (fun v w'=>Ext w w'∧∃ c,v=c∧AI .byte (un H (nw w w')) c (r)):=by
 refine A4 (n:=9) [(0,a)] func61 rfl rfl rfl rfl rfl ?_;have hL:=AO.start w;refine A9 1 rfl<|Bk 2 rfl<|Ae (Bo rfl Abe b) rfl<|Aq 1 rfl<|Ae (Bo rfl Abe b) rfl<|Ab3 rfl rfl rfl Abe Lo b rfl fun e d=>AA 1 rfl<|Ay ?_
 cases h
 refine Am rfl rfl ?_;exact⟨hL.ext,_,rfl,(d.mono (JJ hH))⟩
def Fs(a0:(Int×(List (AaK×(List (Int×Int)))))×(Int×(List ((AaK×Int×Int×AaK)×(List Int))))×(List (((List Int))×(List Int)×(List Int))))(a1:Int)(a2:Int)(a3:Int):Option (AaK×(Int×Int)):=
 AU (0≤a1∧a1<(a0.2.2.length:Int)) (Option.bind (CR ((a0.2.2.getD a1.toNat default).1,(a0.2.2.getD a1.toNat default).2.1,(a0.2.2.getD a1.toNat default).2.2)) (fun a=>if(a2<(0:Int))∨(a<a2) then none else(if(a3<a2)∨(a<a3) then none else AU (0≤a1∧a1<(a0.2.2.length:Int)) (Option.bind (FM ((a0.2.2.getD a1.toNat default).1,(a0.2.2.getD a1.toNat default).2.1,(a0.2.2.getD a1.toNat default).2.2) a2 a3) (fun b=>Option.bind (FR b.1) (fun c=>some (c,((0:Int),(0:Int)))))))))
def ET(a0:(Int×(List (AaK×(List (Int×Int)))))×(Int×(List ((AaK×Int×Int×AaK)×(List Int))))×(List (((List Int))×(List Int)×(List Int))))(a1:Int)(a2:Int)(a3:Int)(a4:List Bool):Option (AaK×(Int×Int)):=
 if a1<(0:Int) then none else Option.bind (CS ((a0.1.1,a0.1.2),(a0.2.1.1,a0.2.1.2),a0.2.2)) (fun b=>if b≤a1 then none else Option.bind (CS ((a0.1.1,a0.1.2),(a0.2.1.1,a0.2.1.2),a0.2.2)) (fun c=>if(a4.length:Int)=c then AU (0≤a1∧a1<(a4.length:Int)) (if !(a4.getD a1.toNat default) then Option.bind (Ek (20:Int) (-1:Int)) (fun a=>some ([],(a.1,a.2))) else(Fs a0 a1 a2 a3)) else none))
theorem JD(w:World)(H:PH)(hH:Le H (hp w)){a0:(Int×(List (AaK×(List (Int×Int)))))×(Int×(List ((AaK×Int×Int×AaK)×(List Int))))×(List (((List Int))×(List Int)×(List Int)))}{a1:Int}{a2:Int}{a3:Int}{a4:List Bool}{e:Value}{f:Value}{g:Value}{m:Value}(q:AI (.pair .st (.vec (.pair (.int .i64) (.int .i64)))) H e (a0.1.2))(u:AI (.pair (.pair .st (.pair (.int .i64) (.pair (.int .i64) .st))) (.vec (.int .i64))) H f (a0.2.1.2))(j:AI (.pair (.vec (.int .i64)) (.pair (.vec (.int .i64)) (.vec (.int .i64)))) H g (a0.2.2))(x:AI .bool H m (a4)){r:AaK×(Int×Int)}(h:ET a0 a1 a2 a3 a4=some r):
  Ok Tryz.prog 29 [.agg #[No a0.1.1,e,No a0.2.1.1,f,g],No a1,No a2,No a3,m] w (fun v w'=>Ext w w'∧∃ u0,v=.tuple #[u0,.agg #[No r.2.1,No r.2.2]]∧AI .byte (un H (nw w w')) u0 (r.1)):=by
 refine A4 (n:=78) [(0,.agg #[No a0.1.1,e,No a0.2.1.1,f,g]),(1,No a1),(2,No a2),(3,No a3),(4,m)] func29 rfl rfl rfl rfl rfl ?_;have hL:=AO.start w;refine Ak<|CK (t:=52) rfl rfl rfl hL fun w1 b1 bc bn _=>Aq 1 rfl<|AG AR rfl rfl bc fun w2 b2 y bo _=>Ac<|Bn (σ:=Unit) (fun(_:Unit)=>[(1,No a1),(2,No a2),(3,No a3),(5,(AaH b1)),(11,(AaH b2))]) (fun(_:Unit) wr=>AO w [.box b2 [No (0:Int),No (0:Int)] 28,.box b1 [No a0.1.1,e,No a0.2.1.1,f,g] 52] wr∧(Fs a0 a1 a2 a3)=some r) ?_ ?_
 ·refine A2<|Bk 3 rfl<|AQ (s:=18) rfl (fun a=>?_) (fun a=>?_)
  ·have h:=BO (of_decide_eq_true a) h
   iterate 4 refine Ai rfl rfl a rfl ?_
   refine Ae (A1 rfl a rfl) rfl<|AA 1 rfl<|Cy rfl ?_
   cases h
  have h:=BP (of_decide_eq_false a) h;refine Aa rfl rfl a<|Ae (Ad rfl) rfl<|Aa rfl rfl a<|Ae (AE 1 rfl Adk rfl MU y rfl) rfl<|Aa rfl rfl a ?_;refine Ax h fun bu aj h=>?_;refine AF rfl rfl y (EG (a0:=((a0.1.1,a0.1.2),(a0.2.1.1,a0.2.1.2),a0.2.2)) _ _ (As hH y) (q.mono (Ah hH)) (u.mono (Ah hH)) (j.mono (Ah hH)) aj) fun bv bp o be=>Aa rfl rfl a<|Ae (Ad rfl) rfl<|Ae (A3 rfl a rfl) rfl<|AA 1 rfl<|AM rfl h (fun ak h=>?_) (fun ak h=>?_)
  ·cases h
  refine Bk 1 rfl<|Ae (Bo rfl Adm x) rfl<|Ae (AE 1 rfl Adk rfl MU o rfl) rfl ?_;refine Ax h fun bw al h=>?_;refine AF rfl rfl o (EG (a0:=((a0.1.1,a0.1.2),(a0.2.1.1,a0.2.1.2),a0.2.2)) _ _ (As hH o) (q.mono (Ah hH)) (u.mono (Ah hH)) (j.mono (Ah hH)) al) fun bx bq k bf=>AA 2 rfl<|Cl rfl h (fun am h=>?_) (fun am h=>?_)
  ·cases h
  refine Bk 2 rfl ?_;refine Az h fun z h=>?_;refine Bb rfl rfl Adm ZR x a1.toNat (EM z) (AW z) rfl ?_;rintro bz _ rfl an;refine Ae (Be rfl Adn rfl an (hH.trans k.arg)) rfl<|AA 2 rfl<|Bl rfl h (fun ao h=>?_) (fun ao h=>?_)
  ·refine Ak ?_;refine Ax h fun b0 ap h=>?_;refine AF rfl rfl k (EJ _ _ (As hH k) ap) fun b3 br aq bg=>Aq 1 rfl<|Aj 0 rfl rfl rfl AR aq rfl rfl (AH rfl (AH rfl Cj)) fun b4 aa bh=>Ac<|Ay<|Aw<|Bt ?_
   cases h
   refine C9 rfl (.tmp rfl) (.cell rfl Abs rfl AR (AT (i:=0) aa rfl)) ?_;exact⟨aa.ext,_,rfl,(AI.nil _ _)⟩
  refine Au<|A8<|A6 () (Sub.of rfl) ⟨k,h⟩
 rintro _ bs ⟨l,h⟩;refine Ak<|Ae (Af rfl Adk rfl Jn (by decide)) rfl<|Ae (Ag 1 rfl Adl rfl l rfl rfl) rfl<|Aq 1 rfl ?_;refine Az h fun ab h=>?_;refine Bb rfl rfl Adl FY j a1.toNat (EM ab) (AW ab) rfl ?_;rintro b5 _ ⟨_,_,rfl,⟨e49v0,rfl,e49h0⟩,⟨_,_,rfl,⟨e49v1,rfl,e49h1⟩,⟨e49v2,rfl,e49h2⟩⟩⟩ ar;refine Ae (C1 rfl Ade rfl FY ar (hH.trans l.arg)) rfl ?_;refine Ax h fun b6 au h=>?_;refine AF rfl rfl l (EB (a0:=((a0.2.2.getD a1.toNat default).1,(a0.2.2.getD a1.toNat default).2.1,(a0.2.2.getD a1.toNat default).2.2)) _ _ (As hH l) (e49h0.mono (Ah hH)) (e49h1.mono (Ah hH)) (e49h2.mono (Ah hH)) au) fun b7 bt b bi=>AA 1 rfl<|A7<|A2<|Bk 3 rfl<|Si 3 2 rfl rfl rfl rfl rfl rfl<|AA 1 rfl<|AM rfl h (fun av h=>?_) (fun av h=>?_)
 ·cases h
 refine Bk 4 rfl<|Si 3 3 rfl rfl rfl rfl rfl rfl<|AA 1 rfl<|AM rfl h (fun aw h=>?_) (fun aw h=>?_)
 ·cases h
 refine Au<|A8<|Ao<|Ak<|Ae (Af rfl Adk rfl Jn (by decide)) rfl<|Ae (Ag 1 rfl Adl rfl b rfl rfl) rfl<|Aq 1 rfl ?_;refine Az h fun ac h=>?_;refine Bb rfl rfl Adl FY j a1.toNat (EM ac) (AW ac) rfl ?_;rintro b8 _ ⟨_,_,rfl,⟨e59v0,rfl,e59h0⟩,⟨_,_,rfl,⟨e59v1,rfl,e59h1⟩,⟨e59v2,rfl,e59h2⟩⟩⟩ ax;refine Ae (C1 rfl Ade rfl FY ax (hH.trans b.arg)) rfl<|Aq 2 rfl ?_;refine Ax h fun b9 ay h=>?_;refine Bs rfl rfl b (LO (a0:=((a0.2.2.getD a1.toNat default).1,(a0.2.2.getD a1.toNat default).2.1,(a0.2.2.getD a1.toNat default).2.2)) _ _ (As hH b) (e59h0.mono (Ah hH)) (e59h1.mono (Ah hH)) (e59h2.mono (Ah hH)) ay) ?_;rintro _ ca ⟨bj,rfl,ad⟩ az a5 bk;have c:=ad.CA hH b az;refine Aq 3 rfl<|AG AR rfl rfl a5 fun cb cc a6 ag _=>Aq 1 rfl<|Aj 0 rfl rfl rfl AR a6 rfl rfl (AH rfl (AH rfl Cj)) fun cd p ah=>Ac<|Bk 1 rfl ?_;refine Ax h fun ce a7 h=>?_;have c:=c.mono (Ab hH (ag.trans ah));refine Bs rfl rfl p (LR _ _ (As hH p) c a7) ?_;rintro bl cf ⟨_,rfl,ae⟩ a8 a9 bm;have d:=ae.mono (Dv hH p a8)
 refine Ae (AZ rfl (fun _=>BY _)) rfl<|Aq 1 rfl<|Aj 1 rfl rfl rfl AR a9 rfl rfl (AH rfl (AH rfl Cj)) fun cg af ai=>Ac<|Ay ?_
 cases h
 refine C9 rfl (.tmp rfl) (.cell rfl Abs rfl AR (AT (i:=1) af rfl)) ?_;have d:=d.mono (Ab hH ai);exact⟨af.ext,_,rfl,(d.mono (Dm hH))⟩
def Eo(a:Bool):Option (Bool):=
 some (a)
def JV:Option (Bool):=
 Option.bind (NX ([111,120]:AaK)) (fun c=>Option.bind (DP (Go.L.Qv.mk (10:Int) ([]) ([]:AaK) ([]) (0:Int) (0:Int) ([c]))) (fun o=>Option.bind (Gn ([33,111,120]:AaK)) (fun d=>AU ([(111:UInt8),(120:UInt8)]≠[]) (Option.bind (Km (1:Int)) (fun p=>AU ([(99:UInt8),(111:UInt8),(119:UInt8)]≠[]) (Option.bind (Km (2:Int)) (fun q=>Option.bind (KH ([([(111:UInt8),(120:UInt8)],p),([(99:UInt8),(111:UInt8),(119:UInt8)],q)])) (fun a=>Option.bind (FF ((a.1.1.1,a.1.1.2),(a.1.2.1.1,a.1.2.1.2),a.1.2.2) (Go.L.Qv.mk (10:Int) ([]) ([]:AaK) ([]) (0:Int) (0:Int) ([c])) ([true,true])) (fun e=>Option.bind (FF ((a.1.1.1,a.1.1.2),(a.1.2.1.1,a.1.2.1.2),a.1.2.2) (Go.L.Qv.mk (10:Int) ([]) ([]:AaK) ([]) (0:Int) (0:Int) ([c])) ([true,false])) (fun f=>Option.bind (ET ((a.1.1.1,a.1.1.2),(a.1.2.1.1,a.1.2.1.2),a.1.2.2) (1:Int) (0:Int) (2:Int) ([false,true])) (fun g=>Option.bind (ET ((a.1.1.1,a.1.1.2),(a.1.2.1.1,a.1.2.1.2),a.1.2.2) (1:Int) (0:Int) (2:Int) ([true,false])) (fun h=>Option.bind (Gn ([33,40,97,124,33,98,41]:AaK)) (fun i=>Option.bind (Ke i.1) (fun j=>Option.bind (DP j.1) (fun k=>if o.2.1=(0:Int) then if d.2.1=(0:Int) then if a.2.1=(0:Int) then if e.2.1=(0:Int) then if f.2.1=(0:Int) then if g.2.1=(0:Int) then if i.2.1=(0:Int) then if j.2.1=(0:Int) then if k.2.1=(0:Int) then(if o.1=([33,111,120]:AaK) then Option.bind (GN d.1 (Go.L.Qv.mk (10:Int) ([]) ([]:AaK) ([]) (0:Int) (0:Int) ([c]))) (fun l=>if l then Option.bind (NW e.1 ([(1:Int)])) (fun m=>if m then if(f.1.length:Int)=(0:Int) then AU ([(99:UInt8),(111:UInt8)]≠[]) (Option.bind (GA g.1 ([(99:UInt8),(111:UInt8)])) (fun n=>if n then Option.bind (IM (20:Int) (-1:Int)) (fun b=>if h.2.1=b.1∧h.2.2=b.2 then Eo (decide (k.1=([33,97,38,98]:AaK))) else Eo false) else Eo false)) else Eo false else Eo false) else Eo false) else Eo false) else none else none else none else none else none else none else none else none else none)))))))))))))))
theorem Ps(w:World)(H:PH)(hH:Le H (hp w))(hU:D9 H){r:Bool}(h:JV=some r):
  Ok Tryz.prog 13 [] w (fun v w'=>Ext w w'∧v=.bool r):=by
 refine A4 (n:=162) [] func13 rfl rfl rfl rfl rfl ?_;have hL:=AO.start w;refine A9 1 rfl<|Ak ?_;refine Ax h fun x1 h0 h=>?_;refine Bs rfl rfl hL (TB _ _ (As hH hL) h0) ?_;rintro _ w2 ⟨iu,iv,iw,rfl,e8,e9,fa⟩ dv h1 ix;have fb:=e8.mono (Dv hH hL dv);have fc:=e9.CA hH hL dv;have fd:=fa.CA hH hL dv;refine Bu (r:=.Bc) (l:=[x1]) rfl (fun _=>Lx _ _ _ _ _ _ _ _) rfl (show 1≤9223372036854775807 by decide) hH h1 (.c7 (Go.E.Rp.FZ ⟨_,_,rfl,rfl,⟨_,_,rfl,⟨_,rfl,fb⟩,⟨_,_,rfl,rfl,⟨_,_,rfl,⟨_,rfl,fc⟩,⟨_,_,rfl,rfl,⟨_,_,rfl,rfl,⟨_,rfl,fd⟩⟩⟩⟩⟩⟩⟩) .nil) fun v3 w3 jn h2 iy aw=>Ae (AZ rfl (fun _=>Ma _ _ aw.one _)) rfl<|AG Bh rfl rfl h2 fun w4 b4 h3 fx _=>Aj 0 rfl rfl rfl Bh h3 rfl rfl (AH rfl (AH rfl (AH rfl (AH rfl (AH rfl (AH rfl (AH aw.one Cj))))))) fun w5 dw fy=>Ac<|Ak<|Ae (AE 0 rfl AbP rfl Bh dw rfl) rfl ?_;refine Ax h fun x6 h4 h=>?_;have aw:=aw.mono (Ab hH (fx.trans fy));refine AF rfl rfl dw (Hv (a0:=(Go.L.Qv.mk (10:Int) ([]) ([]:AaK) ([]) (0:Int) (0:Int) ([x1]))) _ _ (As hH dw) (hU.mono (Ah hH)) (AI.nil _ _) (AI.nil _ _) aw h4) fun w7 jo h5 fz=>Aq 3 rfl ?_
 refine AG AR rfl rfl h5 fun w8 b8 h6 f1 _=>Aq 1 rfl<|Aj 0 rfl rfl rfl AR h6 rfl rfl (AH rfl (AH rfl Cj)) fun w9 cy f2=>Ac<|Ak ?_;refine Ax h fun an f3 h=>?_;refine Bs rfl rfl cy (K0 _ _ (As hH cy) (hU.mono (Ah hH)) f3) ?_;rintro _ jp ⟨bq,br,bs,rfl,dx,dy,dz⟩ c0 f4 ff;have ad:=dx.mono (Dv hH cy c0);have ae:=dy.mono (Dv hH cy c0);have af:=dz.mono (Dv hH cy c0);refine Aq 3 rfl<|AG Bh rfl rfl f4 fun jq d0 f5 az _=>AG AR rfl rfl f5 fun jr d1 f6 a2 _=>Aj 1 rfl rfl rfl Bh f6 rfl rfl (AH rfl (AH ad.one (AH rfl (AH ae.one (AH rfl (AH rfl (AH af.one Cj))))))) fun js f7 a3=>Aj 0 rfl rfl rfl AR f7 rfl rfl (AH rfl (AH rfl Cj)) fun jt d2 a4=>Ac ?_;have j:=d2.rG H;refine Ak<|JK (r:=.byte) (l:=[(111:UInt8),(120:UInt8)]) rfl (fun _=>Wm _ _ _) rfl (show 2≤9223372036854775807 by decide) hH d2 (.c1 rfl (.c1 rfl .nil)) ?_;intro ju jv iz f8 fg f9;refine Az h fun ga h=>?_;refine XO 0 rfl Abe Ab9 rfl hH f8 rfl f9 ga ?_;intro jw cb fh cq;refine Ax h fun h7 gb h=>?_;refine Bs rfl rfl cb (Nz _ _ (As hH cb) gb) ?_
 rintro _ jx ⟨ia,ib,ic,rfl,d3,d4,d5⟩ c2 gc de;have cc:=d3.CA hH cb c2;have cd:=d4.CA hH cb c2;have ce:=d5.CA hH cb c2;refine Ae (AZ rfl (fun _=>SL _ cq.one _ _ _ _ _ _)) rfl<|JK (r:=.byte) (l:=[(99:UInt8),(111:UInt8),(119:UInt8)]) rfl (fun _=>T7 _ _ _ _) rfl (show 3≤9223372036854775807 by decide) hH gc (.c1 rfl (.c1 rfl (.c1 rfl .nil))) ?_;intro jy jz i0 gd bf ge;refine Az h fun gf h=>?_;refine XO 0 rfl Abe Ab9 rfl hH gd rfl ge gf ?_;intro j0 cf bg cr;refine Ax h fun h8 gg h=>?_;refine Bs rfl rfl cf (Nz _ _ (As hH cf) gg) ?_;rintro _ j1 ⟨ie,ig,ih,rfl,d6,d7,d8⟩ c3 gh bd;have d9:=d6.CA hH cf c3;have ea:=d7.CA hH cf c3;have eb:=d8.CA hH cf c3;refine Ae (AZ rfl (fun _=>SL _ cr.one _ _ _ _ _ _)) rfl ?_;have cq:=cq.mono (Ab hH (de.trans (bf.trans (bg.trans bd))));have cc:=cc.mono (Ab hH (bf.trans (bg.trans bd)));have cd:=cd.mono (Ab hH (bf.trans (bg.trans bd)));have ce:=ce.mono (Ab hH (bf.trans (bg.trans bd)));have cr:=cr.mono (Ab hH bd)
 refine Bu (r:=(.pair (.vec .byte) .tree)) (l:=[([(111:UInt8),(120:UInt8)],h7),([(99:UInt8),(111:UInt8),(119:UInt8)],h8)]) rfl (fun _=>Aad _ _ _ _ _ _ _ _ _ _ _ _ _) rfl (show 2≤9223372036854775807 by decide) hH gh (.c6 ⟨_,_,rfl,⟨_,rfl,cq⟩,(Go.E.Rp.DF ⟨_,_,rfl,rfl,⟨_,_,rfl,rfl,⟨_,_,rfl,⟨_,rfl,cc⟩,⟨_,_,rfl,⟨_,rfl,cd⟩,⟨_,rfl,ce⟩⟩⟩⟩⟩)⟩ (.c6 ⟨_,_,rfl,⟨_,rfl,cr⟩,(Go.E.Rp.DF ⟨_,_,rfl,rfl,⟨_,_,rfl,rfl,⟨_,_,rfl,⟨_,rfl,d9⟩,⟨_,_,rfl,⟨_,rfl,ea⟩,⟨_,rfl,eb⟩⟩⟩⟩⟩)⟩ .nil)) ?_;intro j2 j3 i1 cg fi gi;refine Ax h fun k gj h=>?_;refine Bs rfl rfl cg (QE _ _ (As hH cg) (hU.mono (Ah hH)) gi gj) ?_;rintro _ j4 ⟨bt,bu,bv,rfl,ec,ed,ee⟩ c4 gk fj;have y:=ec.mono (Dv hH cg c4);have aa:=ed.mono (Dv hH cg c4);have ab:=ee.CA hH cg c4;refine Aq 3 rfl<|AG MU rfl rfl gk fun j5 ef gl bw _=>AG AR rfl rfl gl fun j6 eg gm bx _=>Aj 1 rfl rfl rfl MU gm rfl rfl (AH rfl (AH y.one (AH rfl (AH aa.one (AH ab.one Cj))))) fun j7 gn bz=>Aj 0 rfl rfl rfl AR gn rfl rfl (AH rfl (AH rfl Cj)) fun j8 cs b0=>Ac ?_;have e:=cs.rG H;refine Ak ?_
 refine Ae (AE 1 rfl Adk rfl MU cs rfl) rfl<|Ae (AE 5 rfl AbP rfl Bh cs rfl) rfl<|Bu (r:=.bool) (l:=[true,true]) rfl (fun _=>QN _ _ _) rfl (show 2≤9223372036854775807 by decide) hH cs (.c1 rfl (.c1 rfl .nil)) ?_;intro j9 ka i2 c5 fk go;refine Ax h fun cm gp h=>?_;have aw:=aw.mono (Ab hH (fz.trans (f1.trans (f2.trans (ff.trans (az.trans (a2.trans (a3.trans a4))))))));have j:=j.trans (Ab hH (fg.trans (fh.trans (de.trans (bf.trans (bg.trans (bd.trans (fi.trans (fj.trans (bw.trans (bx.trans (bz.trans b0))))))))))));have y:=y.mono (Ab hH (bw.trans (bx.trans (bz.trans b0))));have aa:=aa.mono (Ab hH (bw.trans (bx.trans (bz.trans b0))));have ab:=ab.mono (Ab hH (bw.trans (bx.trans (bz.trans b0))));have e:=e.trans (Ab hH fk);refine Bs rfl rfl c5 (JI (a0:=((k.1.1.1,k.1.1.2),(k.1.2.1.1,k.1.2.1.2),k.1.2.2)) (a1:=(Go.L.Qv.mk (10:Int) ([]) ([]:AaK) ([]) (0:Int) (0:Int) ([x1]))) _ _ (As hH c5) (hU.mono (Ah hH)) (y.mono e) (aa.mono e) (ab.mono e) (AI.nil _ _) (AI.nil _ _) ((aw.mono j).mono e) go gp) ?_;rintro _ kb ⟨ii,rfl,eh⟩ gq gr fl;have ch:=eh.CA hH c5 gq
 refine Aq 3 rfl<|AG AR rfl rfl gr fun kc ei gs df _=>Aq 1 rfl<|Aj 0 rfl rfl rfl AR gs rfl rfl (AH rfl (AH rfl Cj)) fun kd c8 dg=>Ac<|Ak<|Ae (AE 2 rfl Adk rfl MU c8 rfl) rfl<|Ae (AE 6 rfl AbP rfl Bh c8 rfl) rfl<|Bu (r:=.bool) (l:=[true,false]) rfl (fun _=>QN _ _ _) rfl (show 2≤9223372036854775807 by decide) hH c8 (.c1 rfl (.c1 rfl .nil)) ?_;intro ke kf i3 c9 dh gt;refine Ax h fun cn gu h=>?_;have e:=e.trans (Ab hH (fl.trans (df.trans (dg.trans dh))));refine Bs rfl rfl c9 (JI (a0:=((k.1.1.1,k.1.1.2),(k.1.2.1.1,k.1.2.1.2),k.1.2.2)) (a1:=(Go.L.Qv.mk (10:Int) ([]) ([]:AaK) ([]) (0:Int) (0:Int) ([x1]))) _ _ (As hH c9) (hU.mono (Ah hH)) (y.mono e) (aa.mono e) (ab.mono e) (AI.nil _ _) (AI.nil _ _) ((aw.mono j).mono e) gt gu) ?_;rintro _ kg ⟨ij,rfl,ej⟩ gv gw di;have ci:=ej.CA hH c9 gv;refine Aq 3 rfl<|AG AR rfl rfl gw fun kh ek gx ct _=>Aq 1 rfl<|Aj 0 rfl rfl rfl AR gx rfl rfl (AH rfl (AH rfl Cj)) fun ki el cu=>Ac<|Ak<|Ae (AE 3 rfl Adk rfl MU el rfl) rfl ?_
 refine Bu (r:=.bool) (l:=[false,true]) rfl (fun _=>QN _ _ _) rfl (show 2≤9223372036854775807 by decide) hH el (.c1 rfl (.c1 rfl .nil)) ?_;intro kj kk i4 da cv gy;refine Ax h fun co g0 h=>?_;have e:=e.trans (Ab hH (di.trans (ct.trans (cu.trans cv))));refine Bs rfl rfl da (JD (a0:=((k.1.1.1,k.1.1.2),(k.1.2.1.1,k.1.2.1.2),k.1.2.2)) _ _ (As hH da) (y.mono e) (aa.mono e) (ab.mono e) gy g0) ?_;rintro _ kl ⟨ik,rfl,em⟩ g1 g2 cw;have cj:=em.mono (Dv hH da g1);refine Aq 3 rfl<|AG AR rfl rfl g2 fun km en g3 b1 _=>Aq 1 rfl<|Aj 0 rfl rfl rfl AR g3 rfl rfl (AH rfl (AH rfl Cj)) fun kn db b2=>Ac ?_;have g:=db.rG H;refine Ak<|Ae (AE 4 rfl Adk rfl MU db rfl) rfl<|Bu (r:=.bool) (l:=[true,false]) rfl (fun _=>QN _ _ _) rfl (show 2≤9223372036854775807 by decide) hH db (.c1 rfl (.c1 rfl .nil)) ?_;intro ko kp i5 eo fm g4;refine Ax h fun cp g5 h=>?_;have e:=e.trans (Ab hH (cw.trans (b1.trans b2)));have g:=g.trans (Ab hH fm)
 refine Bs rfl rfl eo (JD (a0:=((k.1.1.1,k.1.1.2),(k.1.2.1.1,k.1.2.1.2),k.1.2.2)) _ _ (As hH eo) ((y.mono e).mono g) ((aa.mono e).mono g) ((ab.mono e).mono g) g4 g5) ?_;rintro _ kq ⟨il,rfl,h9⟩ i6 g6 dj;refine Aq 3 rfl<|AG AR rfl rfl g6 fun kr ep g7 dk _=>Aq 1 rfl<|Aj 0 rfl rfl rfl AR g7 rfl rfl (AH rfl (AH rfl Cj)) fun ks ck dl=>Ac<|Ak ?_;refine Ax h fun ao g8 h=>?_;refine Bs rfl rfl ck (K0 _ _ (As hH ck) (hU.mono (Ah hH)) g8) ?_;rintro _ kt ⟨b3,b5,b6,rfl,eq,er,es⟩ dc g9 dm;have ag:=eq.mono (Dv hH ck dc);have ah:=er.mono (Dv hH ck dc);have ai:=es.mono (Dv hH ck dc);refine Aq 3 rfl<|AG Bh rfl rfl g9 fun ku et ha bh _=>AG AR rfl rfl ha fun kv eu hb bi _=>Aj 1 rfl rfl rfl Bh hb rfl rfl (AH rfl (AH ag.one (AH rfl (AH ah.one (AH rfl (AH rfl (AH ai.one Cj))))))) fun kw hc bj=>Aj 0 rfl rfl rfl AR hc rfl rfl (AH rfl (AH rfl Cj)) fun kx be bk=>Ac ?_;have d:=be.rG H;refine Ak<|Ae (AE 1 rfl AbP rfl Bh be rfl) rfl ?_;refine Ax h fun ap hd h=>?_
 have ag:=ag.mono (Ab hH (bh.trans (bi.trans (bj.trans bk))));have ah:=ah.mono (Ab hH (bh.trans (bi.trans (bj.trans bk))));have ai:=ai.mono (Ab hH (bh.trans (bi.trans (bj.trans bk))));refine Bs rfl rfl be (PN (a0:=ao.1) _ _ (As hH be) (hU.mono (Ah hH)) (ag.mono d) (ah.mono d) (ai.mono d) hd) ?_;rintro _ ky ⟨b7,b9,ca,rfl,ev,ew,ex⟩ dd he dn;have aj:=ev.mono (Dv hH be dd);have ak:=ew.mono (Dv hH be dd);have al:=ex.mono (Dv hH be dd);refine Aq 3 rfl<|AG Bh rfl rfl he fun kz ey hf bl _=>AG AR rfl rfl hf fun k0 ez hg bm _=>Aj 1 rfl rfl rfl Bh hg rfl rfl (AH rfl (AH aj.one (AH rfl (AH ak.one (AH rfl (AH rfl (AH al.one Cj))))))) fun k1 hh bn=>Aj 0 rfl rfl rfl AR hh rfl rfl (AH rfl (AH rfl Cj)) fun k2 cx bo=>Ac ?_;have c:=cx.rG H;refine Ak<|Ae (AE 1 rfl AbP rfl Bh cx rfl) rfl ?_;refine Ax h fun cl hi h=>?_;have aj:=aj.mono (Ab hH (bl.trans (bm.trans (bn.trans bo))));have ak:=ak.mono (Ab hH (bl.trans (bm.trans (bn.trans bo))))
 have al:=al.mono (Ab hH (bl.trans (bm.trans (bn.trans bo))));refine AF rfl rfl cx (Hv (a0:=ap.1) _ _ (As hH cx) (hU.mono (Ah hH)) (aj.mono c) (ak.mono c) (al.mono c) hi) fun k3 i7 hj dp=>Aq 3 rfl<|AG AR rfl rfl hj fun k4 e0 hk dq _=>Aq 1 rfl<|Aj 0 rfl rfl rfl AR hk rfl rfl (AH rfl (AH rfl Cj)) fun k5 ay dr=>Ac<|A7<|Ak<|Ae (Af rfl Abs rfl Cc (by decide)) rfl<|Ae (Ag 13 rfl AaT rfl ay rfl rfl) rfl<|Aq 2 rfl<|AQ (s:=90) rfl (fun a5=>?_) (fun a5=>?_)
 ·have h:=BP (CE a5) h
  iterate 3 refine Ai rfl rfl a5 rfl ?_
  refine Ae (A1 rfl a5 rfl) rfl<|Aq 1 rfl ?_
  iterate 3 refine Ai rfl rfl rfl rfl ?_
  refine Ae (A1 rfl rfl rfl) rfl<|Aq 1 rfl ?_
  iterate 3 refine Ai rfl rfl rfl rfl ?_
  refine Ae (A1 rfl rfl rfl) rfl<|Aq 1 rfl ?_
  iterate 3 refine Ai rfl rfl rfl rfl ?_
  refine Ae (A1 rfl rfl rfl) rfl<|Aq 1 rfl ?_
  iterate 3 refine Ai rfl rfl rfl rfl ?_
  refine Ae (A1 rfl rfl rfl) rfl<|Aq 1 rfl ?_
  iterate 3 refine Ai rfl rfl rfl rfl ?_
  refine Ae (A1 rfl rfl rfl) rfl<|Aq 1 rfl ?_
  iterate 3 refine Ai rfl rfl rfl rfl ?_
  refine Ae (A1 rfl rfl rfl) rfl<|Aq 1 rfl ?_
  iterate 3 refine Ai rfl rfl rfl rfl ?_
  refine Ae (A1 rfl rfl rfl) rfl<|Ac<|Cy rfl ?_
  cases h
 have h:=BO (CF a5) h;refine Aa rfl rfl a5<|Ae (Af rfl Abs rfl Cc (by decide)) rfl<|Aa rfl rfl a5<|Ae (Ag 11 rfl AaT rfl ay rfl rfl) rfl<|Aa rfl rfl a5<|Ae (Ad rfl) rfl<|Ae (A3 rfl a5 rfl) rfl<|Aq 1 rfl<|AQ (s:=95) rfl (fun a6=>?_) (fun a6=>?_)
 ·have h:=BP (CE a6) h
  iterate 3 refine Ai rfl rfl a6 rfl ?_
  refine Ae (A1 rfl a6 rfl) rfl<|Aq 1 rfl ?_
  iterate 3 refine Ai rfl rfl rfl rfl ?_
  refine Ae (A1 rfl rfl rfl) rfl<|Aq 1 rfl ?_
  iterate 3 refine Ai rfl rfl rfl rfl ?_
  refine Ae (A1 rfl rfl rfl) rfl<|Aq 1 rfl ?_
  iterate 3 refine Ai rfl rfl rfl rfl ?_
  refine Ae (A1 rfl rfl rfl) rfl<|Aq 1 rfl ?_
  iterate 3 refine Ai rfl rfl rfl rfl ?_
  refine Ae (A1 rfl rfl rfl) rfl<|Aq 1 rfl ?_
  iterate 3 refine Ai rfl rfl rfl rfl ?_
  refine Ae (A1 rfl rfl rfl) rfl<|Aq 1 rfl ?_
  iterate 3 refine Ai rfl rfl rfl rfl ?_
  refine Ae (A1 rfl rfl rfl) rfl<|Ac<|Cy rfl ?_
  cases h
 have h:=BO (CF a6) h;refine Aa rfl rfl a6<|Ae (Af rfl Abs rfl Cc (by decide)) rfl<|Aa rfl rfl a6<|Ae (Ag 9 rfl AaT rfl ay rfl rfl) rfl<|Aa rfl rfl a6<|Ae (Ad rfl) rfl<|Ae (A3 rfl a6 rfl) rfl<|Aq 1 rfl<|AQ (s:=100) rfl (fun a7=>?_) (fun a7=>?_)
 ·have h:=BP (CE a7) h
  iterate 3 refine Ai rfl rfl a7 rfl ?_
  refine Ae (A1 rfl a7 rfl) rfl<|Aq 1 rfl ?_
  iterate 3 refine Ai rfl rfl rfl rfl ?_
  refine Ae (A1 rfl rfl rfl) rfl<|Aq 1 rfl ?_
  iterate 3 refine Ai rfl rfl rfl rfl ?_
  refine Ae (A1 rfl rfl rfl) rfl<|Aq 1 rfl ?_
  iterate 3 refine Ai rfl rfl rfl rfl ?_
  refine Ae (A1 rfl rfl rfl) rfl<|Aq 1 rfl ?_
  iterate 3 refine Ai rfl rfl rfl rfl ?_
  refine Ae (A1 rfl rfl rfl) rfl<|Aq 1 rfl ?_
  iterate 3 refine Ai rfl rfl rfl rfl ?_
  refine Ae (A1 rfl rfl rfl) rfl<|Ac<|Cy rfl ?_
  cases h
 have h:=BO (CF a7) h;refine Aa rfl rfl a7<|Ae (Af rfl Abs rfl Cc (by decide)) rfl<|Aa rfl rfl a7<|Ae (Ag 8 rfl AaT rfl ay rfl rfl) rfl<|Aa rfl rfl a7<|Ae (Ad rfl) rfl<|Ae (A3 rfl a7 rfl) rfl<|Aq 1 rfl<|AQ (s:=105) rfl (fun a8=>?_) (fun a8=>?_)
 ·have h:=BP (CE a8) h
  iterate 3 refine Ai rfl rfl a8 rfl ?_
  refine Ae (A1 rfl a8 rfl) rfl<|Aq 1 rfl ?_
  iterate 3 refine Ai rfl rfl rfl rfl ?_
  refine Ae (A1 rfl rfl rfl) rfl<|Aq 1 rfl ?_
  iterate 3 refine Ai rfl rfl rfl rfl ?_
  refine Ae (A1 rfl rfl rfl) rfl<|Aq 1 rfl ?_
  iterate 3 refine Ai rfl rfl rfl rfl ?_
  refine Ae (A1 rfl rfl rfl) rfl<|Aq 1 rfl ?_
  iterate 3 refine Ai rfl rfl rfl rfl ?_
  refine Ae (A1 rfl rfl rfl) rfl<|Ac<|Cy rfl ?_
  cases h
 have h:=BO (CF a8) h;refine Aa rfl rfl a8<|Ae (Af rfl Abs rfl Cc (by decide)) rfl<|Aa rfl rfl a8<|Ae (Ag 7 rfl AaT rfl ay rfl rfl) rfl<|Aa rfl rfl a8<|Ae (Ad rfl) rfl<|Ae (A3 rfl a8 rfl) rfl<|Aq 1 rfl<|AQ (s:=110) rfl (fun a9=>?_) (fun a9=>?_)
 ·have h:=BP (CE a9) h
  iterate 3 refine Ai rfl rfl a9 rfl ?_
  refine Ae (A1 rfl a9 rfl) rfl<|Aq 1 rfl ?_
  iterate 3 refine Ai rfl rfl rfl rfl ?_
  refine Ae (A1 rfl rfl rfl) rfl<|Aq 1 rfl ?_
  iterate 3 refine Ai rfl rfl rfl rfl ?_
  refine Ae (A1 rfl rfl rfl) rfl<|Aq 1 rfl ?_
  iterate 3 refine Ai rfl rfl rfl rfl ?_
  refine Ae (A1 rfl rfl rfl) rfl<|Ac<|Cy rfl ?_
  cases h
 have h:=BO (CF a9) h;refine Aa rfl rfl a9<|Ae (Af rfl Abs rfl Cc (by decide)) rfl<|Aa rfl rfl a9<|Ae (Ag 6 rfl AaT rfl ay rfl rfl) rfl<|Aa rfl rfl a9<|Ae (Ad rfl) rfl<|Ae (A3 rfl a9 rfl) rfl<|Aq 1 rfl<|AQ (s:=115) rfl (fun ba=>?_) (fun ba=>?_)
 ·have h:=BP (CE ba) h
  iterate 3 refine Ai rfl rfl ba rfl ?_
  refine Ae (A1 rfl ba rfl) rfl<|Aq 1 rfl ?_
  iterate 3 refine Ai rfl rfl rfl rfl ?_
  refine Ae (A1 rfl rfl rfl) rfl<|Aq 1 rfl ?_
  iterate 3 refine Ai rfl rfl rfl rfl ?_
  refine Ae (A1 rfl rfl rfl) rfl<|Ac<|Cy rfl ?_
  cases h
 have h:=BO (CF ba) h;refine Aa rfl rfl ba<|Ae (Af rfl Abs rfl Cc (by decide)) rfl<|Aa rfl rfl ba<|Ae (Ag 3 rfl AaT rfl ay rfl rfl) rfl<|Aa rfl rfl ba<|Ae (Ad rfl) rfl<|Ae (A3 rfl ba rfl) rfl<|Aq 1 rfl<|AQ (s:=120) rfl (fun bb=>?_) (fun bb=>?_)
 ·have h:=BP (CE bb) h
  iterate 3 refine Ai rfl rfl bb rfl ?_
  refine Ae (A1 rfl bb rfl) rfl<|Aq 1 rfl ?_
  iterate 3 refine Ai rfl rfl rfl rfl ?_
  refine Ae (A1 rfl rfl rfl) rfl<|Ac<|Cy rfl ?_
  cases h
 have h:=BO (CF bb) h;refine Aa rfl rfl bb<|Ae (Af rfl Abs rfl Cc (by decide)) rfl<|Aa rfl rfl bb<|Ae (Ag 1 rfl AaT rfl ay rfl rfl) rfl<|Aa rfl rfl bb<|Ae (Ad rfl) rfl<|Ae (A3 rfl bb rfl) rfl<|Aq 1 rfl<|AQ (s:=125) rfl (fun bc=>?_) (fun bc=>?_)
 ·have h:=BP (CE bc) h
  iterate 3 refine Ai rfl rfl bc rfl ?_
  refine Ae (A1 rfl bc rfl) rfl<|Ac<|Cy rfl ?_
  cases h
 have h:=BO (CF bc) h;refine Aa rfl rfl bc<|Ae (Af rfl Abs rfl Cc (by decide)) rfl<|Aa rfl rfl bc<|Ae (Ag 0 rfl AaT rfl ay rfl rfl) rfl<|Aa rfl rfl bc<|Ae (Ad rfl) rfl<|Ae (A3 rfl bc rfl) rfl<|Ac<|Cl rfl h (fun hl h=>?_) (fun hl h=>?_)
 ·cases h
 refine Au<|Ao ?_
 refine Bn (σ:=Bool) (fun bp=>[(0,.bool bp)]) (fun bp wr=>DZ w [.box e0 [No cl.2.1,No cl.2.2] 28,.box ez [No ap.2.1,No ap.2.2] 28,.box ey [No ap.1.f.1,b7,AaJ ap.1.f.2.2.1,b9,No ap.1.f.2.2.2.2.1,No ap.1.f.2.2.2.2.2.1,ca] 26,.box eu [No ao.2.1,No ao.2.2] 28,.box et [No ao.1.f.1,b3,AaJ ao.1.f.2.2.1,b5,No ao.1.f.2.2.2.2.1,No ao.1.f.2.2.2.2.2.1,b6] 26,.box ep [No cp.2.1,No cp.2.2] 28,.box en [No co.2.1,No co.2.2] 28,.box ek [No cn.2.1,No cn.2.2] 28,.box ei [No cm.2.1,No cm.2.2] 28,.box eg [No k.2.1,No k.2.2] 28,.box ef [No k.1.1.1,bt,No k.1.2.1.1,bu,bv] 52,.box d1 [No an.2.1,No an.2.2] 28,.box d0 [No an.1.f.1,bq,AaJ an.1.f.2.2.1,br,No an.1.f.2.2.2.2.1,No an.1.f.2.2.2.2.2.1,bs] 26,.box b8 [No x6.2.1,No x6.2.2] 28,.box b4 [No (10:Int),Aat,.string ⟨(([]:AaK)).toArray⟩,Aat,No (0:Int),No (0:Int),v3] 26] wr fun Oz=>AI .st (gz H w wr Oz) (b7) (ap.1.f.2.1)∧AI .byte (gz H w wr Oz) (b9) (ap.1.f.2.2.2.1)∧AI .Bc (gz H w wr Oz) (ca) (ap.1.f.2.2.2.2.2.2)∧AI .st (gz H w wr Oz) (b3) (ao.1.f.2.1)∧AI .byte (gz H w wr Oz) (b5) (ao.1.f.2.2.2.1)∧AI .Bc (gz H w wr Oz) (b6) (ao.1.f.2.2.2.2.2.2)∧AI (.pair .st (.vec (.pair (.int .i64) (.int .i64)))) (gz H w wr Oz) (bt) (k.1.1.2)∧AI (.pair (.pair .st (.pair (.int .i64) (.pair (.int .i64) .st))) (.vec (.int .i64))) (gz H w wr Oz) (bu) (k.1.2.1.2)∧AI (.pair (.vec (.int .i64)) (.pair (.vec (.int .i64)) (.vec (.int .i64)))) (gz H w wr Oz) (bv) (k.1.2.2)∧AI .st (gz H w wr Oz) (bq) (an.1.f.2.1)∧AI .byte (gz H w wr Oz) (br) (an.1.f.2.2.2.1)∧AI .Bc (gz H w wr Oz) (bs) (an.1.f.2.2.2.2.2.2)∧AI .Bc (gz H w wr Oz) (v3) ([x1])∧Eo bp=some r) ?_ ?_
 ·refine JM (Mv Mu) (fun z0 z=>Le (gz H w z0 [.box e0 [No cl.2.1,No cl.2.2] 28,.box ez [No ap.2.1,No ap.2.2] 28,.box ey [No ap.1.f.1,b7,AaJ ap.1.f.2.2.1,b9,No ap.1.f.2.2.2.2.1,No ap.1.f.2.2.2.2.2.1,ca] 26,.box eu [No ao.2.1,No ao.2.2] 28,.box et [No ao.1.f.1,b3,AaJ ao.1.f.2.2.1,b5,No ao.1.f.2.2.2.2.1,No ao.1.f.2.2.2.2.2.1,b6] 26,.box ep [No cp.2.1,No cp.2.2] 28,.box en [No co.2.1,No co.2.2] 28,.box ek [No cn.2.1,No cn.2.2] 28,.box ei [No cm.2.1,No cm.2.2] 28,.box eg [No k.2.1,No k.2.2] 28,.box ef [No k.1.1.1,bt,No k.1.2.1.1,bu,bv] 52,.box d1 [No an.2.1,No an.2.2] 28,.box d0 [No an.1.f.1,bq,AaJ an.1.f.2.2.1,br,No an.1.f.2.2.2.2.1,No an.1.f.2.2.2.2.2.1,bs] 26,.box b8 [No x6.2.1,No x6.2.2] 28,.box b4 [No (10:Int),Aat,.string ⟨(([]:AaK)).toArray⟩,Aat,No (0:Int),No (0:Int),v3] 26]) (hp z)∧z.heap[e0]? = some (.cells [No cl.2.1,No cl.2.2].toArray 28 (0,0))∧z.heap[ez]? = some (.cells [No ap.2.1,No ap.2.2].toArray 28 (0,0))∧z.heap[ey]? = some (.cells [No ap.1.f.1,b7,AaJ ap.1.f.2.2.1,b9,No ap.1.f.2.2.2.2.1,No ap.1.f.2.2.2.2.2.1,ca].toArray 26 (0,0))∧z.heap[eu]? = some (.cells [No ao.2.1,No ao.2.2].toArray 28 (0,0))∧z.heap[et]? = some (.cells [No ao.1.f.1,b3,AaJ ao.1.f.2.2.1,b5,No ao.1.f.2.2.2.2.1,No ao.1.f.2.2.2.2.2.1,b6].toArray 26 (0,0))∧z.heap[ep]? = some (.cells [No cp.2.1,No cp.2.2].toArray 28 (0,0))∧z.heap[en]? = some (.cells [No co.2.1,No co.2.2].toArray 28 (0,0))∧z.heap[ek]? = some (.cells [No cn.2.1,No cn.2.2].toArray 28 (0,0))∧z.heap[ei]? = some (.cells [No cm.2.1,No cm.2.2].toArray 28 (0,0))∧z.heap[eg]? = some (.cells [No k.2.1,No k.2.2].toArray 28 (0,0))∧z.heap[ef]? = some (.cells [No k.1.1.1,bt,No k.1.2.1.1,bu,bv].toArray 52 (0,0))∧z.heap[d1]? = some (.cells [No an.2.1,No an.2.2].toArray 28 (0,0))∧z.heap[d0]? = some (.cells [No an.1.f.1,bq,AaJ an.1.f.2.2.1,br,No an.1.f.2.2.2.2.1,No an.1.f.2.2.2.2.2.1,bs].toArray 26 (0,0))∧z.heap[b8]? = some (.cells [No x6.2.1,No x6.2.2].toArray 28 (0,0))∧z.heap[b4]? = some (.cells [No (10:Int),Aat,.string ⟨(([]:AaK)).toArray⟩,Aat,No (0:Int),No (0:Int),v3].toArray 26 (0,0))) mixed rfl (fun a i9 ds=>?_)
  have m:=ay.call ds;have cz:=AV ay ds;have b:=m.rG H;refine M1 ⟨b.trans (As hH m),m.at (i:=0) rfl,m.at (i:=1) rfl,m.at (i:=2) rfl,m.at (i:=3) rfl,m.at (i:=4) rfl,m.at (i:=5) rfl,m.at (i:=6) rfl,m.at (i:=7) rfl,m.at (i:=8) rfl,m.at (i:=9) rfl,m.at (i:=10) rfl,m.at (i:=11) rfl,m.at (i:=12) rfl,m.at (i:=13) rfl,m.at (i:=14) rfl⟩ fun kI149=>?_;refine AB 0 a kI149 (by kernel_rfl) rfl (fun _ _=>Ad rfl) rfl<|AB 1 a kI149 (by kernel_rfl) rfl (fun _ _=>KN rfl rfl) rfl<|AB 2 a kI149 (by kernel_rfl) rfl (fun _ _=>Ad rfl) rfl<|LY (s:=132) rfl (fun aq=>?_) (fun aq=>?_)
  ·have h:=BO (of_decide_eq_true aq) h;refine G8 3 a kI149 (by kernel_rfl) rfl rfl rfl rfl aq (fun _ hI=>LZ rfl AbP rfl Bh hI.2.2.2.2.2.2.2.2.2.2.2.2.2.1) rfl<|G8 4 a kI149 (by kernel_rfl) rfl rfl rfl rfl aq (fun _ hI=>LZ rfl AbP rfl Bh hI.2.2.2.2.2.2.2.2.2.2.2.2.2.2.2) rfl<|Ep (i:=5) (by kernel_rfl) rfl<|Aa rfl rfl aq ?_;refine Ax h fun ja fn h=>?_;have ad:=ad.mono (Ab hH (az.trans (a2.trans (a3.trans a4))));have ae:=ae.mono (Ab hH (az.trans (a2.trans (a3.trans a4))));have af:=af.mono (Ab hH (az.trans (a2.trans (a3.trans a4))));have g:=g.trans (Ab hH (dj.trans (dk.trans (dl.trans (dm.trans (bh.trans (bi.trans (bj.trans bk))))))));have d:=d.trans (Ab hH (dn.trans (bl.trans (bm.trans (bn.trans bo)))));have c:=c.trans (Ab hH (dp.trans (dq.trans (dr.trans cz))))
   refine AF rfl rfl m (LC (a0:=an.1) (a1:=(Go.L.Qv.mk (10:Int) ([]) ([]:AaK) ([]) (0:Int) (0:Int) ([x1]))) _ _ (As hH m) ((((((ad.mono j).mono e).mono g).mono d).mono c).mono b) ((((((ae.mono j).mono e).mono g).mono d).mono c).mono b) ((((((af.mono j).mono e).mono g).mono d).mono c).mono b) (AI.nil _ _) (AI.nil _ _) ((((((aw.mono j).mono e).mono g).mono d).mono c).mono b) fn) ?_;intro jb im q e1;have b:=b.trans (Ab hH e1);refine Ba ⟨b.trans (As hH q),q.at (i:=0) rfl,q.at (i:=1) rfl,q.at (i:=2) rfl,q.at (i:=3) rfl,q.at (i:=4) rfl,q.at (i:=5) rfl,q.at (i:=6) rfl,q.at (i:=7) rfl,q.at (i:=8) rfl,q.at (i:=9) rfl,q.at (i:=10) rfl,q.at (i:=11) rfl,q.at (i:=12) rfl,q.at (i:=13) rfl,q.at (i:=14) rfl⟩ fun kI154=>?_;refine AB 6 a kI154 (by kernel_rfl) rfl (fun _ _=>A1 rfl aq rfl) rfl<|AB 7 a kI154 (by kernel_rfl) rfl (fun _ _=>Ad rfl) rfl<|LY (s:=137) rfl (fun ar=>?_) (fun ar=>?_)
   ·have h:=G5 ar h;refine G8 8 a kI154 (by kernel_rfl) rfl rfl rfl rfl ar (fun _ _=>Ad rfl) rfl<|Ep (i:=9) (by kernel_rfl) rfl<|Aa rfl rfl ar<|Bu (r:=(.int .i64)) (l:=[(1:Int)]) rfl (fun _=>Il _ _) rfl (show 1≤9223372036854775807 by decide) hH q (.c1 rfl .nil) ?_;intro jc jd io t e2 fo;have b:=b.trans (Ab hH e2);refine Ba ⟨b.trans (As hH t),t.at (i:=0) rfl,t.at (i:=1) rfl,t.at (i:=2) rfl,t.at (i:=3) rfl,t.at (i:=4) rfl,t.at (i:=5) rfl,t.at (i:=6) rfl,t.at (i:=7) rfl,t.at (i:=8) rfl,t.at (i:=9) rfl,t.at (i:=10) rfl,t.at (i:=11) rfl,t.at (i:=12) rfl,t.at (i:=13) rfl,t.at (i:=14) rfl⟩ fun kI158=>?_;refine Ep (i:=10) (by kernel_rfl) rfl<|Aa rfl rfl ar ?_;refine Ax h fun je fp h=>?_;have ch:=ch.mono (Ab hH (df.trans (dg.trans (dh.trans (di.trans (ct.trans (cu.trans (cv.trans (cw.trans (b1.trans b2))))))))));refine AF rfl rfl t (TA _ _ (As hH t) ((((ch.mono g).mono d).mono c).mono b) fo fp) ?_;intro jf ip o e3;have b:=b.trans (Ab hH e3)
    refine Ba ⟨b.trans (As hH o),o.at (i:=0) rfl,o.at (i:=1) rfl,o.at (i:=2) rfl,o.at (i:=3) rfl,o.at (i:=4) rfl,o.at (i:=5) rfl,o.at (i:=6) rfl,o.at (i:=7) rfl,o.at (i:=8) rfl,o.at (i:=9) rfl,o.at (i:=10) rfl,o.at (i:=11) rfl,o.at (i:=12) rfl,o.at (i:=13) rfl,o.at (i:=14) rfl⟩ fun kI161=>?_;refine AB 11 a kI161 (by kernel_rfl) rfl (fun _ _=>A1 rfl ar rfl) rfl<|AB 12 a kI161 (by kernel_rfl) rfl (fun _ _=>Ad rfl) rfl<|LY (s:=142) rfl (fun au=>?_) (fun au=>?_)
    ·have h:=G5 au h;refine G8 13 a kI161 (by kernel_rfl) rfl rfl rfl rfl au (fun _ _=>Ad rfl) rfl ?_;have ci:=ci.mono (Ab hH (ct.trans (cu.trans (cv.trans (cw.trans (b1.trans b2))))));refine G8 14 a kI161 (by kernel_rfl) rfl rfl rfl rfl au (fun _ _=>Bo rfl AaR ((((ci.mono g).mono d).mono c).mono b)) rfl<|G8 15 a kI161 (by kernel_rfl) rfl rfl rfl rfl au (fun _ _=>Ad rfl) rfl<|AB 16 a kI161 (by kernel_rfl) rfl (fun _ _=>A1 rfl au rfl) rfl<|AB 17 a kI161 (by kernel_rfl) rfl (fun _ _=>Ad rfl) rfl<|LY (s:=147) rfl (fun am=>?_) (fun am=>?_)
     ·have h:=BO (of_decide_eq_true am) h;refine G8 18 a kI161 (by kernel_rfl) rfl rfl rfl rfl am (fun _ _=>Ad rfl) rfl<|Ep (i:=19) (by kernel_rfl) rfl<|Aa rfl rfl am<|JK (r:=.byte) (l:=[(99:UInt8),(111:UInt8)]) rfl (fun _=>Wm _ _ _) rfl (show 2≤9223372036854775807 by decide) hH o (.c1 rfl (.c1 rfl .nil)) ?_;intro jg jh iq ac e4 fq;have b:=b.trans (Ab hH e4);refine Ba ⟨b.trans (As hH ac),ac.at (i:=1) rfl,ac.at (i:=2) rfl,ac.at (i:=3) rfl,ac.at (i:=4) rfl,ac.at (i:=5) rfl,ac.at (i:=6) rfl,ac.at (i:=7) rfl,ac.at (i:=8) rfl,ac.at (i:=9) rfl,ac.at (i:=10) rfl,ac.at (i:=11) rfl,ac.at (i:=12) rfl,ac.at (i:=13) rfl,ac.at (i:=14) rfl,ac.at (i:=15) rfl⟩ fun kI167=>?_;refine Ep (i:=20) (by kernel_rfl) rfl<|Aa rfl rfl am ?_;refine Az h fun fr h=>?_;refine XO 0 rfl Abe Ab9 rfl hH ac rfl fq fr ?_;intro ji u e5 fs;have b:=b.trans (Ab hH e5)
      refine Ba ⟨b.trans (As hH u),u.at (i:=0) rfl,u.at (i:=1) rfl,u.at (i:=2) rfl,u.at (i:=3) rfl,u.at (i:=4) rfl,u.at (i:=5) rfl,u.at (i:=6) rfl,u.at (i:=7) rfl,u.at (i:=8) rfl,u.at (i:=9) rfl,u.at (i:=10) rfl,u.at (i:=11) rfl,u.at (i:=12) rfl,u.at (i:=13) rfl,u.at (i:=14) rfl⟩ fun kI170=>?_;refine Ep (i:=21) (by kernel_rfl) rfl<|Aa rfl rfl am ?_;refine Ax h fun jj ft h=>?_;have cj:=cj.mono (Ab hH (b1.trans b2));refine AF rfl rfl u (Ly _ _ (As hH u) ((((cj.mono g).mono d).mono c).mono b) fs ft) ?_;intro jk ir p e6;have b:=b.trans (Ab hH e6);refine Ba ⟨b.trans (As hH p),p.at (i:=0) rfl,p.at (i:=1) rfl,p.at (i:=2) rfl,p.at (i:=3) rfl,p.at (i:=4) rfl,p.at (i:=5) rfl,p.at (i:=6) rfl,p.at (i:=7) rfl,p.at (i:=8) rfl,p.at (i:=9) rfl,p.at (i:=10) rfl,p.at (i:=11) rfl,p.at (i:=12) rfl,p.at (i:=13) rfl,p.at (i:=14) rfl⟩ fun kI173=>?_;refine AB 22 a kI173 (by kernel_rfl) rfl (fun _ _=>A1 rfl am rfl) rfl<|AB 23 a kI173 (by kernel_rfl) rfl (fun _ _=>Ad rfl) rfl<|LY (s:=153) rfl (fun av=>?_) (fun av=>?_)
      ·have h:=G5 av h;refine G8 24 a kI173 (by kernel_rfl) rfl rfl rfl rfl av (fun _ hI=>LZ rfl Abs rfl AR hI.2.2.2.2.2.2.1) rfl<|Ep (i:=25) (by kernel_rfl) rfl<|Aa rfl rfl av ?_;refine Ax h fun jl fu h=>?_;refine AF rfl rfl p (GY _ _ (As hH p) fu) ?_;intro jm is x e7;have b:=b.trans (Ab hH e7);refine Ba ⟨b.trans (As hH x),x.at (i:=0) rfl,x.at (i:=1) rfl,x.at (i:=2) rfl,x.at (i:=3) rfl,x.at (i:=4) rfl,x.at (i:=5) rfl,x.at (i:=6) rfl,x.at (i:=7) rfl,x.at (i:=8) rfl,x.at (i:=9) rfl,x.at (i:=10) rfl,x.at (i:=11) rfl,x.at (i:=12) rfl,x.at (i:=13) rfl,x.at (i:=14) rfl⟩ fun kI178=>?_;refine G8 26 a kI178 (by kernel_rfl) rfl rfl rfl rfl av (fun _ _=>VT rfl rfl I6 (Lp _ _ _ _)) rfl<|AB 27 a kI178 (by kernel_rfl) rfl (fun _ _=>A1 rfl av rfl) rfl<|AB 28 a kI178 (by kernel_rfl) rfl (fun _ _=>Ad rfl) rfl<|LY (s:=158) rfl (fun ax=>?_) (fun ax=>?_)
       ·have h:=BO (of_decide_eq_true ax) h;refine G8 29 a kI178 (by kernel_rfl) rfl rfl rfl rfl ax (fun _ _=>Ad rfl) rfl<|G8 30 a kI178 (by kernel_rfl) rfl rfl rfl rfl ax (fun _ _=>KN rfl rfl) rfl<|AB 31 a kI178 (by kernel_rfl) rfl (fun _ _=>A1 rfl ax rfl) rfl<|AB 32 a kI178 (by kernel_rfl) rfl (fun _ _=>Ad rfl) rfl<|DV (by kernel_rfl)<|A6 (decide (cl.1=([33,97,38,98]:AaK))) (Sub.of rfl) ⟨x,((aj.mono c).mono b),((ak.mono c).mono b),((al.mono c).mono b),(((ag.mono d).mono c).mono b),(((ah.mono d).mono c).mono b),(((ai.mono d).mono c).mono b),(((((y.mono e).mono g).mono d).mono c).mono b),(((((aa.mono e).mono g).mono d).mono c).mono b),(((((ab.mono e).mono g).mono d).mono c).mono b),((((((ad.mono j).mono e).mono g).mono d).mono c).mono b),((((((ae.mono j).mono e).mono g).mono d).mono c).mono b),((((((af.mono j).mono e).mono g).mono d).mono c).mono b),((((((aw.mono j).mono e).mono g).mono d).mono c).mono b),h⟩
       have h:=BP (of_decide_eq_false ax) h;refine Cg 29 a kI178 (by kernel_rfl) rfl rfl rfl rfl ax rfl<|Cg 30 a kI178 (by kernel_rfl) rfl rfl rfl rfl ax rfl<|AB 31 a kI178 (by kernel_rfl) rfl (fun _ _=>A3 rfl ax rfl) rfl<|AB 32 a kI178 (by kernel_rfl) rfl (fun _ _=>Ad rfl) rfl<|DV (by kernel_rfl)<|A6 false (Sub.of rfl) ⟨x,((aj.mono c).mono b),((ak.mono c).mono b),((al.mono c).mono b),(((ag.mono d).mono c).mono b),(((ah.mono d).mono c).mono b),(((ai.mono d).mono c).mono b),(((((y.mono e).mono g).mono d).mono c).mono b),(((((aa.mono e).mono g).mono d).mono c).mono b),(((((ab.mono e).mono g).mono d).mono c).mono b),((((((ad.mono j).mono e).mono g).mono d).mono c).mono b),((((((ae.mono j).mono e).mono g).mono d).mono c).mono b),((((((af.mono j).mono e).mono g).mono d).mono c).mono b),((((((aw.mono j).mono e).mono g).mono d).mono c).mono b),h⟩
      have h:=G6 av h;refine Cg 24 a kI173 (by kernel_rfl) rfl rfl rfl rfl av rfl<|Cg 25 a kI173 (by kernel_rfl) rfl rfl rfl rfl av rfl<|Cg 26 a kI173 (by kernel_rfl) rfl rfl rfl rfl av rfl<|AB 27 a kI173 (by kernel_rfl) rfl (fun _ _=>A3 rfl av rfl) rfl<|AB 28 a kI173 (by kernel_rfl) rfl (fun _ _=>Ad rfl) rfl<|Cg 29 a kI173 (by kernel_rfl) rfl rfl rfl rfl rfl rfl<|Cg 30 a kI173 (by kernel_rfl) rfl rfl rfl rfl rfl rfl<|AB 31 a kI173 (by kernel_rfl) rfl (fun _ _=>A3 rfl rfl rfl) rfl<|AB 32 a kI173 (by kernel_rfl) rfl (fun _ _=>Ad rfl) rfl<|DV (by kernel_rfl) ?_
      refine A6 false (Sub.of rfl) ⟨p,((aj.mono c).mono b),((ak.mono c).mono b),((al.mono c).mono b),(((ag.mono d).mono c).mono b),(((ah.mono d).mono c).mono b),(((ai.mono d).mono c).mono b),(((((y.mono e).mono g).mono d).mono c).mono b),(((((aa.mono e).mono g).mono d).mono c).mono b),(((((ab.mono e).mono g).mono d).mono c).mono b),((((((ad.mono j).mono e).mono g).mono d).mono c).mono b),((((((ae.mono j).mono e).mono g).mono d).mono c).mono b),((((((af.mono j).mono e).mono g).mono d).mono c).mono b),((((((aw.mono j).mono e).mono g).mono d).mono c).mono b),h⟩
     have h:=BP (of_decide_eq_false am) h;refine Cg 18 a kI161 (by kernel_rfl) rfl rfl rfl rfl am rfl<|Cg 19 a kI161 (by kernel_rfl) rfl rfl rfl rfl am rfl<|Cg 20 a kI161 (by kernel_rfl) rfl rfl rfl rfl am rfl<|Cg 21 a kI161 (by kernel_rfl) rfl rfl rfl rfl am rfl<|AB 22 a kI161 (by kernel_rfl) rfl (fun _ _=>A3 rfl am rfl) rfl<|AB 23 a kI161 (by kernel_rfl) rfl (fun _ _=>Ad rfl) rfl<|Cg 24 a kI161 (by kernel_rfl) rfl rfl rfl rfl rfl rfl<|Cg 25 a kI161 (by kernel_rfl) rfl rfl rfl rfl rfl rfl<|Cg 26 a kI161 (by kernel_rfl) rfl rfl rfl rfl rfl rfl<|AB 27 a kI161 (by kernel_rfl) rfl (fun _ _=>A3 rfl rfl rfl) rfl<|AB 28 a kI161 (by kernel_rfl) rfl (fun _ _=>Ad rfl) rfl<|Cg 29 a kI161 (by kernel_rfl) rfl rfl rfl rfl rfl rfl ?_;refine Cg 30 a kI161 (by kernel_rfl) rfl rfl rfl rfl rfl rfl<|AB 31 a kI161 (by kernel_rfl) rfl (fun _ _=>A3 rfl rfl rfl) rfl<|AB 32 a kI161 (by kernel_rfl) rfl (fun _ _=>Ad rfl) rfl<|DV (by kernel_rfl) ?_
     refine A6 false (Sub.of rfl) ⟨o,((aj.mono c).mono b),((ak.mono c).mono b),((al.mono c).mono b),(((ag.mono d).mono c).mono b),(((ah.mono d).mono c).mono b),(((ai.mono d).mono c).mono b),(((((y.mono e).mono g).mono d).mono c).mono b),(((((aa.mono e).mono g).mono d).mono c).mono b),(((((ab.mono e).mono g).mono d).mono c).mono b),((((((ad.mono j).mono e).mono g).mono d).mono c).mono b),((((((ae.mono j).mono e).mono g).mono d).mono c).mono b),((((((af.mono j).mono e).mono g).mono d).mono c).mono b),((((((aw.mono j).mono e).mono g).mono d).mono c).mono b),h⟩
    have h:=G6 au h;refine Cg 13 a kI161 (by kernel_rfl) rfl rfl rfl rfl au rfl<|Cg 14 a kI161 (by kernel_rfl) rfl rfl rfl rfl au rfl<|Cg 15 a kI161 (by kernel_rfl) rfl rfl rfl rfl au rfl<|AB 16 a kI161 (by kernel_rfl) rfl (fun _ _=>A3 rfl au rfl) rfl<|AB 17 a kI161 (by kernel_rfl) rfl (fun _ _=>Ad rfl) rfl<|Cg 18 a kI161 (by kernel_rfl) rfl rfl rfl rfl rfl rfl<|Cg 19 a kI161 (by kernel_rfl) rfl rfl rfl rfl rfl rfl<|Cg 20 a kI161 (by kernel_rfl) rfl rfl rfl rfl rfl rfl<|Cg 21 a kI161 (by kernel_rfl) rfl rfl rfl rfl rfl rfl<|AB 22 a kI161 (by kernel_rfl) rfl (fun _ _=>A3 rfl rfl rfl) rfl<|AB 23 a kI161 (by kernel_rfl) rfl (fun _ _=>Ad rfl) rfl<|Cg 24 a kI161 (by kernel_rfl) rfl rfl rfl rfl rfl rfl ?_;refine Cg 25 a kI161 (by kernel_rfl) rfl rfl rfl rfl rfl rfl<|Cg 26 a kI161 (by kernel_rfl) rfl rfl rfl rfl rfl rfl<|AB 27 a kI161 (by kernel_rfl) rfl (fun _ _=>A3 rfl rfl rfl) rfl<|AB 28 a kI161 (by kernel_rfl) rfl (fun _ _=>Ad rfl) rfl<|Cg 29 a kI161 (by kernel_rfl) rfl rfl rfl rfl rfl rfl<|Cg 30 a kI161 (by kernel_rfl) rfl rfl rfl rfl rfl rfl ?_
    refine AB 31 a kI161 (by kernel_rfl) rfl (fun _ _=>A3 rfl rfl rfl) rfl<|AB 32 a kI161 (by kernel_rfl) rfl (fun _ _=>Ad rfl) rfl<|DV (by kernel_rfl)<|A6 false (Sub.of rfl) ⟨o,((aj.mono c).mono b),((ak.mono c).mono b),((al.mono c).mono b),(((ag.mono d).mono c).mono b),(((ah.mono d).mono c).mono b),(((ai.mono d).mono c).mono b),(((((y.mono e).mono g).mono d).mono c).mono b),(((((aa.mono e).mono g).mono d).mono c).mono b),(((((ab.mono e).mono g).mono d).mono c).mono b),((((((ad.mono j).mono e).mono g).mono d).mono c).mono b),((((((ae.mono j).mono e).mono g).mono d).mono c).mono b),((((((af.mono j).mono e).mono g).mono d).mono c).mono b),((((((aw.mono j).mono e).mono g).mono d).mono c).mono b),h⟩
   have h:=G6 ar h;refine Cg 8 a kI154 (by kernel_rfl) rfl rfl rfl rfl ar rfl<|Cg 9 a kI154 (by kernel_rfl) rfl rfl rfl rfl ar rfl<|Cg 10 a kI154 (by kernel_rfl) rfl rfl rfl rfl ar rfl<|AB 11 a kI154 (by kernel_rfl) rfl (fun _ _=>A3 rfl ar rfl) rfl<|AB 12 a kI154 (by kernel_rfl) rfl (fun _ _=>Ad rfl) rfl<|Cg 13 a kI154 (by kernel_rfl) rfl rfl rfl rfl rfl rfl<|Cg 14 a kI154 (by kernel_rfl) rfl rfl rfl rfl rfl rfl<|Cg 15 a kI154 (by kernel_rfl) rfl rfl rfl rfl rfl rfl<|AB 16 a kI154 (by kernel_rfl) rfl (fun _ _=>A3 rfl rfl rfl) rfl<|AB 17 a kI154 (by kernel_rfl) rfl (fun _ _=>Ad rfl) rfl<|Cg 18 a kI154 (by kernel_rfl) rfl rfl rfl rfl rfl rfl<|Cg 19 a kI154 (by kernel_rfl) rfl rfl rfl rfl rfl rfl ?_;refine Cg 20 a kI154 (by kernel_rfl) rfl rfl rfl rfl rfl rfl<|Cg 21 a kI154 (by kernel_rfl) rfl rfl rfl rfl rfl rfl<|AB 22 a kI154 (by kernel_rfl) rfl (fun _ _=>A3 rfl rfl rfl) rfl<|AB 23 a kI154 (by kernel_rfl) rfl (fun _ _=>Ad rfl) rfl<|Cg 24 a kI154 (by kernel_rfl) rfl rfl rfl rfl rfl rfl<|Cg 25 a kI154 (by kernel_rfl) rfl rfl rfl rfl rfl rfl<|Cg 26 a kI154 (by kernel_rfl) rfl rfl rfl rfl rfl rfl ?_
   refine AB 27 a kI154 (by kernel_rfl) rfl (fun _ _=>A3 rfl rfl rfl) rfl<|AB 28 a kI154 (by kernel_rfl) rfl (fun _ _=>Ad rfl) rfl<|Cg 29 a kI154 (by kernel_rfl) rfl rfl rfl rfl rfl rfl<|Cg 30 a kI154 (by kernel_rfl) rfl rfl rfl rfl rfl rfl<|AB 31 a kI154 (by kernel_rfl) rfl (fun _ _=>A3 rfl rfl rfl) rfl<|AB 32 a kI154 (by kernel_rfl) rfl (fun _ _=>Ad rfl) rfl<|DV (by kernel_rfl)<|A6 false (Sub.of rfl) ⟨q,((aj.mono c).mono b),((ak.mono c).mono b),((al.mono c).mono b),(((ag.mono d).mono c).mono b),(((ah.mono d).mono c).mono b),(((ai.mono d).mono c).mono b),(((((y.mono e).mono g).mono d).mono c).mono b),(((((aa.mono e).mono g).mono d).mono c).mono b),(((((ab.mono e).mono g).mono d).mono c).mono b),((((((ad.mono j).mono e).mono g).mono d).mono c).mono b),((((((ae.mono j).mono e).mono g).mono d).mono c).mono b),((((((af.mono j).mono e).mono g).mono d).mono c).mono b),((((((aw.mono j).mono e).mono g).mono d).mono c).mono b),h⟩
  have h:=BP (of_decide_eq_false aq) h;refine Cg 3 a kI149 (by kernel_rfl) rfl rfl rfl rfl aq rfl<|Cg 4 a kI149 (by kernel_rfl) rfl rfl rfl rfl aq rfl<|Cg 5 a kI149 (by kernel_rfl) rfl rfl rfl rfl aq rfl<|AB 6 a kI149 (by kernel_rfl) rfl (fun _ _=>A3 rfl aq rfl) rfl<|AB 7 a kI149 (by kernel_rfl) rfl (fun _ _=>Ad rfl) rfl<|Cg 8 a kI149 (by kernel_rfl) rfl rfl rfl rfl rfl rfl<|Cg 9 a kI149 (by kernel_rfl) rfl rfl rfl rfl rfl rfl<|Cg 10 a kI149 (by kernel_rfl) rfl rfl rfl rfl rfl rfl<|AB 11 a kI149 (by kernel_rfl) rfl (fun _ _=>A3 rfl rfl rfl) rfl<|AB 12 a kI149 (by kernel_rfl) rfl (fun _ _=>Ad rfl) rfl<|Cg 13 a kI149 (by kernel_rfl) rfl rfl rfl rfl rfl rfl<|Cg 14 a kI149 (by kernel_rfl) rfl rfl rfl rfl rfl rfl ?_;refine Cg 15 a kI149 (by kernel_rfl) rfl rfl rfl rfl rfl rfl<|AB 16 a kI149 (by kernel_rfl) rfl (fun _ _=>A3 rfl rfl rfl) rfl<|AB 17 a kI149 (by kernel_rfl) rfl (fun _ _=>Ad rfl) rfl<|Cg 18 a kI149 (by kernel_rfl) rfl rfl rfl rfl rfl rfl<|Cg 19 a kI149 (by kernel_rfl) rfl rfl rfl rfl rfl rfl<|Cg 20 a kI149 (by kernel_rfl) rfl rfl rfl rfl rfl rfl ?_
  refine Cg 21 a kI149 (by kernel_rfl) rfl rfl rfl rfl rfl rfl<|AB 22 a kI149 (by kernel_rfl) rfl (fun _ _=>A3 rfl rfl rfl) rfl<|AB 23 a kI149 (by kernel_rfl) rfl (fun _ _=>Ad rfl) rfl<|Cg 24 a kI149 (by kernel_rfl) rfl rfl rfl rfl rfl rfl<|Cg 25 a kI149 (by kernel_rfl) rfl rfl rfl rfl rfl rfl<|Cg 26 a kI149 (by kernel_rfl) rfl rfl rfl rfl rfl rfl<|AB 27 a kI149 (by kernel_rfl) rfl (fun _ _=>A3 rfl rfl rfl) rfl<|AB 28 a kI149 (by kernel_rfl) rfl (fun _ _=>Ad rfl) rfl<|Cg 29 a kI149 (by kernel_rfl) rfl rfl rfl rfl rfl rfl<|Cg 30 a kI149 (by kernel_rfl) rfl rfl rfl rfl rfl rfl<|AB 31 a kI149 (by kernel_rfl) rfl (fun _ _=>A3 rfl rfl rfl) rfl<|AB 32 a kI149 (by kernel_rfl) rfl (fun _ _=>Ad rfl) rfl ?_;refine DV (by kernel_rfl) ?_;have ad:=ad.mono (Ab hH (az.trans (a2.trans (a3.trans a4))));have ae:=ae.mono (Ab hH (az.trans (a2.trans (a3.trans a4))));have af:=af.mono (Ab hH (az.trans (a2.trans (a3.trans a4))));have g:=g.trans (Ab hH (dj.trans (dk.trans (dl.trans (dm.trans (bh.trans (bi.trans (bj.trans bk))))))))
  have d:=d.trans (Ab hH (dn.trans (bl.trans (bm.trans (bn.trans bo)))));have c:=c.trans (Ab hH (dp.trans (dq.trans (dr.trans cz))));refine A6 false (Sub.of rfl) ⟨m,((aj.mono c).mono b),((ak.mono c).mono b),((al.mono c).mono b),(((ag.mono d).mono c).mono b),(((ah.mono d).mono c).mono b),(((ai.mono d).mono c).mono b),(((((y.mono e).mono g).mono d).mono c).mono b),(((((aa.mono e).mono g).mono d).mono c).mono b),(((((ab.mono e).mono g).mono d).mono c).mono b),((((((ad.mono j).mono e).mono g).mono d).mono c).mono b),((((((ae.mono j).mono e).mono g).mono d).mono c).mono b),((((((af.mono j).mono e).mono g).mono d).mono c).mono b),((((((aw.mono j).mono e).mono g).mono d).mono c).mono b),h⟩
 rintro bp it ⟨fv,hq,hr,hs,ht,hu,hv,hw,hx,hy,hz,hm,hn,ho,h⟩;refine Ay ?_
 cases h
 refine Am rfl rfl ?_;exact⟨fv.ext,rfl⟩
end Go.Proofs.YtekmbcbgknmhiaaGreatDoor
end
noncomputable section
namespace Go.L
def Ap{α:Type}(m m':Option α):Prop:=∀ r,m=some r→m'=some r
theorem Zy{α:Type}(m:Option α):Ap m m:=fun _ h=>h
theorem apB{α β:Type}{m m':Option α}{f f':α→Option β}(h:Ap m m')(k:∀ x,Ap (f x) (f' x)):Ap (Option.bind m f) (Option.bind m' f'):=fun r e=>by
 obtain⟨x,a,h2⟩:=bind_some e;rw [h x a,Option.bind_some];exact k x r h2
theorem apC{α:Type}{p:Prop}[Decidable p]{m m':Option α}(h:Ap m m'):Ap (Go.L.AU p m) (Go.L.AU p m'):=fun r e=>by
 obtain⟨a,h2⟩:=EN e;rw [An a];exact h r h2
theorem apI{α:Type}{p:Prop}[Decidable p]{a b a' b':Option α}(h:Ap a a')(k:Ap b b'):Ap (if p then a else b) (if p then a' else b'):=fun r e=>by
 by_cases hp:p
 ·rw [if_pos hp] at e ⊢;exact h r e
 ·rw [if_neg hp] at e ⊢;exact k r e
theorem apM{α β:Type}{f:α→β}{m m':Option α}(h:Ap m m'):Ap (Option.map f m) (Option.map f m'):=fun r e=>by
 cases m with
 | none=>cases e
 | some x=>rw [h x rfl];exact e
theorem apO{α β:Type}{x:Option α}{ex ex':Option β}{k k':α→Option β}(h:Ap ex ex')(hk:∀ y,Ap (k y) (k' y)):Ap (Go.L.P9 x ex k) (Go.L.P9 x ex' k'):=by
 cases x with
 | none=>exact h
 | some y=>exact hk y
theorem Ap.FT{σ ρ:Type}{b b':σ→Option (σ ⊕ ρ)}(h:∀ s,Ap (b s) (b' s)):∀ (n:Nat) (s:σ),Ap (FT b n s) (FT b' n s)
 | 0,_=>fun _ e=>by cases e
 | n+1,s=>fun r e=>by
  obtain⟨m,x,hm,a,h2⟩:=AX e;obtain rfl:n=m:=by omega
  rw [Go.L.FT,h s x a]
  cases x with
  | inl s'=>exact Ap.FT h n s' r h2
  | inr y=>exact congrArg some h2
theorem Ap.run{σ ρ:Type}{b b':σ→Option (σ ⊕ ρ)}(h:∀ s,Ap (b s) (b' s))(n:Nat)(s:σ):Ap (Go.L.FT b n s) (Go.L.run b' s):=fun r e=>To (Ap.FT h n s r e)
class Mi {α:Type} (m:Option α) where
 c:Option α
 h:Ap c m
noncomputable instance {α:Type} (x:α):Mi (some x):=⟨some x,Zy _⟩
noncomputable instance {α:Type}:Mi (none:Option α):=⟨none,Zy _⟩
noncomputable instance iB {α β:Type} (m:Option α) (f:α→Option β) [i:Mi m] [j:∀ x,Mi (f x)]:Mi (Option.bind m f):=⟨Option.bind i.c fun x=>(j x).c,apB i.h fun x=>(j x).h⟩
noncomputable instance iC {α:Type} (p:Prop) [Decidable p] (m:Option α) [i:Mi m]:Mi (Go.L.AU p m):=⟨Go.L.AU p i.c,apC i.h⟩
noncomputable instance iI {α:Type} (p:Prop) [Decidable p] (a b:Option α) [i:Mi a] [j:Mi b]:Mi (if p then a else b):=⟨if p then i.c else j.c,apI i.h j.h⟩
noncomputable instance {α β:Type} (f:α→β) (m:Option α) [i:Mi m]:Mi (Option.map f m):=⟨Option.map f i.c,apM i.h⟩
noncomputable instance {α β:Type} (x:Option α) (ex:Option β) (k:α→Option β) [i:Mi ex] [j:∀ y,Mi (k y)]:Mi (Go.L.P9 x ex k):=⟨Go.L.P9 x i.c fun y=>(j y).c,apO i.h fun y=>(j y).h⟩
noncomputable instance {σ ρ:Type} (b:σ→Option (σ ⊕ ρ)) (s:σ) [i:∀ s,Mi (b s)]:Mi (Go.L.run b s):=⟨Go.L.FT (fun s=>(i s).c) 300 s,Ap.run (fun s=>(i s).h) 300 s⟩
end Go.L
namespace Go.L
def X2{α:Type}(le:α→α→Bool)(a:α):List α→List α
 | []=>[a]
 | b::l=>if le a b then a::b::l else b::X2 le a l
def isB{α:Type}(le:α→α→Bool):List α→List α
 | []=>[]
 | a::l=>X2 le a (isB le l)
section
variable {α:Type} {le:α→α→Bool}
theorem PY(a:α):∀ l:List α,(X2 le a l).Perm (a::l)
 | []=>.refl _
 | b::l=>by
  unfold X2
  split
  ·exact .refl _
  ·exact((PY a l).cons b).trans (.swap a b l)
theorem UZ:∀ l:List α,(isB le l).Perm l
 | []=>.refl _
 | a::l=>(PY a _).trans ((UZ l).cons a)
theorem Qr(htr:∀ a b c,le a b=true→le b c=true→le a c=true)(hto:∀ a b,le a b=true∨le b a=true)(a:α):∀ l:List α,l.Pairwise (fun x y=>le x y=true)→(X2 le a l).Pairwise fun x y=>le x y=true
 | [],_=>List.pairwise_singleton _ _
 | b::l,h=>by
  unfold X2
  split
  ·rename_i d;refine .cons (fun x hx=>?_) h
   rcases List.mem_cons.1 hx with rfl | hx
   ·exact d
   ·exact htr _ _ _ d ((List.pairwise_cons.1 h).1 x hx)
  ·rename_i d;have h2:le b a=true:=by rcases hto a b with h | h;exact absurd h d;exact h
   refine .cons (fun x hx=>?_) (Qr htr hto a l (List.pairwise_cons.1 h).2)
   rcases List.mem_cons.1 ((PY a l).mem_iff.1 hx) with rfl | hx
   ·exact h2
   ·exact(List.pairwise_cons.1 h).1 x hx
theorem Sc(htr:∀ a b c,le a b=true→le b c=true→le a c=true)(hto:∀ a b,le a b=true∨le b a=true):∀ l:List α,(isB le l).Pairwise fun x y=>le x y=true
 | []=>.nil
 | a::l=>Qr htr hto a _ (Sc htr hto l)
theorem Td(has:∀ a b,le a b=true→le b a=true→a=b):∀ {l m:List α},l.Perm m→l.Pairwise (fun x y=>le x y=true)→m.Pairwise (fun x y=>le x y=true)→l=m
 | [],m,hp,_,_=>hp.nil_eq
 | a::l,m,hp,hl,hm=>by
  cases m with
  | nil=>exact absurd hp.symm.nil_eq (by simp)
  | cons b m=>
   obtain⟨d,e⟩:=List.pairwise_cons.1 hl;obtain⟨f,g⟩:=List.pairwise_cons.1 hm
   have hab:a=b:=by
    rcases List.mem_cons.1 (hp.mem_iff.1 (.head _)) with c | c
    ·exact c
    ·rcases List.mem_cons.1 (hp.mem_iff.2 (.head _)) with h2 | h2
     ·exact h2.symm
     ·exact has a b (d b h2) (f a c)
   subst hab;rw [Td has hp.cons_inv e g]
theorem Ua(htr:∀ a b c,le a b=true→le b c=true→le a c=true)(hto:∀ a b,le a b=true∨le b a=true)(has:∀ a b,le a b=true→le b a=true→a=b)(l:List α):isB le l=l.mergeSort le:=
 Td has ((UZ l).trans (List.mergeSort_perm l _).symm) (Sc htr hto l) (List.pairwise_mergeSort htr (fun a b=>by simpa using hto a b) l)
end
def isS(l:List (List UInt8)):List (List UInt8):=isB (fun x y=>decide (x≤y)) l
def isI(l:List Int):List Int:=isB (fun x y=>decide (x≤y)) l
def isL(l:List Lf):List Lf:=isB (fun x y=>!(Go.Proofs.ltOf Pd) y x) l
theorem Zl(l:List Int):isI l=Go.E.N5 l:=Ua (fun a b c d h2=>by simp only [decide_eq_true_eq] at *;omega) (fun a b=>by simp only [decide_eq_true_eq];omega) (fun a b d h2=>by simp only [decide_eq_true_eq] at *;omega) l
theorem Zm(l:List (List UInt8)):isS l=Go.E.AcN l:=Ua (fun a b c d h2=>by simp only [decide_eq_true_eq] at *;exact List.le_trans d h2) (fun a b=>by simp only [decide_eq_true_eq];exact List.le_total a b) (fun a b d h2=>by simp only [decide_eq_true_eq] at *;exact List.le_antisymm d h2) l
theorem AbN(l:List Lf):isL l=Pe l:=by
 have hlt:∀ a b,(!(Go.Proofs.ltOf Pd) b a)=true↔¬ Pd b a<0:=fun a b=>by simp [Go.Proofs.ltOf]
 refine Ua (fun a b c e h2=>?_) (fun a b=>?_) (fun a b e h2=>?_) l
 ·rw [hlt] at *;intro h3;have s1:=Qo.swap a b
  rcases Int.lt_trichotomy (Pd a b) 0 with d | d | d
  ·exact h2 (Qo.trans c a b h3 d)
  ·rw [Qo.zero a b d] at h3;exact h2 h3
  ·omega
 ·rw [hlt,hlt];have s1:=Qo.swap a b;omega
 ·exact Qo.parts a b (by simpa using h2) (by simpa using e)
end Go.L
namespace Go.Proofs.YtekmbcbgknmhiaaGreatDoor
open Go Go.E Go.L
def Sd(l:List (Lf×List Int)):Option (List Lf):=Go.L.AU (Go.E.JE 48 l.length) (some (isL (l.map Prod.fst)))
theorem Va(l:List (Lf×List Int)):Sd l=Pf l:=by unfold Sd Pf;rw [AbN]
noncomputable instance (l:List (Lf×List Int)):Mi (Pf l):=⟨Sd l,by rw [Va];exact Zy _⟩
end Go.Proofs.YtekmbcbgknmhiaaGreatDoor
end
noncomputable section
namespace Go.L
def Zn(a:List UInt8):List (Fin (a.length+1)):=isB (fun x y=>!(Go.Proofs.ltOf (Lj a)) y x) (O2 a.length)
def Zo(a:List UInt8):List Int:=(Zn a).map fun x=>(x.val:Int)
theorem Vb(a:List UInt8):Zo a=JA a:=by
 have h:Zn a=YP a:=by
  have hlt:∀ x y,(!(Go.Proofs.ltOf (Lj a)) y x)=true↔¬ Lj a y x<0:=fun x y=>by simp [Go.Proofs.ltOf]
  refine Ua (fun x y z c h2=>?_) (fun x y=>?_) (fun x y c h2=>?_) _
  ·rw [hlt] at *;intro h3;unfold Lj at *;have s1:=La (a.drop x.val) (a.drop y.val)
   rcases Int.lt_trichotomy (Lib.compareBytes (a.drop x.val) (a.drop y.val)) 0 with b | b | b
   ·exact h2 (Mj _ _ _ h3 b)
   ·rw [N6 _ _ b] at h3;exact h2 h3
   ·omega
  ·rw [hlt,hlt];unfold Lj;have s1:=La (a.drop x.val) (a.drop y.val);omega
  ·exact Pk a x y (by simpa using h2) (by simpa using c)
 unfold Zo JA;rw [h]
end Go.L
namespace Go.Proofs.YtekmbcbgknmhiaaGreatDoor
open Go Go.E Go.RowKit
def NM{β:Type}(l:List (List UInt8×β)):Option (List (List UInt8)):=
 match l.map Prod.fst with
 | []=>some []
 | [a]=>if a.length<1000 then some [a] else none
 | [a,b]=>if a.length<1000∧b.length<1000∧a≠b then some (if leB a b then[a,b] else[b,a]) else none
 | _=>none
theorem S3{β:Type}(l:List (List UInt8×β)):Go.L.Ap (NM l) (Lc l):=by
 intro r h;have hm:(1000:Nat)≤maxLen:=by decide
 have hl:(l.map Prod.fst).length=l.length:=List.length_map ..
 suffices key:QP l∧some ((l.map Prod.fst).mergeSort leB)=some r by
  unfold Lc;rw [Go.L.An key.1];exact key.2
 unfold QP;rw [← hl];unfold NM at h;generalize l.map Prod.fst=k at *
 match k,h with
 | [],h=>
  cases h
  exact⟨⟨List.nodup_nil,fun x hx=>(by cases hx),by decide⟩,by simp⟩
 | [a],h=>
  simp only at h
  split at h
  ·rename_i ha
   cases h
   exact⟨⟨by simp,fun x hx=>(by rw [List.mem_singleton.1 hx];omega),by simp⟩,by simp⟩
  ·cases h
 | [a,b],h=>
  simp only at h
  split at h
  ·rename_i ha;obtain⟨c,h2,h3⟩:=ha
   cases h
   refine⟨⟨by simp [h3],fun x hx=>?_,by simp⟩,?_⟩
   ·rcases List.mem_cons.1 hx with rfl | hx
    ·omega
    ·rw [List.mem_singleton.1 hx];omega
   ·simp [List.mergeSort,List.merge,List.MergeSort.Internal.splitInTwo]
  ·cases h
 | _::_::_::_,h=>cases h
instance {β:Type} (l:List (List UInt8×β)):Go.L.Mi (Lc l):=⟨NM l,S3 l⟩
end Go.Proofs.YtekmbcbgknmhiaaGreatDoor
end
noncomputable section
namespace Go.Proofs.YtekmbcbgknmhiaaGreatDoor
open Go Go.E Go.RowKit Go.L
noncomputable section
instance (a b c d):Mi (Mb a b c d):=⟨_,Zy _⟩
instance (a b):Mi (Nv a b):=⟨_,Zy _⟩
instance (a b):Mi (Qm a b):=⟨_,Zy _⟩
instance (a):Mi (RC a):=⟨_,Zy _⟩
instance (a):Mi (Xa a):=⟨_,Zy _⟩
instance (a):Mi (OW a):=⟨_,Zy _⟩
instance (a):Mi (Wp a):=⟨_,Zy _⟩
instance (a0):Mi (NX a0):=by delta NX;infer_instance
instance (a0) (a1):Mi (Ek a0 a1):=by delta Ek;infer_instance
instance (a0) (a1):Mi (Hu a0 a1):=by delta Hu;infer_instance
instance (a) (b) (c) (d) (e) (f) (g):Mi (Ch a b c d e f g):=by delta Ch;infer_instance
instance (a0) (s):Mi (Bf a0 s):=by obtain⟨b,c,d,e,f,g,h,a⟩:=s;delta Bf;dsimp only;infer_instance
instance (a0) (s):Mi (Ci a0 s):=by delta Ci;infer_instance
instance (a0) (a1_c0):Mi (BN a0 a1_c0):=by delta BN;infer_instance
instance (a0) (a1_c0):Mi (AS a0 a1_c0):=by delta AS;infer_instance
instance (a0) (d) (e) (f) (g) (a) (b) (c):Mi (BW a0 d e f g a b c):=by delta BW;repeat' first | (show Mi _;infer_instance) | refine @iB _ _ _ _ ?_ (fun _=>?_) | refine @iC _ _ _ _ ?_ | refine @iI _ _ _ _ _ ?_ ?_
instance (a0):Mi (H6 a0):=by delta H6;repeat' first | (show Mi _;infer_instance) | refine @iB _ _ _ _ ?_ (fun _=>?_) | refine @iC _ _ _ _ ?_ | refine @iI _ _ _ _ _ ?_ ?_
instance (a0) (a1):Mi (Kn a0 a1):=by delta Kn;infer_instance
instance (a0):Mi (Iv a0):=by delta Iv;repeat' first | (show Mi _;infer_instance) | refine @iB _ _ _ _ ?_ (fun _=>?_) | refine @iC _ _ _ _ ?_ | refine @iI _ _ _ _ _ ?_ ?_
instance (b) (c) (d) (a):Mi (Fx b c d a):=by delta Fx;infer_instance
instance (a1) (b) (a) (s):Mi (Cm a1 b a s):=by obtain⟨d,c⟩:=s;delta Cm;dsimp only;infer_instance
instance (a1) (b) (a) (s):Mi (JP a1 b a s):=by delta JP;infer_instance
instance (a1) (s):Mi (Cn a1 s):=by obtain⟨b,a⟩:=s;delta Cn;dsimp only;infer_instance
instance (a1) (s):Mi (JQ a1 s):=by delta JQ;infer_instance
instance (a0) (a1):Mi (IG a0 a1):=by delta IG;infer_instance
instance (l):Mi (Mk l):=by delta Mk;infer_instance
instance (a0):Mi (Iw a0):=by delta Iw;infer_instance
instance (a0):Mi (HZ a0):=by delta HZ;infer_instance
instance (a0) (a1):Mi (Im a0 a1):=by delta Im;infer_instance
instance (a0) (a1):Mi (strings_Split a0 a1):=by delta strings_Split;infer_instance
instance (a0):Mi (Io a0):=by delta Io;infer_instance
instance (a0):Mi (Jf a0):=by delta Jf;infer_instance
instance:Mi (IN):=by delta IN;infer_instance
instance (b) (s):Mi (CY b s):=by obtain⟨c,a⟩:=s;delta CY;dsimp only;repeat' first | (show Mi _;infer_instance) | refine @iB _ _ _ _ ?_ (fun _=>?_) | refine @iC _ _ _ _ ?_ | refine @iI _ _ _ _ _ ?_ ?_
instance (a) (s):Mi (Ku a s):=by delta Ku;infer_instance
instance (a0):Mi (Ip a0):=by delta Ip;infer_instance
instance (a0) (a):Mi (DR a0 a):=by delta DR;infer_instance
instance (a0):Mi (DS a0):=by delta DS;infer_instance
instance (a0) (s):Mi (CP a0 s):=by delta CP;infer_instance
instance (a0) (s):Mi (Gz a0 s):=by delta Gz;infer_instance
instance (a0):Mi (Fy a0):=by delta Fy;infer_instance
instance (a):Mi (Gg a):=by delta Gg;infer_instance
instance (a0) (a2) (self) [∀ c d e,Mi (self c d e)] (s):Mi (Dl a0 a2 self s):=by obtain⟨b,a⟩:=s;delta Dl;dsimp only;infer_instance
instance (a0) (a2) (self) [∀ a b c,Mi (self a b c)] (s):Mi (Ia a0 a2 self s):=by delta Ia;infer_instance
instance (self) [∀ a b c,Mi (self a b c)] (a0) (a1) (a2):Mi (DM self a0 a1 a2):=by delta DM;infer_instance
instance PZ:∀ (n:Nat) (y0) (y1) (y2),Mi (DN n y0 y1 y2)
 | 0,_,_,_=>⟨none,fun _ h=>by cases h⟩
 | n+1,y0,y1,y2=>by
  haveI:=PZ n
  show Mi (DM (DN n) y0 y1 y2)
  infer_instance
instance (y0) (y1) (y2):Mi (J3 y0 y1 y2):=by delta J3;infer_instance
instance (a):Mi (GI a):=by delta GI;infer_instance
instance (a0) (s):Mi (Dg a0 s):=by obtain⟨b,a⟩:=s;delta Dg;dsimp only;repeat' first | (show Mi _;infer_instance) | refine @iB _ _ _ _ ?_ (fun _=>?_) | refine @iC _ _ _ _ ?_ | refine @iI _ _ _ _ _ ?_ ?_
instance (a0) (s):Mi (Iy a0 s):=by delta Iy;infer_instance
instance (a0):Mi (Gr a0):=by delta Gr;infer_instance
instance (_self1) (self2) [∀ a b c,Mi (self2 a b c)] (a0):Mi (Ea _self1 self2 a0):=by delta Ea;repeat' first | (show Mi _;infer_instance) | refine @iB _ _ _ _ ?_ (fun _=>?_) | refine @iC _ _ _ _ ?_ | refine @iI _ _ _ _ _ ?_ ?_
instance:Mi (Dz):=by delta Dz;infer_instance
instance (a0) (a1) (s):Mi (BS a0 a1 s):=by delta BS;infer_instance
instance (a0) (a1) (s):Mi (E3 a0 a1 s):=by delta E3;infer_instance
instance (a0) (a1):Mi (Ev a0 a1):=by delta Ev;infer_instance
instance (a0) (a1):Mi (Cs a0 a1):=by delta Cs;infer_instance
instance (c) (a) (b):Mi (D0 c a b):=by delta D0;infer_instance
instance (a1) (a):Mi (Ex a1 a):=by delta Ex;infer_instance
instance (a0) (a1) (a2) (self1) [∀ b,Mi (self1 b)] (s):Mi (Co a0 a1 a2 self1 s):=by obtain⟨c,a⟩:=s;delta Co;dsimp only;infer_instance
instance (a0) (a1) (a2) (self1) [∀ a,Mi (self1 a)] (s):Mi (Gj a0 a1 a2 self1 s):=by delta Gj;infer_instance
instance (self1) [∀ a,Mi (self1 a)] (_self2) (a0) (a1) (a2):Mi (DO self1 _self2 a0 a1 a2):=by delta DO;infer_instance
def Gq:(n:Nat)→(∀ a,Mi ((B9 n).1 a))×(∀ y0 y1 y2,Mi ((B9 n).2 y0 y1 y2))
 | 0=>(fun _=>⟨none,fun _ h=>(by cases h)⟩,fun _ _ _=>⟨none,fun _ h=>(by cases h)⟩)
 | n+1=>(fun a=>by
  haveI:=(Gq n).1
  haveI:=(Gq n).2
  show Mi (Ea ((B9 n).1) ((B9 n).2) a)
  infer_instance,fun y0 y1 y2=>by
  haveI:=(Gq n).1
  haveI:=(Gq n).2
  show Mi (DO ((B9 n).1) ((B9 n).2) y0 y1 y2)
  infer_instance)
instance (y0):Mi (L9 y0):=(Gq 1000).1 y0
instance (a0):Mi (DP a0):=by delta DP;infer_instance
instance (a0) (a1):Mi (BD a0 a1):=by delta BD;infer_instance
instance (a0) (a1):Mi (BE a0 a1):=by delta BE;infer_instance
instance (a0) (a1):Mi (DH a0 a1):=by delta DH;infer_instance
instance (a0) (a1):Mi (Bg a0 a1):=by delta Bg;infer_instance
instance (a1) (y8) (a) (b) (c):Mi (CQ a1 y8 a b c):=by delta CQ;infer_instance
instance (a1) (a2) (self) [∀ a,Mi (self a)] (y8) (s):Mi (BC a1 a2 self y8 s):=by obtain⟨b,c,d⟩:=s;delta BC;dsimp only;infer_instance
instance (a1) (a2) (self) [∀ a,Mi (self a)] (y8) (s):Mi (Ca a1 a2 self y8 s):=by delta Ca;infer_instance
instance (self) [∀ a,Mi (self a)] (a0) (a1) (a2):Mi (Ct self a0 a1 a2):=by delta Ct;infer_instance
instance (self) [∀ a,Mi (self a)] (a0_0):Mi (Cp self a0_0):=by delta Cp;infer_instance
instance (a1) (y8) (a) (b) (c):Mi (E8 a1 y8 a b c):=by delta E8;infer_instance
instance (a1) (a2) (self) [∀ a,Mi (self a)] (y8) (s):Mi (El a1 a2 self y8 s):=by obtain⟨b,c,d⟩:=s;delta El;dsimp only;infer_instance
instance (a1) (a2) (self) [∀ a,Mi (self a)] (y8) (s):Mi (GK a1 a2 self y8 s):=by delta GK;infer_instance
instance (self) [∀ a,Mi (self a)] (a0) (a1) (a2):Mi (Ey self a0 a1 a2):=by delta Ey;infer_instance
instance (self) [∀ a,Mi (self a)] (a0):Mi (C8 self a0):=by delta C8;infer_instance
instance (a0) (a1):Mi (B1 a0 a1):=by delta B1;infer_instance
instance:Mi (Ga):=by delta Ga;infer_instance
instance (a0) (s):Mi (B2 a0 s):=by delta B2;infer_instance
instance (a0) (s):Mi (Cz a0 s):=by delta Cz;infer_instance
instance (a0):Mi (B4 a0):=by delta B4;infer_instance
instance (a1) (a):Mi (Gb a1 a):=by delta Gb;infer_instance
instance (a0) (a1) (a) (s):Mi (FH a0 a1 a s):=by delta FH;repeat' first | (show Mi _;infer_instance) | refine @iB _ _ _ _ ?_ (fun _=>?_) | refine @iC _ _ _ _ ?_ | refine @iI _ _ _ _ _ ?_ ?_
instance (a0) (a1) (a) (s):Mi (HT a0 a1 a s):=by delta HT;infer_instance
instance (a0) (a1) (a):Mi (Et a0 a1 a):=by delta Et;infer_instance
instance:Mi (Gc):=by delta Gc;infer_instance
instance (a0) (a1) (s):Mi (Dk a0 a1 s):=by delta Dk;repeat' first | (show Mi _;infer_instance) | refine @iB _ _ _ _ ?_ (fun _=>?_) | refine @iC _ _ _ _ ?_ | refine @iI _ _ _ _ _ ?_ ?_
instance (a0) (a1) (s):Mi (HU a0 a1 s):=by delta HU;infer_instance
instance (a0) (a1):Mi (BI a0 a1):=by delta BI;infer_instance
instance (a0) (a):Mi (EO a0 a):=by delta EO;infer_instance
instance:Mi (EP):=by delta EP;infer_instance
instance (a0) (a1) (s):Mi (BR a0 a1 s):=by delta BR;infer_instance
instance (a0) (a1) (s):Mi (ER a0 a1 s):=by delta ER;infer_instance
instance (a0) (a1):Mi (ES a0 a1):=by delta ES;infer_instance
instance (a0) (a1):Mi (strings_IndexAny a0 a1):=by delta strings_IndexAny;infer_instance
instance (s) (c):Mi (M8 s c):=by delta M8;infer_instance
instance (a0) (a):Mi (Da a0 a):=by delta Da;infer_instance
instance (a0) (a1):Mi (Cf a0 a1):=by delta Cf;infer_instance
instance (b) (c) (d) (a):Mi (Cu b c d a):=by delta Cu;infer_instance
instance (a) (b) (c) (d):Mi (D1 a b c d):=by delta D1;infer_instance
instance (a) (b):Mi (D2 a b):=by delta D2;infer_instance
instance (a) (b):Mi (CG a b):=by delta CG;infer_instance
instance (a) (b) (c):Mi (EA a b c):=by delta EA;infer_instance
instance (s):Mi (BT s):=by obtain⟨a,b,c⟩:=s;delta BT;dsimp only;infer_instance
instance (s):Mi (D3 s):=by delta D3;infer_instance
instance (a0):Mi (D4 a0):=by delta D4;infer_instance
instance (a0) (a) (b):Mi (D5 a0 a b):=by delta D5;infer_instance
instance (a0) (a):Mi (B8 a0 a):=by delta B8;infer_instance
instance (a0) (s):Mi (B3 a0 s):=by delta B3;repeat' first | (show Mi _;infer_instance) | refine @iB _ _ _ _ ?_ (fun _=>?_) | refine @iC _ _ _ _ ?_ | refine @iI _ _ _ _ _ ?_ ?_
instance (a0) (s):Mi (Cv a0 s):=by delta Cv;infer_instance
instance (a0):Mi (BU a0):=by delta BU;infer_instance
instance (a0):Mi (Eb a0):=by delta Eb;repeat' first | (show Mi _;infer_instance) | refine @iB _ _ _ _ ?_ (fun _=>?_) | refine @iC _ _ _ _ ?_ | refine @iI _ _ _ _ _ ?_ ?_
instance (self) [∀ a,Mi (self a)] (a0):Mi (C3 self a0):=by delta C3;repeat' first | (show Mi _;infer_instance) | refine @iB _ _ _ _ ?_ (fun _=>?_) | refine @iC _ _ _ _ ?_ | refine @iI _ _ _ _ _ ?_ ?_
instance Nf:∀ (n:Nat) (y0),Mi (Cq n y0)
 | 0,_=>⟨none,fun _ h=>by cases h⟩
 | n+1,y0=>by
  haveI:=Nf n
  show Mi (C3 (Cq n) y0)
  infer_instance
instance (y0):Mi (Gk y0):=by delta Gk;infer_instance
instance (_a0) (_a1):Mi (Ho _a0 _a1):=by delta Ho;infer_instance
instance (_a0) (_a1):Mi (FO _a0 _a1):=by delta FO;infer_instance
instance (a0) (a1):Mi (HN a0 a1):=by delta HN;infer_instance
instance (y22):Mi (IZ y22):=by delta IZ;infer_instance
instance (a0):Mi (Gn a0):=by delta Gn;repeat' first | (show Mi _;infer_instance) | refine @iB _ _ _ _ ?_ (fun _=>?_) | refine @iC _ _ _ _ ?_ | refine @iI _ _ _ _ _ ?_ ?_
instance (a0):Mi (Km a0):=by delta Km;infer_instance
def Eg(a0:List UInt8)(a:List Int):Option ((List Int)):=
 Go.L.AU (a=Go.L.iota a0.length∧a0.length<4611686018427387904) (some ((Go.L.Zo a0)))
theorem On:@Eg = @Hw:=by
 unfold Eg Hw;simp only [Zm,Zl,Vb]
instance (a0) (a):Mi (Eg a0 a):=by delta Eg;infer_instance
instance (a0) (a):Mi (Hw a0 a):=⟨(inferInstance:Mi (Eg a0 a)).c,by rw [← On];exact(inferInstance:Mi (Eg a0 a)).h⟩
instance (a0) (s):Mi (I1 a0 s):=by obtain⟨b,a⟩:=s;delta I1;dsimp only;infer_instance
instance (a0) (s):Mi (Kx a0 s):=by delta Kx;infer_instance
instance (a0):Mi (KF a0):=by delta KF;infer_instance
instance (a0):Mi (KG a0):=by delta KG;infer_instance
instance (a1):Mi (Fl a1):=by delta Fl;infer_instance
instance (_a0) (a1):Mi (G1 _a0 a1):=by delta G1;infer_instance
instance (a):Mi (Em a):=by delta Em;infer_instance
instance (a0) (s):Mi (DW a0 s):=by obtain⟨b,a⟩:=s;delta DW;dsimp only;infer_instance
instance (a0) (s):Mi (Gs a0 s):=by delta Gs;infer_instance
instance (a0) (a):Mi (En a0 a):=by delta En;infer_instance
instance (a0) (s):Mi (DX a0 s):=by obtain⟨b,a⟩:=s;delta DX;dsimp only;infer_instance
instance (a0) (s):Mi (Gt a0 s):=by delta Gt;infer_instance
instance (a0):Mi (FN a0):=by delta FN;infer_instance
instance (a) (c) (b):Mi (Fg a c b):=by delta Fg;infer_instance
instance (a0) (a) (s):Mi (EC a0 a s):=by obtain⟨d,c,b⟩:=s;delta EC;dsimp only;infer_instance
instance (a0) (a) (s):Mi (Hh a0 a s):=by delta Hh;infer_instance
instance (c) (d) (a) (e) (b):Mi (Fh c d a e b):=by delta Fh;infer_instance
instance (a0) (d) (b) (c) (a):Mi (Fi a0 d b c a):=by delta Fi;infer_instance
instance (a0) (d) (a) (s):Mi (ED a0 d a s):=by obtain⟨e,b,c⟩:=s;delta ED;dsimp only;infer_instance
instance (a0) (b) (a) (s):Mi (Hi a0 b a s):=by delta Hi;infer_instance
instance (a0) (b) (c) (a):Mi (Fj a0 b c a):=by delta Fj;infer_instance
instance (a0) (b) (c) (s):Mi (EE a0 b c s):=by obtain⟨e,d,a⟩:=s;delta EE;dsimp only;infer_instance
instance (a0) (a) (b) (s):Mi (Hj a0 a b s):=by delta Hj;infer_instance
instance (a0) (a) (b) (c):Mi (Fk a0 a b c):=by delta Fk;infer_instance
instance (a0):Mi (G0 a0):=by delta G0;repeat' first | (show Mi _;infer_instance) | refine @iB _ _ _ _ ?_ (fun _=>?_) | refine @iC _ _ _ _ ?_ | refine @iI _ _ _ _ _ ?_ ?_
instance (a):Mi (I2 a):=by delta I2;infer_instance
instance (a0) (a) (s):Mi (HJ a0 a s):=by obtain⟨c,b⟩:=s;delta HJ;dsimp only;repeat' first | (show Mi _;infer_instance) | refine @iB _ _ _ _ ?_ (fun _=>?_) | refine @iC _ _ _ _ ?_ | refine @iI _ _ _ _ _ ?_ ?_
instance (a0) (a) (s):Mi (JS a0 a s):=by delta JS;infer_instance
instance (a0):Mi (Kf a0):=by delta Kf;infer_instance
instance (a0) (a1):Mi (Cx a0 a1):=by delta Cx;infer_instance
instance (a0):Mi (HH a0):=by delta HH;infer_instance
instance:Mi (Gv):=by delta Gv;infer_instance
instance (a0) (s):Mi (Gd a0 s):=by delta Gd;infer_instance
instance (a0) (s):Mi (I9 a0 s):=by delta I9;infer_instance
instance (a0):Mi (Iq a0):=by delta Iq;infer_instance
instance (a0):Mi (Ir a0):=by delta Ir;infer_instance
instance:Mi (GZ):=by delta GZ;infer_instance
instance (a) (s):Mi (Gw a s):=by delta Gw;infer_instance
instance (a) (s):Mi (Jg a s):=by delta Jg;infer_instance
instance (_c83) (_c84) (_c85) (b) (c) (a):Mi (BZ _c83 _c84 _c85 b c a):=by delta BZ;infer_instance
instance (b) (c) (d) (e) (f) (a):Mi (F5 b c d e f a):=by delta F5;repeat' first | (show Mi _;infer_instance) | refine @iB _ _ _ _ ?_ (fun _=>?_) | refine @iC _ _ _ _ ?_ | refine @iI _ _ _ _ _ ?_ ?_
instance (b) (c) (d) (e) (f) (a):Mi (F6 b c d e f a):=by delta F6;infer_instance
instance (f) (b) (c) (d) (e) (a):Mi (F7 f b c d e a):=by delta F7;infer_instance
instance (a0):Mi (IQ a0):=by delta IQ;infer_instance
instance (a1):Mi (Gx a1):=by delta Gx;infer_instance
instance (a0) (a1) (s):Mi (Ge a0 a1 s):=by delta Ge;infer_instance
instance (a0) (a1) (s):Mi (IA a0 a1 s):=by delta IA;infer_instance
instance (_self) (a0) (a1) (a2):Mi (GC _self a0 a1 a2):=by delta GC;infer_instance
instance QF:∀ (n:Nat) (y0) (y1) (y2),Mi (H4 n y0 y1 y2)
 | 0,_,_,_=>⟨none,fun _ h=>by cases h⟩
 | n+1,y0,y1,y2=>by
  haveI:=QF n
  show Mi (GC (H4 n) y0 y1 y2)
  infer_instance
instance (y0) (y1) (y2):Mi (L2 y0 y1 y2):=by delta L2;infer_instance
instance (a0):Mi (Jx a0):=by delta Jx;infer_instance
instance (a0) (s):Mi (IS a0 s):=by delta IS;infer_instance
instance (a0) (s):Mi (KX a0 s):=by delta KX;infer_instance
instance (a0):Mi (DU a0):=by delta DU;infer_instance
instance (_self) (a0):Mi (Gf _self a0):=by delta Gf;infer_instance
instance Qa:∀ (n:Nat) (y0),Mi (GD n y0)
 | 0,_=>⟨none,fun _ h=>by cases h⟩
 | n+1,y0=>by
  haveI:=Qa n
  show Mi (Gf (GD n) y0)
  infer_instance
instance (y0):Mi (KA y0):=by delta KA;infer_instance
instance (a0):Mi (KB a0):=by delta KB;infer_instance
instance (a0):Mi (HX a0):=by delta HX;infer_instance
instance (a) (b) (c) (d):Mi (Ja a b c d):=by delta Ja;infer_instance
instance (a0):Mi (L6 a0):=by delta L6;infer_instance
instance (a) (b):Mi (J1 a b):=by delta J1;infer_instance
instance (a) (b) (s):Mi (IW a b s):=by obtain⟨d,c⟩:=s;delta IW;dsimp only;infer_instance
instance (a) (b) (s):Mi (Lg a b s):=by delta Lg;infer_instance
instance (a) (b):Mi (F2 a b):=by delta F2;repeat' first | (show Mi _;infer_instance) | refine @iB _ _ _ _ ?_ (fun _=>?_) | refine @iC _ _ _ _ ?_ | refine @iI _ _ _ _ _ ?_ ?_
instance (a) (b):Mi (F3 a b):=by delta F3;infer_instance
instance (a) (b):Mi (F4 a b):=by delta F4;infer_instance
instance (a0):Mi (IP a0):=by delta IP;infer_instance
instance (a0):Mi (Kb a0):=by delta Kb;infer_instance
instance (a0):Mi (Jw a0):=by delta Jw;infer_instance
instance (a0) (a1):Mi (CU a0 a1):=by delta CU;infer_instance
instance (a) (b):Mi (EZ a b):=by delta EZ;infer_instance
instance (a0) (a) (s):Mi (E5 a0 a s):=by obtain⟨c,d,e,b⟩:=s;delta E5;dsimp only;repeat' first | (show Mi _;infer_instance) | refine @iB _ _ _ _ ?_ (fun _=>?_) | refine @iC _ _ _ _ ?_ | refine @iI _ _ _ _ _ ?_ ?_
instance (a0) (a) (s):Mi (Hd a0 a s):=by delta Hd;infer_instance
instance (a0) (a) (b):Mi (Fa a0 a b):=by delta Fa;infer_instance
instance (a0) (a) (s):Mi (E6 a0 a s):=by obtain⟨c,b⟩:=s;delta E6;dsimp only;infer_instance
instance (a0) (a) (s):Mi (He a0 a s):=by delta He;infer_instance
instance (a0) (s):Mi (E7 a0 s):=by obtain⟨b,a⟩:=s;delta E7;dsimp only;infer_instance
instance (a0) (s):Mi (Hf a0 s):=by delta Hf;infer_instance
instance (a0) (a1_c0):Mi (Gy a0 a1_c0):=by delta Gy;infer_instance
instance (a0) (a):Mi (J0 a0 a):=by delta J0;infer_instance
instance (a0) (a1) (a) (s):Mi (IV a0 a1 a s):=by obtain⟨c,b⟩:=s;delta IV;dsimp only;infer_instance
instance (a0) (a1) (a) (s):Mi (Ld a0 a1 a s):=by delta Ld;infer_instance
instance (a0) (a1):Mi (L7 a0 a1):=by delta L7;infer_instance
instance (a0) (a):Mi (J2 a0 a):=by delta J2;infer_instance
instance (a0) (s):Mi (IX a0 s):=by obtain⟨b,a⟩:=s;delta IX;dsimp only;infer_instance
instance (a0) (s):Mi (Lh a0 s):=by delta Lh;infer_instance
instance (a0):Mi (L8 a0):=by delta L8;infer_instance
noncomputable instance {σ:Type} (a0:Go.L.Pv) (s:Int×σ):Mi (EY a0 s):=by obtain⟨a,sJ20⟩:=s;delta EY;dsimp only;infer_instance
noncomputable instance {σ:Type} (a0:Go.L.Pv) (s:Int×σ):Mi (H9 a0 s):=by delta H9;infer_instance
noncomputable instance {σ:Type} (step:σ→((List UInt8)×Int×Int×(List UInt8))→Option σ) [∀ a b,Mi (step a b)] (_self:Go.L.Pv→(List (List UInt8))→σ→Option σ) (a0:Go.L.Pv) (a1:List (List UInt8)) (s:σ):Mi (F8 step _self a0 a1 s):=by delta F8;infer_instance
instance Pt {σ:Type} (step:σ→((List UInt8)×Int×Int×(List UInt8))→Option σ) [∀ a b,Mi (step a b)]:∀ (n:Nat) (y0) (y1) (y2),Mi (FU step n y0 y1 y2)
 | 0,_,_,_=>⟨none,fun _ h=>by cases h⟩
 | n+1,y0,y1,y2=>by
  haveI:=Pt step n
  show Mi (F8 step (FU step n) y0 y1 y2)
  infer_instance
noncomputable instance {σ:Type} (step:σ→((List UInt8)×Int×Int×(List UInt8))→Option σ) [∀ a b,Mi (step a b)] (y0) (y1) (y2):Mi (IF step y0 y1 y2):=by delta IF;infer_instance
instance (i) (l) (x):Mi (KI i l x):=by delta KI;infer_instance
instance (a0):Mi (Ew a0):=by delta Ew;infer_instance
instance (a0):Mi (KY a0):=by delta KY;infer_instance
instance (a):Mi (Is a):=by delta Is;infer_instance
instance (a0) (s):Mi (HI a0 s):=by obtain⟨b,a⟩:=s;delta HI;dsimp only;infer_instance
instance (a0) (s):Mi (JO a0 s):=by delta JO;infer_instance
instance (a0):Mi (Kc a0):=by delta Kc;infer_instance
instance (a1):Mi (Ei a1):=by delta Ei;infer_instance
instance (_a0) (a1):Mi (FI _a0 a1):=by delta FI;infer_instance
instance (a):Mi (DK a):=by delta DK;infer_instance
instance (a0) (s):Mi (D6 a0 s):=by obtain⟨b,a⟩:=s;delta D6;dsimp only;infer_instance
instance (a0) (s):Mi (F9 a0 s):=by delta F9;infer_instance
instance (a0) (a):Mi (DL a0 a):=by delta DL;infer_instance
instance (a0) (s):Mi (D7 a0 s):=by obtain⟨b,a⟩:=s;delta D7;dsimp only;infer_instance
instance (a0) (s):Mi (FA a0 s):=by delta FA;infer_instance
instance (a0):Mi (E4 a0):=by delta E4;infer_instance
instance (a):Mi (Jy a):=by delta Jy;infer_instance
instance (a0):Mi (L4 a0):=by delta L4;infer_instance
instance (a):Mi (Jz a):=by delta Jz;infer_instance
instance (a0) (s):Mi (IT a0 s):=by obtain⟨b,a⟩:=s;delta IT;dsimp only;infer_instance
instance (a0) (s):Mi (Lb a0 s):=by delta Lb;infer_instance
instance (a0):Mi (L5 a0):=by delta L5;infer_instance
instance (a0):Mi (Hc a0):=by delta Hc;infer_instance
instance (a0) (a):Mi (Ht a0 a):=by delta Ht;infer_instance
def DT(a0:Int)(a1:List (((List UInt8)×Int×Int×(List UInt8))×(List Int)))(b:(List ((List UInt8)×Int×Int×(List UInt8)))):(List (((List UInt8)×Int×Int×(List UInt8))×(List Int)))×Int→Option (((List (((List UInt8)×Int×Int×(List UInt8))×(List Int)))×Int) ⊕ ((Int×(List (((List UInt8)×Int×Int×(List UInt8))×(List Int))))×(Int×Int))):=fun⟨d,a⟩=>
 if a<(b.length:Int) then Go.L.AU (0≤a∧a<(b.length:Int)) (Option.bind (Ew (Go.L.HP [] ((b.getD a.toNat default).1,(b.getD a.toNat default).2.1,(b.getD a.toNat default).2.2.1,(b.getD a.toNat default).2.2.2) a1)) (fun c=>Go.L.AU (c.length<4611686018427387904) (Go.L.AU ((isI c).length≤9223372036854775807) (Go.L.AU (Go.E.JE 72 (d.length+([(((b.getD a.toNat default).1,(b.getD a.toNat default).2.1,(b.getD a.toNat default).2.2.1,(b.getD a.toNat default).2.2.2),(Lib.compact (isI c)))]).length)) (Go.L.AU (Go.L.BL (a+(1:Int))) (some (Sum.inl ((d++[(((b.getD a.toNat default).1,(b.getD a.toNat default).2.1,(b.getD a.toNat default).2.2.1,(b.getD a.toNat default).2.2.2),(Lib.compact (isI c)))]),(a+(1:Int)))))))))) else Option.map Sum.inr ((Ht a0) d)
theorem NN:@DT = @GH:=by
 unfold DT GH;simp only [Zm,Zl,Vb]
instance (a0) (a1) (b) (s):Mi (DT a0 a1 b s):=by obtain⟨c,a⟩:=s;delta DT;dsimp only;infer_instance
instance (a0) (a1) (a) (s):Mi (GH a0 a1 a s):=⟨(inferInstance:Mi (DT a0 a1 a s)).c,by rw [← NN];exact(inferInstance:Mi (DT a0 a1 a s)).h⟩
instance (a0) (a1) (a) (s):Mi (Kv a0 a1 a s):=by delta Kv;infer_instance
instance (a0) (a1):Mi (KC a0 a1):=by delta KC;infer_instance
instance (a0) (a):Mi (IU a0 a):=by delta IU;infer_instance
instance (a0) (s):Mi (It a0 s):=by obtain⟨b,a⟩:=s;delta It;dsimp only;infer_instance
instance (a0) (s):Mi (Kw a0 s):=by delta Kw;infer_instance
instance (a0):Mi (KD a0):=by delta KD;infer_instance
instance (a) (b) (c) (d) (e) (f) (g):Mi (Hy a b c d e f g):=by delta Hy;infer_instance
instance (a) (b) (c):Mi (Jb a b c):=by delta Jb;infer_instance
instance (a0) (s):Mi (I4 a0 s):=by obtain⟨b,c,d,a⟩:=s;delta I4;dsimp only;repeat' first | (show Mi _;infer_instance) | refine @iB _ _ _ _ ?_ (fun _=>?_) | refine @iC _ _ _ _ ?_ | refine @iI _ _ _ _ _ ?_ ?_
instance (a0) (s):Mi (K1 a0 s):=by delta K1;infer_instance
instance (a0):Mi (KH a0):=by delta KH;infer_instance
instance (a0):Mi (CV a0):=by delta CV;infer_instance
instance (a0):Mi (CS a0):=by delta CS;infer_instance
instance (a0):Mi (H5 a0):=by delta H5;infer_instance
instance (a0) (a1):Mi (CX a0 a1):=by delta CX;infer_instance
instance (a0) (a1):Mi (strings_Compare a0 a1):=by delta strings_Compare;infer_instance
instance (a0) (a1):Mi (FB a0 a1):=by delta FB;infer_instance
instance (a0) (a1) (a):Mi (By a0 a1 a):=by delta By;infer_instance
instance (a0) (a1) (s):Mi (Bx a0 a1 s):=by obtain⟨b,a⟩:=s;delta Bx;dsimp only;repeat' first | (show Mi _;infer_instance) | refine @iB _ _ _ _ ?_ (fun _=>?_) | refine @iC _ _ _ _ ?_ | refine @iI _ _ _ _ _ ?_ ?_
instance (a0) (a1) (s):Mi (BF a0 a1 s):=by delta BF;infer_instance
instance (a0) (a1):Mi (B5 a0 a1):=by delta B5;infer_instance
instance (a0) (a1):Mi (Iu a0 a1):=by delta Iu;infer_instance
instance (a0):Mi (Dt a0):=by delta Dt;infer_instance
instance (a0) (a1):Mi (Ix a0 a1):=by delta Ix;infer_instance
instance (a):Mi (I5 a):=by delta I5;infer_instance
instance (a0) (s):Mi (HO a0 s):=by obtain⟨b,a⟩:=s;delta HO;dsimp only;infer_instance
instance (a0) (s):Mi (JU a0 s):=by delta JU;infer_instance
instance (a0):Mi (Kh a0):=by delta Kh;infer_instance
instance (a):Mi (Fp a):=by delta Fp;infer_instance
instance (a0) (a1):Mi (G4 a0 a1):=by delta G4;infer_instance
instance (a):Mi (FP a):=by delta FP;infer_instance
instance (a1) (s):Mi (Fo a1 s):=by obtain⟨b,a⟩:=s;delta Fo;dsimp only;infer_instance
instance (a1) (s):Mi (HC a1 s):=by delta HC;infer_instance
instance (a0) (a1):Mi (Hp a0 a1):=by delta Hp;infer_instance
instance (a):Mi (Du a):=by delta Du;infer_instance
instance (a1) (a) (s):Mi (Di a1 a s):=by delta Di;infer_instance
instance (a1) (a) (s):Mi (EK a1 a s):=by delta EK;infer_instance
instance (a1) (a):Mi (C6 a1 a):=by delta C6;infer_instance
instance (a1) (a) (s):Mi (Dj a1 a s):=by obtain⟨c,b⟩:=s;delta Dj;dsimp only;infer_instance
instance (a1) (a) (s):Mi (EL a1 a s):=by delta EL;infer_instance
instance (self) [∀ a b,Mi (self a b)] (a0) (a1):Mi (Dd self a0 a1):=by delta Dd;infer_instance
instance LS:∀ (n:Nat) (y0) (y1),Mi (Db n y0 y1)
 | 0,_,_=>⟨none,fun _ h=>by cases h⟩
 | n+1,y0,y1=>by
  haveI:=LS n
  show Mi (Dd (Db n) y0 y1)
  infer_instance
instance (y0) (y1):Mi (Gp y0 y1):=by delta Gp;infer_instance
instance (a):Mi (FQ a):=by delta FQ;infer_instance
instance (a2) (a) (s):Mi (Fq a2 a s):=by obtain⟨c,b⟩:=s;delta Fq;dsimp only;infer_instance
instance (a2) (a) (s):Mi (HD a2 a s):=by delta HD;infer_instance
instance (a0) (a1) (a2):Mi (FF a0 a1 a2):=by delta FF;infer_instance
instance (a0):Mi (Fe a0):=by delta Fe;infer_instance
instance (a0):Mi (CR a0):=by delta CR;infer_instance
instance (a):Mi (FL a):=by delta FL;infer_instance
instance (a0) (s):Mi (Ff a0 s):=by obtain⟨c,a,b⟩:=s;delta Ff;dsimp only;infer_instance
instance (a0) (s):Mi (HB a0 s):=by delta HB;infer_instance
instance (a0):Mi (Hg a0):=by delta Hg;infer_instance
instance (a0):Mi (DI a0):=by delta DI;infer_instance
instance (a0) (a1) (a2):Mi (FM a0 a1 a2):=by delta FM;infer_instance
instance (a0):Mi (FR a0):=by delta FR;infer_instance
instance (a0) (a1) (a2) (a3):Mi (Fs a0 a1 a2 a3):=by delta Fs;infer_instance
instance (a0) (a1) (a2) (a3) (a4):Mi (ET a0 a1 a2 a3 a4):=by delta ET;infer_instance
instance (a0):Mi (DJ a0):=by delta DJ;infer_instance
instance (a0) (a) (b):Mi (Gh a0 a b):=by delta Gh;infer_instance
instance (a0) (a) (b) (s):Mi (FJ a0 a b s):=by delta FJ;infer_instance
instance (a0) (a) (b) (s):Mi (Ib a0 a b s):=by delta Ib;infer_instance
instance (_self) (a0):Mi (Gi _self a0):=by delta Gi;infer_instance
instance Qb:∀ (n:Nat) (y0),Mi (GJ n y0)
 | 0,_=>⟨none,fun _ h=>by cases h⟩
 | n+1,y0=>by
  haveI:=Qb n
  show Mi (Gi (GJ n) y0)
  infer_instance
instance (y0):Mi (J4 y0):=by delta J4;infer_instance
instance (a) (b):Mi (FK a b):=by delta FK;infer_instance
instance (a0) (a1) (b) (self) [∀ c d,Mi (self c d)] (s):Mi (Fb a0 a1 b self s):=by obtain⟨e,a⟩:=s;delta Fb;dsimp only;infer_instance
instance (a0) (a1) (a) (self) [∀ b c,Mi (self b c)] (s):Mi (HA a0 a1 a self s):=by delta HA;infer_instance
instance (a0) (a1) (self) [∀ b c,Mi (self b c)] (a):Mi (DY a0 a1 self a):=by delta DY;infer_instance
instance (self) [∀ a b,Mi (self a b)] (a0) (a1):Mi (FC self a0 a1):=by delta FC;repeat' first | (show Mi _;infer_instance) | refine @iB _ _ _ _ ?_ (fun _=>?_) | refine @iC _ _ _ _ ?_ | refine @iI _ _ _ _ _ ?_ ?_
instance Pu:∀ (n:Nat) (y0) (y1),Mi (FV n y0 y1)
 | 0,_,_=>⟨none,fun _ h=>by cases h⟩
 | n+1,y0,y1=>by
  haveI:=Pu n
  show Mi (FC (FV n) y0 y1)
  infer_instance
instance (y0) (y1):Mi (Kd y0 y1):=by delta Kd;infer_instance
instance (a0):Mi (Ke a0):=by delta Ke;infer_instance
instance (a0) (a1):Mi (GA a0 a1):=by delta GA;infer_instance
instance:Mi (IE):=by delta IE;infer_instance
instance (a0) (a1) (s):Mi (GB a0 a1 s):=by delta GB;infer_instance
instance (a0) (a1) (s):Mi (Ka a0 a1 s):=by delta Ka;infer_instance
instance (a0) (a1):Mi (JN a0 a1):=by delta JN;infer_instance
instance:Mi (DQ):=by delta DQ;infer_instance
instance (a0) (a1) (self) [∀ a b,Mi (self a b)] (s):Mi (CH a0 a1 self s):=by delta CH;infer_instance
instance (a0) (a1) (self) [∀ a b,Mi (self a b)] (s):Mi (Hk a0 a1 self s):=by delta Hk;infer_instance
instance (a0) (a1) (self) [∀ a b,Mi (self a b)]:Mi (Fm a0 a1 self):=by delta Fm;infer_instance
instance (self) [∀ a b,Mi (self a b)] (a0) (a1):Mi (Df self a0 a1):=by delta Df;infer_instance
instance OK:∀ (n:Nat) (y0) (y1),Mi (Ef n y0 y1)
 | 0,_,_=>⟨none,fun _ h=>by cases h⟩
 | n+1,y0,y1=>by
  haveI:=OK n
  show Mi (Df (Ef n) y0 y1)
  infer_instance
instance (y0) (y1):Mi (GN y0 y1):=by delta GN;infer_instance
instance:Mi (K9):=by delta K9;infer_instance
instance (a0) (a1) (s):Mi (JZ a0 a1 s):=by delta JZ;infer_instance
instance (a0) (a1) (s):Mi (M5 a0 a1 s):=by delta M5;infer_instance
instance (a0) (a1):Mi (NW a0 a1):=by delta NW;infer_instance
instance (a0) (a1):Mi (IM a0 a1):=by delta IM;infer_instance
instance (a):Mi (Eo a):=by delta Eo;infer_instance
instance:Mi (JV):=by delta JV;repeat' first | (show Mi _;infer_instance) | refine @iB _ _ _ _ ?_ (fun _=>?_) | refine @iC _ _ _ _ ?_ | refine @iI _ _ _ _ _ ?_ ?_
theorem Te:JV=some true:=(inferInstance:Mi JV).h true (by kernel_rfl)
end
end Go.Proofs.YtekmbcbgknmhiaaGreatDoor
end
noncomputable section
namespace Go.Proofs.YtekmbcbgknmhiaaGreatDoor
open Go Go.E Go.RowKit Go.L
set_option maxHeartbeats 1000000
set_option maxRecDepth 10000
open _root_.Go.Proofs.Tryz
def BX(a0:Go.L.Qv)(a:AaK×(Int×Int))(c:(Int×Int))(b:Bool):Option (Bool):=
 if b then Option.bind (JV) (fun g=>if g then if a.2.1=c.1∧a.2.2=c.2 then Option.bind (CV a0) (fun d=>if d.1=c.1∧d.2=c.2 then some (decide (a.1=([]:AaK))) else some (false)) else some (false) else some (false)) else Option.bind (Gn a.1) (fun e=>Option.bind (GO a0) (fun h=>if a.1=h then if e.2.1=(0:Int) then Option.bind (GN e.1 a0) (fun f=>some (f)) else some (false) else some (false)))
def Ft(a0:Go.L.Qv):Option (Bool):=
 Option.bind (DP a0) (fun b=>Option.bind (IY a0) (fun a=>Option.bind (JV) (fun d=>if !d then(BX a0 b a) true else if b.2.1=a.1∧b.2.2=a.2 then Option.bind (CV a0) (fun c=>if c.1=a.1∧c.2=a.2 then(BX a0 b a) (!decide (a.1=(0:Int))) else(BX a0 b a) true) else(BX a0 b a) true)))
theorem JW(w:World)(H:PH)(hH:Le H (hp w))(hU:D9 H){a0:Go.L.Qv}{ad:Value}{ae:Value}{af:Value}(y:AI .st H ad (a0.f.2.1))(z:AI .byte H ae (a0.f.2.2.2.1))(aa:AI .Bc H af (a0.f.2.2.2.2.2.2)){r:Bool}(h:Ft a0=some r):
  Ok Tryz.prog 3 [.agg #[No a0.f.1,ad,AaJ a0.f.2.2.1,ae,No a0.f.2.2.2.2.1,No a0.f.2.2.2.2.2.1,af]] w (fun v w'=>Ext w w'∧v=.bool r):=by
 refine A4 (n:=68) [(0,.agg #[No a0.f.1,ad,AaJ a0.f.2.2.1,ae,No a0.f.2.2.2.2.1,No a0.f.2.2.2.2.2.1,af])] func3 rfl rfl rfl rfl rfl ?_;have hL:=AO.start w;refine Ak<|CK (t:=26) rfl rfl rfl hL fun w1 b1 ao co _=>AA 1 rfl<|Ak<|Ae (AE 0 rfl AbP rfl Bh ao rfl) rfl ?_;refine Ax h fun x2 b5 h=>?_;refine AF rfl rfl ao (Hv (a0:=a0) _ _ (As hH ao) (hU.mono (Ah hH)) (y.mono (Ah hH)) (z.mono (Ah hH)) (aa.mono (Ah hH)) b5) fun w3 cz b6 cp=>Aq 3 rfl<|AG AR rfl rfl b6 fun w4 b4 b9 cq _=>Aq 1 rfl<|Aj 0 rfl rfl rfl AR b9 rfl rfl (AH rfl (AH rfl Cj)) fun w5 ap cr=>Ac<|Ak<|Ae (AE 1 rfl AbP rfl Bh ap rfl) rfl ?_;refine Ax h fun x6 ca h=>?_;refine AF rfl rfl ap (OI (a0:=a0) _ _ (As hH ap) (y.mono (Ah hH)) (z.mono (Ah hH)) (aa.mono (Ah hH)) ca) fun w7 c0 cb cs=>AG AR rfl rfl cb fun w8 b8 cd ct _=>Aj 0 rfl rfl rfl AR cd rfl rfl (AH rfl (AH rfl Cj)) fun w9 ce cu=>Ac<|A7 ?_
 refine Bn (σ:=Bool) (fun o=>[(1,(AaH b1)),(3,(AaJ x2.1)),(4,(AaH b4)),(5,(AaH b8)),(32,.bool o)]) (fun o wr=>AO w [.box b8 [No x6.1,No x6.2] 28,.box b4 [No x2.2.1,No x2.2.2] 28,.box b1 [No a0.f.1,ad,AaJ a0.f.2.2.1,ae,No a0.f.2.2.2.2.1,No a0.f.2.2.2.2.2.1,af] 26] wr∧(BX a0 x2 x6) o=some r) ?_ ?_
 ·refine Nl (.q 0 (.q 1 (.q 2 (.q 3 (.q 4 (.q 5 (.q 6 (.q 7 (.q 8 (.q 9 (.q 10 (.q 11 (.q 12 (.q 13 (.q 14 (.q 15 (.q 16 (.q 17 (.tail 18))))))))))))))))))) mixed (by kernel_rfl) (fun cf a6=>?_);have a:=ce.call a6;refine Ax h fun c1 a7 h=>?_;refine EI rfl rfl rfl (fun c2 a8=>Ps _ _ (Le.refl _) (hU.mono (hH.trans (a.call a8).arg)) a7)<|CD 2 rfl<|Js (s:=17) rfl (fun e=>?_) (fun e=>?_)
  ·have h:=G5 e h
   iterate 3 refine LV rfl rfl rfl rfl e rfl ?_
   refine BH (A1 rfl e rfl) rfl rfl<|CD 1 rfl ?_
   iterate 4 refine LV rfl rfl rfl rfl rfl rfl ?_
   refine BH (A1 rfl rfl rfl) rfl rfl<|CD 1 rfl ?_
   iterate 3 refine LV rfl rfl rfl rfl rfl rfl ?_
   refine BH (A1 rfl rfl rfl) rfl rfl<|BQ (fun c3 a9=>?_);have ba:=a.call a9;refine AL<|A6 true (Sub.of rfl) ⟨ba,h⟩
  have h:=G6 e h;refine GP (AE 1 rfl Abs rfl AR a rfl) rfl rfl rfl rfl e rfl<|GP (AE 0 rfl Abs rfl AR a rfl) rfl rfl rfl rfl e rfl<|GP (JG rfl rfl I6 (Lp _ _ _ _)) rfl rfl rfl rfl e rfl<|BH (A3 rfl e rfl) rfl rfl<|CD 1 rfl<|Js (s:=22) rfl (fun c=>?_) (fun c=>?_)
  ·have h:=BP (CE c) h
   iterate 4 refine LV rfl rfl rfl rfl c rfl ?_
   refine BH (A1 rfl c rfl) rfl rfl<|CD 1 rfl ?_
   iterate 3 refine LV rfl rfl rfl rfl rfl rfl ?_
   refine BH (A1 rfl rfl rfl) rfl rfl<|BQ (fun c4 bb=>?_);have bc:=a.call bb;refine AL<|A6 true (Sub.of rfl) ⟨bc,h⟩
  have h:=BO (CF c) h;refine GP (AE 2 rfl AbP rfl Bh a rfl) rfl rfl rfl rfl c rfl ?_;refine Ax h fun c5 bd h=>?_;have ax:=(fun(a4:World) (ag:Ext cf a4)=>FD a4 _ (Le.refl _) (hU.mono (hH.trans (a.call ag).arg)) ((y.mono (hH.trans a.arg)).mono ag.le) ((z.mono (hH.trans a.arg)).mono ag.le) ((aa.mono (hH.trans a.arg)).mono ag.le) bd);refine Tj rfl rfl rfl rfl c rfl rfl ax<|GP (AE 0 rfl Abs rfl AR a rfl) rfl rfl rfl rfl c rfl<|GP (JG rfl rfl I6 (Lp _ _ _ _)) rfl rfl rfl rfl c rfl<|BH (A3 rfl c rfl) rfl rfl<|CD 1 rfl<|Js (s:=28) rfl (fun g=>?_) (fun g=>?_)
  ·have h:=BP (CE g) h
   iterate 3 refine LV rfl rfl rfl rfl g rfl ?_
   refine BH (A1 rfl g rfl) rfl rfl<|BQ (fun c6 be=>?_);have bf:=a.call be;refine AL<|A6 true (Sub.of rfl) ⟨bf,h⟩
  have h:=BO (CF g) h;refine GP (Af rfl Abs rfl Cc (by decide)) rfl rfl rfl rfl g rfl<|GP (Ag 0 rfl AaT rfl a rfl rfl) rfl rfl rfl rfl g rfl<|GP (Ad rfl) rfl rfl rfl rfl g rfl<|BH (A3 rfl g rfl) rfl rfl<|BQ (fun c7 bg=>?_);have bh:=a.call bg;refine AL<|A6 (!decide (x6.1=(0:Int))) (Sub.of rfl) ⟨bh,h⟩
 rintro o cv ⟨ab,h⟩;refine Bl rfl h (fun bi h=>?_) (fun bi h=>?_)
 ·refine EH (.q 0 (.q 1 (.q 2 (.q 3 (.q 4 (.q 5 (.q 6 (.q 7 (.q 8 (.q 9 (.q 10 (.q 11 (.q 12 (.q 13 (.q 14 (.q 15 (.q 16 (.tail 17)))))))))))))))))) mixed (by kernel_rfl) (fun cg bj=>?_);have b:=ab.call bj;refine Ax h fun c8 bk h=>?_;refine EI rfl rfl rfl (fun c9 bl=>Ps _ _ (Le.refl _) (hU.mono (hH.trans (b.call bl).arg)) bk)<|CD 1 rfl<|Js (s:=34) rfl (fun i=>?_) (fun i=>?_)
  ·have h:=G5 i h;refine GP (AE 1 rfl Abs rfl AR b rfl) rfl rfl rfl rfl i rfl<|GP (AE 0 rfl Abs rfl AR b rfl) rfl rfl rfl rfl i rfl<|GP (VT rfl rfl I6 (Lp _ _ _ _)) rfl rfl rfl rfl i rfl<|BH (A1 rfl i rfl) rfl rfl<|CD 1 rfl<|Js (s:=39) rfl (fun d=>?_) (fun d=>?_)
   ·have h:=BO (of_decide_eq_true d) h;refine GP (AE 2 rfl AbP rfl Bh b rfl) rfl rfl rfl rfl d rfl ?_;refine Ax h fun da bm h=>?_;have ay:=(fun(a5:World) (ah:Ext cg a5)=>FD a5 _ (Le.refl _) (hU.mono (hH.trans (b.call ah).arg)) ((y.mono (hH.trans b.arg)).mono ah.le) ((z.mono (hH.trans b.arg)).mono ah.le) ((aa.mono (hH.trans b.arg)).mono ah.le) bm);refine Tj rfl rfl rfl rfl d rfl rfl ay<|GP (AE 0 rfl Abs rfl AR b rfl) rfl rfl rfl rfl d rfl<|GP (VT rfl rfl I6 (Lp _ _ _ _)) rfl rfl rfl rfl d rfl<|BH (A1 rfl d rfl) rfl rfl<|CD 1 rfl<|Js (s:=45) rfl (fun l=>?_) (fun l=>?_)
    ·have h:=BO (of_decide_eq_true l) h;refine GP (Ad rfl) rfl rfl rfl rfl l rfl<|GP (KN rfl rfl) rfl rfl rfl rfl l rfl<|BH (A1 rfl l rfl) rfl rfl<|CD 1 rfl<|BQ (fun db bn=>?_);have bo:=b.call bn;refine Ac<|Ay<|Av ?_
     cases h
     refine Am rfl rfl ?_;exact⟨bo.ext,rfl⟩
    have h:=BP (of_decide_eq_false l) h
    iterate 2 refine LV rfl rfl rfl rfl l rfl ?_
    refine BH (A3 rfl l rfl) rfl rfl<|CD 1 rfl<|BQ (fun dc bp=>?_);have bq:=b.call bp;refine Ac<|Ay<|Av ?_
    cases h
    refine Am rfl rfl ?_;exact⟨bq.ext,rfl⟩
   have h:=BP (of_decide_eq_false d) h
   iterate 4 refine LV rfl rfl rfl rfl d rfl ?_
   refine BH (A3 rfl d rfl) rfl rfl<|CD 1 rfl ?_
   iterate 2 refine LV rfl rfl rfl rfl rfl rfl ?_
   refine BH (A3 rfl rfl rfl) rfl rfl<|CD 1 rfl<|BQ (fun dd br=>?_);have bs:=b.call br;refine Ac<|Ay<|Av ?_
   cases h
   refine Am rfl rfl ?_;exact⟨bs.ext,rfl⟩
  have h:=G6 i h
  iterate 3 refine LV rfl rfl rfl rfl i rfl ?_
  refine BH (A3 rfl i rfl) rfl rfl<|CD 1 rfl ?_
  iterate 4 refine LV rfl rfl rfl rfl rfl rfl ?_
  refine BH (A3 rfl rfl rfl) rfl rfl<|CD 1 rfl ?_
  iterate 2 refine LV rfl rfl rfl rfl rfl rfl ?_
  refine BH (A3 rfl rfl rfl) rfl rfl<|CD 1 rfl<|BQ (fun de bt=>?_);have bu:=b.call bt;refine Ac<|Ay<|Av ?_
  cases h
  refine Am rfl rfl ?_;exact⟨bu.ext,rfl⟩
 refine Au<|Ao<|Bk 1 rfl ?_;refine Ax h fun ch bv h=>?_;refine Bs rfl rfl ab (K0 _ _ (As hH ab) (hU.mono (Ah hH)) bv) ?_;rintro _ df ⟨cj,ck,cl,rfl,aq,ar,au⟩ an bw cm;have p:=aq.mono (Dv hH ab an);have u:=ar.mono (Dv hH ab an);have x:=au.mono (Dv hH ab an);refine Aq 3 rfl<|AG Bh rfl rfl bw fun dg dh bx ai _=>AG AR rfl rfl bx fun di dj bz aj _=>Aj 1 rfl rfl rfl Bh bz rfl rfl (AH rfl (AH p.one (AH rfl (AH u.one (AH rfl (AH rfl (AH x.one Cj))))))) fun dk b0 ak=>Aj 0 rfl rfl rfl AR b0 rfl rfl (AH rfl (AH rfl Cj)) fun dl al am=>Ac ?_;have ac:=al.rG H;refine Bk 1 rfl<|Ae (AE 4 rfl AbP rfl Bh al rfl) rfl ?_;refine Ax h fun dm b2 h=>?_;refine AF rfl rfl al (LD (a0:=a0) _ _ (As hH al) (y.mono (Ah hH)) (z.mono (Ah hH)) (aa.mono (Ah hH)) b2) fun dn cw m az=>Ae (KN rfl rfl) rfl<|Aq 1 rfl<|AQ (s:=58) rfl (fun j=>?_) (fun j=>?_)
 ·have h:=BO (of_decide_eq_true j) h;refine Aa rfl rfl j<|Ae (Af rfl Abs rfl Cc (by decide)) rfl<|Aa rfl rfl j<|Ae (Ag 0 rfl AaT rfl m rfl rfl) rfl<|Aa rfl rfl j<|Ae (Ad rfl) rfl<|Ae (A1 rfl j rfl) rfl<|Aq 1 rfl<|AQ (s:=63) rfl (fun k=>?_) (fun k=>?_)
  ·have h:=BO (of_decide_eq_true k) h;refine Aa rfl rfl k<|Ae (AE 1 rfl AbP rfl Bh m rfl) rfl<|Aa rfl rfl k<|Ae (AE 4 rfl AbP rfl Bh m rfl) rfl<|Aa rfl rfl k ?_;refine Ax h fun cx a2 h=>?_;have p:=p.mono (Ab hH (ai.trans (aj.trans (ak.trans am))));have u:=u.mono (Ab hH (ai.trans (aj.trans (ak.trans am))));have x:=x.mono (Ab hH (ai.trans (aj.trans (ak.trans am))));have ac:=ac.trans (Ab hH az);refine AF rfl rfl m (LC (a0:=ch.1) (a1:=a0) _ _ (As hH m) (p.mono ac) (u.mono ac) (x.mono ac) (y.mono (Ah hH)) (z.mono (Ah hH)) (aa.mono (Ah hH)) a2) fun cy cn a3 ci=>Ae (A1 rfl k rfl) rfl<|AA 1 rfl<|Ay ?_
   cases h
   refine Am rfl rfl ?_;exact⟨a3.ext,rfl⟩
  have h:=BP (of_decide_eq_false k) h
  iterate 3 refine Ai rfl rfl k rfl ?_
  refine Ae (A3 rfl k rfl) rfl<|AA 1 rfl<|Ay ?_
  cases h
  refine Am rfl rfl ?_;exact⟨m.ext,rfl⟩
 have h:=BP (of_decide_eq_false j) h
 iterate 3 refine Ai rfl rfl j rfl ?_
 refine Ae (A3 rfl j rfl) rfl<|Aq 1 rfl ?_
 iterate 3 refine Ai rfl rfl rfl rfl ?_
 refine Ae (A3 rfl rfl rfl) rfl<|AA 1 rfl<|Ay ?_
 cases h
 refine Am rfl rfl ?_;exact⟨m.ext,rfl⟩
end Go.Proofs.YtekmbcbgknmhiaaGreatDoor
end
noncomputable section
namespace Go.Proofs.YtekmbcbgknmhiaaGreatDoor
open Go Go.L
theorem X3{q:Qv}(hq:Sq q):Ft q=some true:=by
 unfold Ft;rw [RR hq,Option.bind_some,S2 hq,Option.bind_some,Te];simp only [Option.bind_some,Bool.not_true,Bool.false_eq_true,if_false,and_self,if_true];rw [Qq hq];simp only [Option.bind_some,and_self,if_true];unfold BX
 by_cases h:(Wy q).1=0
 ·obtain⟨hv,_,hl,_⟩:=VB h;have hp:acc (W0 (PU Sg 201)) (tx 8 q)=some q:=Zi (X0 hq hv (by omega)) h;rw [decide_eq_true h,if_pos h];simp only [Bool.not_true,Bool.false_eq_true,if_false];rw [Zk hl,hp,Option.bind_some,TT hq h,Option.bind_some,if_pos rfl,if_pos rfl,AbI hq hv.dp (by omega)]
  rfl
 ·rw [decide_eq_false h,if_neg h,Te,Qq hq];simp
end Go.Proofs.YtekmbcbgknmhiaaGreatDoor
end
noncomputable section
namespace Go.E
open Go Go.RowKit Go.ChangeShapes Go.WideShapes
section
variable {H:Type} {enc:TypeId×Value→H} {P:Program} {w:World} {base:Nat} {spare:Nat→Bool} {held:Bool}
theorem wf_u8{n:Int}(h:(Lit.int .u8 n).wf=true):0≤n∧n≤255:=by
 simpa [Lit.wf,IntKind.min,IntKind.max,IntKind.signed,IntKind.bits] using h
theorem wf_i64{n:Int}(h:(Lit.int .i64 n).wf=true): -9223372036854775808≤n∧n≤9223372036854775807:=by
 simpa [Lit.wf,IntKind.min,IntKind.max,IntKind.signed,IntKind.bits] using h
theorem O3(hl:laidOutB P=true){W W':World}(hb:Below W.heap.size W W'):∀ {ts:List TypeId} {vs:List Value} {ds:List (DataW H)} {ps:List MemPlace},(∀ t∈ts,P.readableRec t=true∧t<P.types.size)→
  DataW.TrodAll enc P W 0 (fun _=>true) true ts vs ds ps→(∀ x∈ps,x.block<W.heap.size)→DataW.TrodAll enc P W' 0 (fun b=>decide (b<W.heap.size)) true ts vs ds ps
 | [],[],[],ps,_,h,_=>h
 | t::ts,v::vs,d::ds,ps,ht,h,hlt=>by
  obtain⟨p,q,c,h2,rfl⟩:=h;have a:=ht t (.head _);exact⟨p,q,Below.trod hl a.1 a.2 c hb (fun x hx=>hlt x (List.mem_append.2 (.inl hx))),O3 hl hb (fun t' h'=>ht t' (.tail _ h')) h2 (fun x hx=>hlt x (List.mem_append.2 (.inr hx))),rfl⟩
 | [],[],_::_,_,_,h,_=>by cases h
 | [],_::_,_,_,_,h,_=>by cases h
 | _::_,[],_,_,_,h,_=>by cases h
 | _::_,_::_,[],_,_,h,_=>by cases h
end
end Go.E
namespace Go.E
open Go Go.RowKit Go.ChangeShapes Go.WideShapes Go.Deep
def Reads(P:Program)(t:TypeId){α:Type}(r:Rp α)(ok:α→Prop):Prop:=
 ∀
  {H:Type} {enc:TypeId×Value→H} {w:World} {base:Nat} {spare:Nat→Bool} {held:Bool} {fuel:Nat} {cs:List Value} {x:DataW H×List MemPlace},
  DataW.trod enc P w base spare held fuel t cs=some x→∃ a,r.rel (hp w) a cs∧ok a
section
variable {P:Program} {t e:TypeId}
theorem Qc(ht:P.underlying t=some (.int .i64)):Reads P t (.int .i64) (fun n=>Go.L.BL n):=fun h=>by
 obtain⟨n,rfl,_,hw⟩:=DataW.trod_int ht h;exact⟨n,rfl,wf_i64 hw⟩
theorem VI(ht:P.underlying t=some (.int .u8)):Reads P t .byte (fun _=>True):=fun h=>by
 obtain⟨n,rfl,_,hw⟩:=DataW.trod_int ht h;have hw':=wf_u8 hw;refine⟨Go.L.u8 n,?_,trivial⟩
 show[_]=[_]
 rw [Go.L.Rj,Int.emod_eq_of_lt (by omega) (by omega)]
end
end Go.E
end
noncomputable section
namespace Go.Proofs.YtekmbcbgknmhiaaGreatDoor.Tf
open Go Go.E
theorem one_le{H:Type}(d:DataW H):1≤Rows.uptoBulk d:=by
 cases d with
 | lit l=>cases l <;> simp [Rows.uptoBulk]
 | nil=>simp [Rows.uptoBulk]
 | ptr d=>simp [Rows.uptoBulk]
 | slice elems spare=>simp [Rows.uptoBulk]
 | agg parts=>simp [Rows.uptoBulk]
 | iface t d=>simp [Rows.uptoBulk]
 | map entries=>simp [Rows.uptoBulk]
 | held h=>simp [Rows.uptoBulk]
theorem length_le{H:Type}(l:List (DataW H)):l.length≤Rows.uptoBulkAll l:=by
 induction l with
 | nil=>simp [Rows.uptoBulkAll]
 | cons x r ih=>have:=one_le x;simp only [Rows.uptoBulkAll,List.length_cons];omega
theorem bound{H:Type}{l:List (DataW H)}(hk:Rows.uptoSmall H l=true):Rows.uptoBulkAll l≤1048576:=of_decide_eq_true hk
end Go.Proofs.YtekmbcbgknmhiaaGreatDoor.Tf
namespace Go.Proofs.YtekmbcbgknmhiaaGreatDoor.Tf
open Go Go.E Go.RowKit Go.ChangeShapes Go.WideShapes Go.Deep Go.L
theorem W6{H:Type}{l:List (DataW H)}{x:DataW H}(h:x∈l):Rows.uptoBulk x≤Rows.uptoBulkAll l:=by
 induction l with
 | nil=>cases h
 | cons y l ih=>
  simp only [Rows.uptoBulkAll]
  rcases List.mem_cons.1 h with rfl | h
  ·omega
  ·have:=ih h;omega
def RB(P:Program)(t:TypeId){α:Type}(r:Rp α)(ok:α→Prop)(k:Nat):Prop:=
 ∀
  {H:Type} {enc:TypeId×Value→H} {w:World} {base:Nat} {spare:Nat→Bool} {held:Bool} {fuel:Nat} {cs:List Value} {x:DataW H×List MemPlace},
  Rows.uptoBulk x.1≤k→DataW.trod enc P w base spare held fuel t cs=some x→∃ a,r.rel (hp w) a cs∧ok a
section
variable {P:Program} {t e:TypeId} {k:Nat}
theorem RB.use{α:Type}{r:Rp α}{ok:α→Prop}(h:RB P t r ok k){H:Type}{enc:TypeId×Value→H}{w:World}{base:Nat}{spare:Nat→Bool}{held:Bool}{fuel:Nat}{cs:List Value}{d:DataW H}{p:List MemPlace}
  (hk:Rows.uptoBulk d≤k) (hx:DataW.trod enc P w base spare held fuel t cs=some (d,p)):∃ a,r.rel (hp w) a cs∧ok a:=@h H enc w base spare held fuel cs (d,p) hk hx
theorem W7{α:Type}{r:Rp α}{ok:α→Prop}(h:Reads P t r ok):RB P t r ok k:=fun _ hx=>h hx
theorem Zp(ht:P.underlying t=some .string):RB P t .st (fun l=>l.length≤k) k:=fun hk h=>by
 obtain⟨s,rfl,rfl,hs⟩:=DataW.trod_string ht h;simp only [Rows.uptoBulk] at hk;exact⟨s.data.toList,by show[_]=[_];simp,by omega⟩
theorem Se{α:Type}{r:Rp α}{ok:α→Prop}(ht:P.underlying t=some (.slice e))(hc:P.cellsOf e=r.sz)(hsz:0<r.sz)(hr:RB P e r ok k):RB P t (.vec r) (fun l=>l.length≤k∧∀ x∈l,ok x) k:=fun {H enc w base spare held fuel cs x} hk h=>by
 rcases open_slice ht h with ⟨rfl,_⟩ | ⟨a,len,cap,m,n,D,Pl,rfl,hb,hl,hm,rfl,rfl,hel⟩
 ·exact⟨[],⟨_,rfl,AI.nil _ _⟩,by simp,by simp⟩
 ·have s:len≤(if spare a.block then cap else len):=by split <;> omega
  simp only [Rows.uptoBulk] at hk;have hlk:=length_le ((List.range len).map D);rw [List.length_map,List.length_range] at hlk
  have hx:∀ i,i<len→∃ y,ok y∧∃ c,r.rel (hp w) y c∧w.cells? base (a.add (i * r.sz)) r.sz=some c:=fun i hi=>by
   obtain⟨cs',g,h2⟩:=hel i (by omega);have hDi:=W6 (List.mem_map_of_mem (f:=D) (List.mem_range.2 hi));obtain⟨y,h3,b⟩:=hr (x:=(D i,Pl i)) (by show Rows.uptoBulk (D i)≤k;omega) h2;rw [hc] at g;exact⟨y,b,cs',h3,g⟩
  have key:∀ k,k≤len→∃ l:List α,l.length=k∧(∀ x∈l,ok x)∧∀ i y,l[i]? = some y→∃ c,r.rel (hp w) y c∧w.cells? base (a.add (i * r.sz)) r.sz=some c:=by
   intro k
   induction k with
   | zero=>intro _;exact⟨[],rfl,by simp,by simp⟩
   | succ k ih=>
    intro hk;obtain⟨l,g,h2,h3⟩:=ih (by omega);obtain⟨y,b,c,d,q⟩:=hx k (by omega);refine⟨l++[y],by simp [g],fun z hz=>?_,fun i z hz=>?_⟩
    ·rcases List.mem_append.1 hz with hz | hz
     ·exact h2 z hz
     ·simp at hz;subst hz;exact b
    ·rcases Nat.lt_or_ge i l.length with hi | hi
     ·rw [List.getElem?_append_left hi] at hz;exact h3 i z hz
     ·rw [List.getElem?_append_right hi] at hz
      have o:i - l.length=0:=by
       have:=(List.getElem?_eq_some_iff.1 hz).1;simp at this;omega
      rw [o] at hz;simp at hz;subst hz;obtain rfl:i=k:=by omega
      exact⟨c,d,q⟩
  obtain⟨l,g,h2,h3⟩:=key len (Nat.le_refl _);refine⟨l,⟨_,rfl,some a,cap,by rw [g],by omega,hm,(fun h=>by cases h),fun A hA hne=>?_⟩,by omega,h2⟩
  cases hA
  have cell:∀ i y,l[i]? = some y→∃ c,r.rel (hp w) y c∧∀ j u,c[j]? = some u→w.cell? ((a.add (i * r.sz)).add j)=some u:=fun i y hy=>by
   obtain⟨c,b,d⟩:=h3 i y hy;obtain⟨_,hlen,hcell⟩:=World.cells?_some d;exact⟨c,b,fun j u hu=>by rw [← hu];exact hcell j (by rw [← hlen];exact(List.getElem?_eq_some_iff.1 hu).1)⟩
  have hspot:a.spot=none:=by
   obtain⟨y,l',rfl⟩:=List.exists_cons_of_ne_nil hne;obtain⟨c,b,d⟩:=cell 0 y rfl;have p:0<c.length:=by rw [r.len b];omega
   have:=World.cell?_spot (d 0 _ (List.getElem?_eq_getElem p))
   simpa [Addr.add] using this
  refine⟨hspot,fun i y hy=>?_⟩;obtain⟨c,b,d⟩:=cell i y hy;refine⟨c,b,fun j u hu=>?_⟩;rw [← Jt hspot];exact d j u hu
theorem Zq{f0 f1 f2 f3 f4 f5 f6:Field}{tw tb tp te tg:TypeId}(ht:P.underlying t=some (.struct #[f0,f1,f2,f3,f4,f5,f6]))(hc:P.cellsOf t=7)
  (b:f0.offset=0) (c:f1.offset=1) (e:f2.offset=2) (g:f3.offset=3) (j:f4.offset=4) (l:f5.offset=5) (m:f6.offset=6)
  (o:P.underlying f0.type=some (.int .i64)) (q:f1.type=tw) (s:P.underlying f2.type=some .string) (u:f3.type=tb) (u4:P.underlying f4.type=some (.int .i64)) (u5:P.underlying f5.type=some (.int .i64)) (e6:f6.type=tp)
  (c0:P.cellsOf f0.type=1) (c1:P.cellsOf tw=1) (c2:P.cellsOf f2.type=1) (c3:P.cellsOf tb=1) (c4:P.cellsOf f4.type=1) (c5:P.cellsOf f5.type=1) (c6:P.cellsOf tp=1)
  (uw:P.underlying tw=some (.slice tg)) (ug:P.underlying tg=some .string) (cg:P.cellsOf tg=1) (ub:P.underlying tb=some (.slice te)) (ue:P.underlying te=some (.int .u8)) (ce:P.cellsOf te=1) (up:P.underlying tp=some (.slice t)) (B:Nat) (k:Nat) (hB:k≤B):RB P t .Bc (fun v=>∀ d,Smq B d v) k:=by
 induction k with
 | zero=>
  intro H enc w base spare held fuel cs x hk h;have:=one_le x.1;omega
 | succ k ih0=>
  intro H enc w base spare held fuel cs x hk h;subst q;subst u;subst e6;obtain⟨xs,n,rfl,rfl,hl,hlen,hfs⟩:=DataW.trod_struct ht h;have ih:RB P t .Bc (fun v=>∀ d,Smq B d v) k:=@ih0 (by omega);simp only [Rows.uptoBulk] at hk
  have hb:∀ y∈xs,Rows.uptoBulk y.1≤k:=fun y hy=>by
   have:=W6 (List.mem_map_of_mem (f:=fun z:DataW H×List MemPlace=>z.1) hy);omega
  have ax:xs.length=7:=by simpa using hlen
  have get:∀ (i:Nat) (f:Field),(#[f0,f1,f2,f3,f4,f5,f6]:Array Field)[i]? = some f→i<7→P.cellsOf f.type=1→f.offset=i→∃ y:DataW H×List MemPlace,Rows.uptoBulk y.1≤k∧DataW.trod enc P w base spare held n f.type ((cs.drop i).take 1)=some y:=fun i f hf hi hcf hof=>by
   have a:=hfs i f hf;rw [hcf,hof,List.getElem?_eq_getElem (by omega:i<xs.length)] at a;exact⟨_,hb _ (List.getElem_mem _),a⟩
  obtain⟨y0,b0,t0⟩:=get 0 f0 rfl (by omega) c0 b;obtain⟨y1,b1,t1⟩:=get 1 f1 rfl (by omega) c1 c;obtain⟨y2,b2,t2⟩:=get 2 f2 rfl (by omega) c2 e;obtain⟨y3,b3,t3⟩:=get 3 f3 rfl (by omega) c3 g;obtain⟨y4,b4,t4⟩:=get 4 f4 rfl (by omega) c4 j;obtain⟨y5,b5,t5⟩:=get 5 f5 rfl (by omega) c5 l;obtain⟨y6,b6,t6⟩:=get 6 f6 rfl (by omega) c6 m;obtain⟨a0,r0,_⟩:=W7 (k:=k) (Qc o) b0 t0;obtain⟨a1,r1,q1,q1'⟩:=Se uw cg (by decide) (Zp (k:=k) ug) b1 t1;obtain⟨a2,r2,q2⟩:=Zp (k:=k) s b2 t2;obtain⟨a3,r3,q3,_⟩:=Se ub ce (by decide) (W7 (k:=k) (VI ue)) b3 t3;obtain⟨a4,r4,q4⟩:=W7 (k:=k) (Qc u4) b4 t4;obtain⟨a5,r5,q5⟩:=W7 (k:=k) (Qc u5) b5 t5;obtain⟨a6,r6,q6,q6'⟩:=Se up (r:=.Bc) hc (by decide) ih b6 t6;refine⟨.mk a0 a1 a2 a3 a4 a5 a6,Rp.FZ ?_,fun d=>?_⟩
  ·have hcs:cs=(cs.drop 0).take 1++((cs.drop 1).take 1++((cs.drop 2).take 1++((cs.drop 3).take 1++((cs.drop 4).take 1++((cs.drop 5).take 1++(cs.drop 6).take 1))))):=by
    have h7:cs.length=7:=by rw [hl,hc]
    match cs,h7 with
    | [_,_,_,_,_,_,_],_=>rfl
   exact⟨_,_,hcs,r0,_,_,rfl,r1,_,_,rfl,r2,_,_,rfl,r3,_,_,rfl,r4,_,_,rfl,r5,r6⟩
  ·cases d with
   | zero=>exact trivial
   | succ d=>exact⟨by show a1.length≤B;omega,by show a2.length≤B;omega,by show a3.length≤B;omega,by show a6.length≤B;omega,fun x hx=>by have:=q1' x hx;omega,q4,q5,fun p hp=>q6' p hp d⟩
end
end Go.Proofs.YtekmbcbgknmhiaaGreatDoor.Tf
end
noncomputable section
namespace Go.Proofs.YtekmbcbgknmhiaaGreatDoor
open Go Go.E Go.Shelf Go.Lib
def Ac8:Ren:=⟨fun n=>n,fun | 119=>349 | 138=>351 | 139=>352 | n=>n,fun | 3=>4 | 4=>5 | n=>n⟩
theorem AaD:U8Types Tryz.prog Ac8:=⟨Tryz.underlying5,Tryz.underlying349,Tryz.underlying351,Tryz.underlying352⟩
def W8 : List (String × DataW Unit) := [("math/bits.deBruijn32tab", Rows.laid_math_bits_deBruijn32tab), ("math/bits.deBruijn64tab", Rows.laid_math_bits_deBruijn64tab), ("internal/strconv.uint64pow10", Rows.laid_internal_strconv_uint64pow10), ("unicode/utf8.acceptRanges", Rows.laid_unicode_utf8_acceptRanges), ("strconv.ErrRange", Rows.laid_strconv_ErrRange), ("strconv.ErrSyntax", Rows.laid_strconv_ErrSyntax), ("unicode/utf8.first", Rows.laid_unicode_utf8_first)]
theorem star : "*" ++ "errors.errorString" = "*errors.errorString" := by decide
theorem Zs (u : TypeId) (h : Tryz.prog.typeName? 3 u = some "*errors.errorString") : u = 364 :=
 typeName_ptr_named (nm := "errors.errorString") (by rw [star]; kernel_rfl) (by kernel_rfl) (by decide) u (by rw [star]; exact h)
theorem AbO{W w:World}{n:String}{cs:Array Value}(hs:Le (hp W) (hp w))(h:W.var? Tryz.prog n=some cs):w.var? Tryz.prog n=some cs:=by
 unfold World.var? at h ⊢
 cases hg:Tryz.prog.globalNamed n with
 | none=>rw [hg] at h;cases h
 | some g=>
  rw [hg] at h;simp only [Option.bind_some] at h ⊢
  cases ho:W.heap[g]? with
  | none=>rw [ho] at h;cases h
  | some o=>rw [ho] at h;rw [show w.heap[g]? = some o from hs g o ho];exact h
theorem Qs{W:World}{n:String}{g:Nat}{v:Value}(hg:Tryz.prog.globalNamed n=some g)(h:W.var? Tryz.prog n=some #[v]):Gu (hp W) ⟨g,0,none⟩=some v:=by
 rw [Uj,World.var?_cell hg h 0]
 rfl
theorem Ub{W:World}(h:laidMetH Tryz.prog W8 W):D9 (hp W):=by
 rw [MakeChecks.laidMetH_plain _ _ _ (by kernel_rfl)] at h;have i:Rows.laid_unicode_utf8_first=firstData:=by kernel_rfl
 have j:(Rows.laid_unicode_utf8_acceptRanges:DataW Unit)=acceptData:=by kernel_rfl
 have k:(Rows.laid_internal_strconv_uint64pow10:DataW Unit)=tabData .u64 pow10Tab:=by kernel_rfl
 have b := laidMet.reads h (n := "unicode/utf8.acceptRanges") (d := Rows.laid_unicode_utf8_acceptRanges) (by simp [W8])
 have h2 := laidMet.reads h (n := "unicode/utf8.first") (d := Rows.laid_unicode_utf8_first) (by simp [W8])
 rw [j] at b;rw [i] at h2;have ht := utf8Tabs_of_readsT AaD ⟨by kernel_rfl, by kernel_rfl, by kernel_rfl, by kernel_rfl, by kernel_rfl, by kernel_rfl, by kernel_rfl⟩ h2 b;have hT : laidMet Tryz.prog (("internal/strconv.uint64pow10", tabData .u64 pow10Tab) :: _) W := k ▸ h.tail.tail
 have a : TabIs Tryz.prog W "internal/strconv.uint64pow10" .u64 pow10Tab := tabIs_of_head (g := 1) (t := 305) (e := 205) (n := 20) (by kernel_rfl) (by kernel_rfl) Tryz.underlying305 Tryz.underlying205 (by kernel_rfl) (by kernel_rfl) hT
 obtain⟨a1,l,c,_⟩:=laid_sentinel (g:=3) h.tail.tail.tail.tail (by kernel_rfl) (by kernel_rfl) Tryz.underlying167 Zs Tryz.underlying364 Tryz.underlying366 rfl rfl Tryz.underlying9 (by kernel_rfl) (by kernel_rfl);obtain⟨a2,m,f,_⟩:=laid_sentinel (g:=2) h.tail.tail.tail.tail.tail (by kernel_rfl) (by kernel_rfl) Tryz.underlying167 Zs Tryz.underlying364 Tryz.underlying366 rfl rfl Tryz.underlying9 (by kernel_rfl) (by kernel_rfl);exact⟨⟨ht.1,ht.2⟩,fun w hw=>AbO hw a,⟨_,_,Qs (by kernel_rfl) f⟩,⟨_,_,Qs (by kernel_rfl) c⟩⟩
def Qd(os:Os):World:=
 let N:=(World.settled Tryz.prog os).heap.size
 let a:=World.holding Tryz.prog os ⟨#[.cells #[.string ⟨#[118,97,108,117,101,32,111,117,116,32,111,102,32,114,97,110,103,101]⟩] 366,.cells #[.string ⟨#[105,110,118,97,108,105,100,32,115,121,110,116,97,120]⟩] 366],#[],[]⟩
 let put (h:Array Obj) (g:Nat) (cs:Array Value):Array Obj:=h.modify g fun
  | .cells _ t frozen=>.cells cs t frozen
  | o=>o
 let b:=put (put a.heap 3 #[.iface 364 (.pointer (some ⟨N,0,none⟩))]) 2 #[.iface 364 (.pointer (some ⟨N+1,0,none⟩))]
 let c:=put (put b 4 (Lib.firstTab.map fun z=>Value.int .u8 z).toArray) 5 ((List.range 16).flatMap fun i=>[Value.int .u8 (Lib.accLo i),Value.int .u8 (Lib.accHi i)]).toArray
 let h2:=put c 1 (pow10Tab.map (Value.int .u64)).toArray
 let nums (d:DataW Unit):Array Value:=match d with
  | .agg l=>(l.map fun | .lit (.int k z)=>Value.int k z | _=>.int .u8 0).toArray
  | _=>#[]
 let h3:=put (put h2 6 (nums Rows.laid_math_bits_deBruijn32tab)) 7 (nums Rows.laid_math_bits_deBruijn64tab)
 {a with heap:=h3}
set_option maxRecDepth 100000 in
theorem Zt(os:Os)(args:Array Value):laidMetH Tryz.prog W8 ((Qd os).forCall (fun _ _=>0) ⟨#[],args,[]⟩).memory:=
 laidMetH_of_parts3 (fuel:=12) (laidMet_of_run' 12 (by kernel_rfl) (by kernel_rfl)) (by kernel_rfl) (by kernel_rfl)
end Go.Proofs.YtekmbcbgknmhiaaGreatDoor
end
