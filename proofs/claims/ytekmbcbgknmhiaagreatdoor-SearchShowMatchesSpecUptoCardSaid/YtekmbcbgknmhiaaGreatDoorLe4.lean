/- Texts of a claim, merged. -/
import Derived.Test.YtekmbcbgknmhiaaGreatDoorLe3
import Derived.Shelf.Strings.FuncGrows
import Derived.KernelRfl
import Derived.Maps.RangeRun
set_option linter.unusedVariables false
set_option linter.unusedSimpArgs false
open _root_.Go.Proofs.Tryz renaming underlying58→Aa8,underlying3→AaA,underlying142→AaE,underlying9→AaQ,underlying22→Ab1,underlying23→Abj,underlying205→Ac0,underlying196→AcB,underlying28→AcP,underlying64→AcQ,underlying46→AcY,underlying5→Acu,underlying94→Adc,underlying62→Ade,underlying203→Adf,underlying47→Adg,underlying49→Adh,underlying139→Adi
noncomputable section
namespace Go.L
set_option maxRecDepth 20000 in
theorem Wz{x:Int}(h:128<=x)(hx:x<=1114111)(hv:Go.Utf8.valid x=true):∃ k:Nat,(E0 x).length=k/\2<=k/\k<=4/\128<=((E0 x).getD (k - 1) default).toNat:=by
 obtain⟨c,rfl⟩:=Int.eq_ofNat_of_zero_le (show 0<=x by omega);have hm:∀ j:Nat,(128+j % 64) % 256=128+j % 64:=fun j=>Nat.mod_eq_of_lt (by omega);unfold E0 Go.Utf8.encode;simp only [hv,if_true,Int.toNat_natCast];rw [if_neg (by omega)];have e:∀ j:Nat,128<=(UInt8.ofNat (128+j % 64)).toNat:=fun j=>by rw [UInt8.toNat_ofNat',hm];omega
 have f:∀ a b:UInt8,((ByteArray.mk #[a,b]).data.toList.length=2)/\(ByteArray.mk #[a,b]).data.toList.getD (2 - 1) default=b:=fun _ _=>⟨rfl,rfl⟩;have g:∀ a b c:UInt8,((ByteArray.mk #[a,b,c]).data.toList.length=3)/\(ByteArray.mk #[a,b,c]).data.toList.getD (3 - 1) default=c:=fun _ _ _=>⟨rfl,rfl⟩;have i:∀ a b c d:UInt8,((ByteArray.mk #[a,b,c,d]).data.toList.length=4)/\(ByteArray.mk #[a,b,c,d]).data.toList.getD (4 - 1) default=d:=fun _ _ _ _=>⟨rfl,rfl⟩
 by_cases l:c<2048
 ·rw [if_pos l];refine⟨2,(f _ _).1,by omega,by omega,?_⟩;rw [(f _ _).2];exact e _
 ·rw [if_neg l]
  by_cases h2:c<65536
  ·rw [if_pos h2];refine⟨3,(g _ _ _).1,by omega,by omega,?_⟩;rw [(g _ _ _).2];exact e _
  ·rw [if_neg h2];refine⟨4,(i _ _ _ _).1,by omega,by omega,?_⟩;rw [(i _ _ _ _).2];exact e _
end Go.L
namespace Go.Proofs.YtekmbcbgknmhiaaGreatDoor
open Go Go.L
theorem UM:∀ n:Fin 128,(0<=Lib.indexByte [45,95,46] (u8 (n.val:Int))↔(n.val=45\/n.val=95\/n.val=46)):=by decide
theorem Yh:E6 [45,95,46] 0=some (-1):=by
 unfold E6;have r0:Cg [45,95,46] 0=some (.inl 1):=by rfl
 have r1:Cg [45,95,46] 1=some (.inl 2):=by rfl
 have r2:Cg [45,95,46] 2=some (.inl 3):=by rfl
 have r3:Cg [45,95,46] 3=some (.inr (-1)):=by rfl
 rw [Cu r0,Cu r1,Cu r2];exact BD (m:=some (-1)) r3
theorem W0{x:Int}(a:0<=x)(hx:x<=1114111):∃ i,Da [45,95,46] x=some i/\(0<=i↔(x=45\/x=95\/x=46)):=by
 unfold Da
 by_cases f:x<128
 ·rw [if_pos ⟨a,f⟩];have:=UM ⟨x.toNat,by omega⟩;simp only [Int.toNat_of_nonneg a] at this;exact⟨_,rfl,by rw [this];omega⟩
 ·rw [if_neg (by omega)];have hn : ¬ (x=45\/x=95\/x=46):=by omega
  by_cases h2:x=65533
  ·rw [if_pos h2,Yh];exact⟨_,rfl,by omega⟩
  ·rw [if_neg h2]
   by_cases hv:Go.Utf8.valid x=true
   ·have e:BZ x=some true:=by
     unfold BZ;simp only [Go.Utf8.valid,Bool.or_eq_true,Bool.and_eq_true,decide_eq_true_eq] at hv
     by_cases h3:0<=x/\x<55296
     ·rw [if_pos h3]
     ·rw [if_neg h3,if_pos (by omega)]
    rw [e];obtain⟨k,hk,h,j,hl⟩:=Wz (by omega) hx hv;simp only [Option.bind_some,Bool.not_true,Bool.false_eq_true,if_false,hk];rw [Ak (by unfold C0;omega)];refine⟨-1,BD ?_,by omega⟩;unfold Ea;have g:((k:Int) - 1).toNat=k - 1:=by omega
    have key:∀ (l:List UInt8) (c:UInt8),(∀ b∈l,b.toNat<128)->128<=c.toNat->Lib.indexByte l c = -1:=by
     intro l c hl hc
     induction l with
     | nil=>rfl
     | cons b l ih=>
      have hb:=hl b (.head _)
      have hne:(b==c)=false:=by
       cases hh:b==c with
       | false=>rfl
       | true=>have:=beq_iff_eq.1 hh;subst this;omega
      unfold Lib.indexByte;rw [ih (fun b hb=>hl b (.tail _ hb)),hne]
      rfl
    have d:k=2\/k=3\/k=4:=by omega
    simp only [hk,g]
    rcases d with rfl | rfl | rfl
    ·rw [if_pos (by decide),Ak (by decide),Ak (by decide),if_neg (by intro hh;have:(([45,95,46]:List UInt8).getD 1 default).toNat=95:=rfl;simp only [Nat.reduceSub] at hl hh;omega),Ak (by unfold C0;decide),Ak (by decide),Ak (by decide)];unfold Sa;rw [Option.bind_some,key _ _ (by decide) hl,if_pos (by decide)]
    ·rw [if_pos (by decide),Ak (by decide),Ak (by decide),if_neg (by intro hh;have:(([45,95,46]:List UInt8).getD 2 default).toNat=46:=rfl;simp only [Nat.reduceSub] at hl hh;omega),Ak (by unfold C0;decide),Ak (by decide),Ak (by decide)];unfold Sa;rw [Option.bind_some,key _ _ (by decide) hl,if_pos (by decide)]
    ·rw [if_neg (by decide)]
     rfl
   ·have e:BZ x=some false:=by
     unfold BZ;simp only [Go.Utf8.valid,Bool.or_eq_true,Bool.and_eq_true,decide_eq_true_eq] at hv;rw [if_neg (by omega),if_neg (by omega)]
    rw [e];exact⟨-1,rfl,by omega⟩
def SO(n:Nat):Bool:=!((decide (97<=n/\n<=122))||(decide (48<=n/\n<=57))||(decide (n=45\/n=95\/n=46)))
theorem Yi{n:Nat}(hx:n<=1114111):LS (n:Int)=some (SO n):=by
 obtain⟨i,hi,hd⟩:=W0 (x:=(n:Int)) (by omega) (by omega);have hc:E8 [45,95,46] (n:Int)=some (decide (0<=i)):=by unfold E8;rw [hi];rfl
 have hd':decide (0<=i)=decide (n=45\/n=95\/n=46):=by
  rw [Bool.eq_iff_iff,decide_eq_true_eq,decide_eq_true_eq,hd];omega
 unfold LS SO;rw [hc,hd'];simp only [Option.bind_some]
 by_cases c:(n:Int)<97\/(122:Int)<n
 ·rw [if_pos c];have a:decide (97<=n/\n<=122)=false:=decide_eq_false (by omega)
  by_cases h2:(n:Int)<48
  ·rw [if_pos h2];have b:decide (48<=n/\n<=57)=false:=decide_eq_false (by omega);rw [a,b];rfl
  ·rw [if_neg h2]
   by_cases h3:(57:Int)<n
   ·rw [if_pos h3];have b:decide (48<=n/\n<=57)=false:=decide_eq_false (by omega);rw [a,b];rfl
   ·rw [if_neg h3];have b:decide (48<=n/\n<=57)=true:=decide_eq_true (by omega);rw [a,b];rfl
 ·rw [if_neg c];have a:decide (97<=n/\n<=122)=true:=decide_eq_true (by omega);rw [a];rfl
end Go.Proofs.YtekmbcbgknmhiaaGreatDoor
end
noncomputable section
namespace Go.Proofs.YtekmbcbgknmhiaaGreatDoor
open Go Go.E Go.RowKit Go.Shelf
def QS(a:List UInt8):Option Bool:=some (decide (0<=Lib.idxFunc SO true ⟨a.toArray⟩))
theorem W2(w:World)(H:PH)(_hH:Le H (hp w)){a0:List UInt8}{r:Bool}(h:QS a0=some r):
  Ok Tryz.prog 205 [.string ⟨a0.toArray⟩,.func (.func 206) #[] #[]] w (fun v w'=>Ext w w'/\v=.bool r):=by
 obtain rfl:=Option.some.inj h;refine⟨⟨Tryz.f205,_,Tryz.func205,rfl,rfl⟩,(Any.strings_ContainsFunc_grows Tryz.AbM 206 #[] (enters_of Tryz.func206 (by kernel_rfl) rfl) SO ⟨a0.toArray⟩ w ?_).mono fun e w' he=>?_⟩
 ·intro W x hx _;refine(P5 W (hp W) (Le.refl _) (Yi hx)).2.mono fun e w' he=>?_;obtain⟨v,rfl,hx,rfl⟩:=he;exact⟨rfl,hx.toBelow⟩
 ·obtain⟨rfl,hb⟩:=he;exact⟨_,rfl,Ext.off hb,rfl⟩
end Go.Proofs.YtekmbcbgknmhiaaGreatDoor
end
noncomputable section
namespace Go.Proofs.YtekmbcbgknmhiaaGreatDoor
open Go Go.E Go.RowKit Go.L
set_option maxHeartbeats 1000000
set_option maxRecDepth 10000
open _root_.Go.Proofs.Tryz
def J4(a0:Aaz):Option Bool:=
 if a0=([]:Aaz) then some false else if 32<(a0.length:Int) then some false else Bh (0<=(0:Int)/\(0:Int)<(a0.length:Int)) (if((a0.getD (0:Int).toNat default).toNat:Int)<97 then some false else Bh (0<=(0:Int)/\(0:Int)<(a0.length:Int)) (if 122<((a0.getD (0:Int).toNat default).toNat:Int) then some false else Option.bind (QS a0) (fun a=>some (!a))))
theorem R0(w:World)(H:PH)(hH:Le H (hp w)){a0:Aaz}{r:Bool}(h:J4 a0=some r):
  Ok prog 159 [Aat a0] w (fun v w'=>Ext w w'/\v=.bool r):=by
 refine Aw (n:=23) [(0,(Aat a0))] func159 rfl fun hL=>AD 1 rfl<|A9<|Bs 1 rfl<|Ah (Nu rfl rfl) rfl<|As 1 rfl<|Bl (s:=5) rfl (fun a=>?_) (fun a=>?_)
 ·have h:=Eo (of_decide_eq_true a) h
  iterate 3 refine Ao rfl a rfl ?_
  refine Ah (AH rfl a rfl) rfl<|As 1 rfl ?_
  iterate 3 refine Ao rfl rfl rfl ?_
  refine Ah (AH rfl rfl rfl) rfl<|As 1 rfl ?_
  iterate 3 refine Ao rfl rfl rfl ?_
  refine Ah (AH rfl rfl rfl) rfl<|Ac<|DW rfl<|AD 1 rfl<|Ax<|Ay ?_
  cases h
  refine Am rfl ⟨hL.ext,rfl⟩
 have h:=Ep (of_decide_eq_false a) h;refine Ab rfl a<|Ah (Aj rfl) rfl<|Ab rfl a<|Ah (Ib rfl AaQ) rfl<|Ab rfl a<|Ah (Aj rfl) rfl<|Ah (AS rfl a rfl) rfl<|As 1 rfl<|Bl (s:=10) rfl (fun b=>?_) (fun b=>?_)
 ·have h:=Eo (of_decide_eq_true b) h
  iterate 3 refine Ao rfl b rfl ?_
  refine Ah (AH rfl b rfl) rfl<|As 1 rfl ?_
  iterate 3 refine Ao rfl rfl rfl ?_
  refine Ah (AH rfl rfl rfl) rfl<|Ac<|DW rfl<|AD 1 rfl<|Ax<|Ay ?_
  cases h
  refine Am rfl ⟨hL.ext,rfl⟩
 have h:=Ep (of_decide_eq_false b) h;refine Ab rfl b<|Ah (Aj rfl) rfl<|Ab rfl b<|AB h fun i h=>Ah (L7 rfl rfl AaQ i) rfl<|Ab rfl b<|Ah (Aj rfl) rfl<|Ah (AS rfl b rfl) rfl<|As 1 rfl<|Bl (s:=15) rfl (fun c=>?_) (fun c=>?_)
 ·have h:=Eo (of_decide_eq_true c) h
  iterate 3 refine Ao rfl c rfl ?_
  refine Ah (AH rfl c rfl) rfl<|Ac<|DW rfl<|AD 1 rfl<|Ax<|Ay ?_
  cases h
  refine Am rfl ⟨hL.ext,rfl⟩
 have h:=Ep (of_decide_eq_false c) h;refine Ab rfl c<|Ah (Aj rfl) rfl<|Ab rfl c<|AB h fun d h=>Ah (L7 rfl rfl AaQ d) rfl<|Ab rfl c<|Ah (Aj rfl) rfl<|Ah (AS rfl c rfl) rfl<|Ac<|AO rfl h (fun e h=>?_) (fun e h=>?_)
 ·refine AD 1 rfl<|Ax<|Ay ?_
  cases h
  refine Am rfl ⟨hL.ext,rfl⟩
 refine Au<|Ar<|Bs 1 rfl<|Aq h fun l f h=>A8 rfl rfl hL (W2 _ _ (Al hH hL) f) fun m k g j=>A4 2 rfl<|Ax ?_
 cases h
 refine Am rfl ⟨g.ext,rfl⟩
def Iw:Option ((Int×Int)):=
 some ((0,0))
def HS(b:(List Aaz)):Int->Option ((Int) ⊕ ((Int×Int))):=fun a=>
 if a<(b.length:Int) then Bh (0<=a/\a<(b.length:Int)) none else Option.map Sum.inr Iw
def JY(a:(List Aaz))(s:Int):Option ((Int×Int)):=Go.L.run (HS a) s
def Kn(a0:Aaz):Option ((Int×Int)):=
 if 64<(a0.length:Int) then none else Option.bind (Km a0) (fun a=>(JY a) (0:Int))
theorem P6(w:World)(H:PH)(hH:Le H (hp w)){a0:Aaz}{r:(Int×Int)}(h:Kn a0=some r):
  Ok prog 103 [Aat a0] w (fun v w'=>Ext w w'/\v=.agg #[No r.1,No r.2]):=by
 refine Aw (n:=41) [(0,(Aat a0))] func103 rfl fun hL=>Ai<|A3 AI rfl rfl hL fun w1 m d ac _=>Ac<|A9<|Bs 1 rfl<|Ah (Ib rfl AaQ) rfl<|A4 1 rfl<|AO rfl h (fun z h=>?_) (fun z h=>?_)
 ·cases h
 refine Au<|Ar<|AD 1 rfl<|Bw (σ:=Unit) (fun(_:Unit)=>[(2,(Aas m))]) (fun(_:Unit) wr=>AU w [.box m [No 0,No 0] 28] wr/\Iw=some r) ?_ ?_
 ·refine Bs 1 rfl<|Aq h fun e p h=>Bf rfl rfl d (P4 _ _ (Al hH d) p) ?_;rintro c af ⟨_,rfl,f⟩ q s aa;have b:=f.C8 hH d q;refine Ah (Bj rfl Ab1 b) rfl<|A4 1 rfl<|A2 ?_;obtain⟨o,h⟩:=AY h;refine B8 (σ:=Int×Nat) (fun⟨a,n⟩=>[(2,(Aas m)),(11,c),(12,No (e.length:Int)),(13,No a)]) (fun⟨a,n⟩ wr=>FL w [.box m [No 0,No 0] 28] wr fun Oz=>AA .st (gz H w wr Oz) c e/\GR (HS e) n a=some r) (fun⟨a,n⟩=>n) (0,o) (Sub.of rfl) ⟨s,b,h⟩ ?_;rintro⟨a,nn32⟩ ad ⟨g,j,h⟩;obtain⟨o,ag,rfl,h,t⟩:=AX h;refine AD 1 rfl<|A9<|AO rfl h (fun u h=>?_) (fun u h=>?_)
  ·refine Au<|Ar<|A9<|A2<|Ai<|AB h fun k h=>Be rfl rfl Ab1 Kq j a.toNat (Hc k) (Ba k) rfl ?_;rintro ah _ rfl x;refine Ah (Bu rfl AaQ rfl x (Al hH g)) rfl<|A4 1 rfl ?_
   cases h
  refine B5<|AE<|A7 ?_;have h:=CV.out h t;refine Bk<|A6 () (Sub.of rfl) ⟨g,h⟩
 rintro _ ae ⟨y,h⟩;refine Ai<|Ah (AN rfl (fun _=>BL _)) rfl<|Ad 0 rfl AI y rfl (AT rfl) fun ai l ab=>Ac<|Ax ?_
 cases h
 refine CM rfl (.cell rfl AcP rfl AI (AG (i:=0) l rfl)) ⟨l.ext,rfl⟩
def FY(a0:Aaz):Option Bool:=
 Option.bind (J4 a0) (fun a=>some (!a))
theorem MF(w:World)(H:PH)(hH:Le H (hp w)){a0:Aaz}{r:Bool}(h:FY a0=some r):
  Ok prog 230 [Aat a0] w (fun v w'=>Ext w w'/\v=.bool r):=by
 refine Aw (n:=6) [(0,(Aat a0))] func230 rfl fun hL=>AD 1 rfl<|Bs 1 rfl<|Aq h fun e a h=>A8 rfl rfl hL (R0 _ _ (Al hH hL) a) fun f d b c=>A4 2 rfl<|Ax ?_
 cases h
 refine Am rfl ⟨b.ext,rfl⟩
def EW:Option Int:=
 some ((-1))
def Cx(a0:List Aaz):Int->Option ((Int) ⊕ (Int)):=fun a=>
 if a<(a0.length:Int) then Bh (0<=a/\a<(a0.length:Int)) (Option.bind (FY (a0.getD a.toNat default)) (fun b=>if b then Option.map Sum.inr (some a) else Bh (C0 (a+1)) (some (Sum.inl (a+1))))) else Option.map Sum.inr EW
def Gq(a0:List Aaz)(s:Int):Option Int:=Go.L.run (Cx a0) s
def Gz(a0:List Aaz):Option Int:=
 (Gq a0) (0:Int)
theorem Ni(w:World)(H:PH)(hH:Le H (hp w)){a0:List Aaz}{b:Value}(e:AA .st H b a0){r:Int}(h:Gz a0=some r):
  Ok prog 284 [b,.func (.func 230) #[] #[]] w (fun v w'=>Ext w w'/\v=No r):=by
 refine Aw (n:=19) [(0,b),(1,.func (.func 230) #[] #[])] func284 rfl fun hL=>AD 1 rfl<|Bw (σ:=Unit) (fun(_:Unit)=>[]) (fun(_:Unit) wr=>AU w [] wr/\EW=some r) ?_ ?_
 ·refine Bs 1 rfl<|Ah (Bj rfl Ab1 e) rfl<|A4 1 rfl<|A2 ?_;obtain⟨f,h⟩:=AY h;refine B8 (σ:=Int×Nat) (fun⟨a,n⟩=>[(0,b),(1,.func (.func 230) #[] #[]),(7,No (a0.length:Int)),(8,No a)]) (fun⟨a,n⟩ wr=>AU w [] wr/\GR (Cx a0) n a=some r) (fun⟨a,n⟩=>n) (0,f) (Sub.of rfl) ⟨hL,h⟩ ?_;rintro⟨a,nn42⟩ s ⟨c,h⟩;obtain⟨f,x,rfl,h,d⟩:=AX h;refine AD 1 rfl<|A9<|AO rfl h (fun j h=>?_) (fun j h=>?_)
  ·refine Au<|Ar<|A9<|A2<|AD 2 rfl<|Bs 3 rfl<|AB h fun g h=>Be rfl rfl Ab1 Kq e a.toNat (Hc g) (Ba g) rfl ?_;rintro y _ rfl k;refine Ah (Bu rfl AaQ rfl k (hH.trans c.arg)) rfl<|Aq h fun z l h=>Q1 rfl rfl rfl c (MF _ _ (Al hH c) l) ?_;rintro _ aa rfl t i q;refine Ac<|By rfl h (fun m h=>?_) (fun m h=>?_)
   ·refine AD 2 rfl<|Ax<|Az<|Ay<|Cv ?_;have h:=CV.out h d;refine Az<|BH ?_
    cases h
    refine Am rfl ⟨i.ext,rfl⟩
   refine Au<|AJ<|Ar<|Av<|AB h fun o h=>Ah (AK rfl o) rfl<|As 1 rfl<|AQ ?_;have h:=CV.again h d;refine AW ((a+1),f) (Sub.of rfl) ⟨i,h⟩ (Nat.lt_succ_self _)
  refine B5<|AE<|A7 ?_;have h:=CV.out h d;refine Bk<|A6 () (Sub.nil _) ⟨c,h⟩
 rintro _ u ⟨p,h⟩;refine AD 1 rfl<|Ax ?_
 cases h
 refine Am rfl ⟨p.ext,rfl⟩
def Ft(a0:List Aaz):Option Bool:=
 Option.bind (Gz a0) (fun a=>some (decide (0<=a)))
theorem Nj(w:World)(H:PH)(hH:Le H (hp w)){a0:List Aaz}{a:Value}(b:AA .st H a a0){r:Bool}(h:Ft a0=some r):
  Ok prog 229 [a,.func (.func 230) #[] #[]] w (fun v w'=>Ext w w'/\v=.bool r):=by
 refine Aw (n:=9) [(0,a),(1,.func (.func 230) #[] #[])] func229 rfl fun hL=>AD 1 rfl<|Bs 2 rfl<|Aq h fun g c h=>A8 rfl rfl hL (Ni _ _ (Al hH hL) (b.mono (Ae hH)) c) fun i f d e=>A4 2 rfl<|Ax ?_
 cases h
 refine Am rfl ⟨d.ext,rfl⟩
end Go.Proofs.YtekmbcbgknmhiaaGreatDoor
end
noncomputable section
namespace Go
abbrev Adz:=Int×(Int×Int)
end Go
namespace Go.Proofs.YtekmbcbgknmhiaaGreatDoor
open Go Go.E Go.RowKit Go.L
set_option maxHeartbeats 1000000
set_option maxRecDepth 10000
open _root_.Go.Proofs.Tryz
def BK(a0:List Int)(a1:Go.L.Pv):Option (Bool×Go.L.Pv):=
 Option.bind (Cm a0 a1.f.1) (fun a=>some (a,a1))
theorem CF{a w:World}{H:PH}(hH:Le H (hp a)){O:List BE}{a0:List Int}{a1:Go.L.Pv}{va0:Value}{ba1:Nat}{va1_2 va1_3 va1_4:Value}(hL:AU a (Ha [.box ba1 [No a1.f.1,No a1.f.2.1,va1_2,va1_3,va1_4] 64] O) w)(l:AA (.int .i64) (gz H a w (Ha [.box ba1 [No a1.f.1,No a1.f.2.1,va1_2,va1_3,va1_4] 64] O)) va0 a0)(i:AA .byte (gz H a w (Ha [.box ba1 [No a1.f.1,No a1.f.2.1,va1_2,va1_3,va1_4] 64] O)) va1_2 (a1.f.2.2.1))(j:AA .st (gz H a w (Ha [.box ba1 [No a1.f.1,No a1.f.2.1,va1_2,va1_3,va1_4] 64] O)) va1_3 (a1.f.2.2.2.1))(k:AA .tree (gz H a w (Ha [.box ba1 [No a1.f.1,No a1.f.2.1,va1_2,va1_3,va1_4] 64] O)) va1_4 (a1.f.2.2.2.2)){r:Bool×Go.L.Pv}(h:BK a0 a1=some r):
  Ok prog 228 [va0,Aas ba1] w (fun v w'=>∃ (c:Value) (d:Value) (e:Value),v=.bool r.1/\AU a (Ha [.box ba1 [No r.2.f.1,No r.2.f.2.1,c,d,e] 64] O) w'/\Le (fz w (Ha [.box ba1 [No a1.f.1,No a1.f.2.1,va1_2,va1_3,va1_4] 64] O)) (fz w' (Ha [.box ba1 [No r.2.f.1,No r.2.f.2.1,c,d,e] 64] O))/\AA .byte (gz H a w' (Ha [.box ba1 [No r.2.f.1,No r.2.f.2.1,c,d,e] 64] O)) c (r.2.f.2.2.1)/\AA .st (gz H a w' (Ha [.box ba1 [No r.2.f.1,No r.2.f.2.1,c,d,e] 64] O)) d (r.2.f.2.2.2.1)/\AA .tree (gz H a w' (Ha [.box ba1 [No r.2.f.1,No r.2.f.2.1,c,d,e] 64] O)) e (r.2.f.2.2.2.2)):=by
 refine Ey (n:=8) [(0,va0),(1,(Aas ba1))] func228 rfl rfl rfl rfl rfl ?_;have hT:=Le.refl (fz w (Ha [.box ba1 [No a1.f.1,No a1.f.2.1,va1_2,va1_3,va1_4] 64] O));have b:=hL.rG H;refine AD 1 rfl<|Bs 1 rfl<|Ah (Af rfl AcQ rfl Dd) rfl<|Ah (Ag 0 rfl AaA rfl hL rfl) rfl<|Aq h fun q m h=>A8 rfl rfl hL (Hx _ _ (Al hH hL) (l.mono b) m) fun s p o g=>A4 1 rfl<|Ax ?_
 cases h
 refine Am rfl ?_;have b:=b.trans (Aa hH g);have hT:=hT.trans g;exact⟨va1_2,va1_3,va1_4,rfl,o,hT,(i.mono b),(j.mono b),(k.mono b)⟩
def F3:Option Int:=
 some (0)
def C3(b:List Aaz):Int->Option ((Int) ⊕ (Int)):=fun a=>
 if a<(b.length:Int) then Bh (0<=a/\a<(b.length:Int)) (Bh (0<=a/\a<=(b.length:Int)) (Option.bind (BN (b.take a.toNat) (b.getD a.toNat default)) (fun c=>if c then Option.map Sum.inr (some (8)) else Bh (C0 (a+1)) (some (Sum.inl (a+1)))))) else Option.map Sum.inr F3
def I6(a:List Aaz)(s:Int):Option Int:=Go.L.run (C3 a) s
def B1(_c84 _c85:Int)(_c86:Aaz)(b:List Aaz)(d:List Go.L.Pv)(a:Bool):Option Int:=
 if a then some (6) else(if 600<(d.length:Int) then some (14) else Option.bind (Ft b) (fun c=>if c then some (7) else(I6 b) (0:Int)))
def Eh(g h:Int)(i:Aaz)(j:List Aaz)(e:List Go.L.Pv)(d:Bool):Option Int:=
 if d then B1 g h i j e d else(if 0<(e.length:Int) then Option.bind (BK ([3,4]) (Go.L.Pv.mk g h i j e)) (fun c=>if !c.1 then B1 c.2.f.1 c.2.f.2.1 c.2.f.2.2.1 c.2.f.2.2.2.1 c.2.f.2.2.2.2 (!c.1) else Option.bind (BK ([4]) c.2) (fun a=>if a.1 then B1 a.2.f.1 a.2.f.2.1 a.2.f.2.2.1 a.2.f.2.2.2.1 a.2.f.2.2.2.2 (!decide ((a.2.f.2.2.2.1.length:Int)=(a.2.f.2.2.2.2.length:Int))) else B1 a.2.f.1 a.2.f.2.1 a.2.f.2.2.1 a.2.f.2.2.2.1 a.2.f.2.2.2.2 false)) else Option.bind (BK ([4]) (Go.L.Pv.mk g h i j e)) (fun b=>if b.1 then B1 b.2.f.1 b.2.f.2.1 b.2.f.2.2.1 b.2.f.2.2.2.1 b.2.f.2.2.2.2 (!decide ((b.2.f.2.2.2.1.length:Int)=(b.2.f.2.2.2.2.length:Int))) else B1 b.2.f.1 b.2.f.2.1 b.2.f.2.2.1 b.2.f.2.2.2.1 b.2.f.2.2.2.2 false))
def Ei(d e:Int)(g:Aaz)(c:List Aaz)(h:List Go.L.Pv)(b:Bool):Option Int:=
 if b then B1 d e g c h b else(if 0<(c.length:Int) then Option.bind (BK ([4]) (Go.L.Pv.mk d e g c h)) (fun a=>Eh a.2.f.1 a.2.f.2.1 a.2.f.2.2.1 a.2.f.2.2.2.1 a.2.f.2.2.2.2 (!a.1)) else Eh d e g c h false)
def Ej(d e:Int)(c:Aaz)(g:List Aaz)(h:List Go.L.Pv)(b:Bool):Option Int:=
 if b then B1 d e c g h b else(if 0<(c.length:Int) then Option.bind (BK ([2]) (Go.L.Pv.mk d e c g h)) (fun a=>Ei a.2.f.1 a.2.f.2.1 a.2.f.2.2.1 a.2.f.2.2.2.1 a.2.f.2.2.2.2 (!a.1)) else Ei d e c g h false)
def EO(a0:Go.L.Pv):Option Int:=
 Option.bind (BK ([1,2,3,4]) a0) (fun b=>if !b.1 then some (5) else(if b.2.f.2.1=0 then Ej b.2.f.1 b.2.f.2.1 b.2.f.2.2.1 b.2.f.2.2.2.1 b.2.f.2.2.2.2 false else Option.bind (BK ([1]) b.2) (fun a=>Ej a.2.f.1 a.2.f.2.1 a.2.f.2.2.1 a.2.f.2.2.2.1 a.2.f.2.2.2.2 (!a.1))))
theorem ND(w:World)(H:PH)(hH:Le H (hp w)){a0:Go.L.Pv}{cn co cp:Value}(ev:AA .byte H cn (a0.f.2.2.1))(ew:AA .st H co (a0.f.2.2.2.1))(ex:AA .tree H cp (a0.f.2.2.2.2)){r:Int}(h:EO a0=some r):
  Ok prog 176 [.agg #[No a0.f.1,No a0.f.2.1,cn,co,cp]] w (fun v w'=>Ext w w'/\v=No r):=by
 refine Aw (n:=88) [(0,.agg #[No a0.f.1,No a0.f.2.1,cn,co,cp])] func176 rfl fun hL=>Ai<|Dq (t:=64) rfl rfl rfl hL fun w1 b1 e4 ft _=>A4 1 rfl<|AD 2 rfl<|A9<|A2<|Bs 1 rfl<|Br (r:=(.int .i64)) (l:=[1,2,3,4]) rfl (fun _=>Vz _ _ _ _ _) rfl (B2 4) hH e4 (.c1 rfl (.c1 rfl (.c1 rfl (.c1 rfl .nil)))) fun v2 w2 gm e5 fu e6=>Aq h fun x3 e7 h=>Es rfl rfl rfl (CF (a0:=([1,2,3,4])) (a1:=a0) (O:=[]) hH e5 e6 (ev.mono (Ae hH)) (ew.mono (Ae hH)) (ex.mono (Ae hH)) e7) ?_;rintro _ w4 ⟨ey,ez,e0,rfl,b0,fv,cr,cs,ct⟩;refine A4 2 rfl<|By rfl h (fun e8 h=>?_) (fun e8 h=>?_)
 ·have gn:=b0.rG H;refine AD 1 rfl<|Ax<|Az<|Ay ?_
  cases h
  refine Am rfl ⟨b0.ext,rfl⟩
 refine Bw (σ:=Int×Int×Aaz×(List Aaz)×(List Go.L.Pv)×Bool×Value×Value×Value) (fun⟨b2,b3,b4,bq,b5,a8,ac,ab,ad⟩=>[(1,(Aas b1)),(12,.bool a8)]) (fun⟨b2,b3,b4,bq,b5,a8,ac,ab,ad⟩ wr=>FL w [.box b1 [No b2,No b3,ac,ab,ad] 64] wr fun Oz=>AA .byte (gz H w wr Oz) ac b4/\AA .st (gz H w wr Oz) ab bq/\AA .tree (gz H w wr Oz) ad b5/\B1 b2 b3 b4 bq b5 a8=some r) ?_ ?_
 ·refine Bw (σ:=Int×Int×Aaz×(List Aaz)×(List Go.L.Pv)×Bool×Value×Value×Value) (fun⟨an,ao,ap,aq,ar,y,af,ag,ah⟩=>[(1,(Aas b1)),(3,.func (.func 228) #[] #[Aas b1]),(12,.bool y)]) (fun⟨an,ao,ap,aq,ar,y,af,ag,ah⟩ wr=>FL w [.box b1 [No an,No ao,af,ag,ah] 64] wr fun Oz=>AA .byte (gz H w wr Oz) af ap/\AA .st (gz H w wr Oz) ag aq/\AA .tree (gz H w wr Oz) ah ar/\Ej an ao ap aq ar y=some r) ?_ ?_
  ·have u:=b0.rG H;refine Av<|Ah (Af rfl AcQ rfl Dd) rfl<|Ah (Ag 0 rfl AaA rfl b0 rfl) rfl<|As 2 rfl<|Bl (s:=16) rfl (fun e=>?_) (fun e=>?_)
   ·have h:=Ep (Hd e) h;refine Ab rfl e<|Ah (Aj rfl) rfl<|Ab rfl e<|Br (r:=(.int .i64)) (l:=[1]) rfl (fun _=>HJ _ _) rfl (B2 1) hH b0 (.c1 rfl .nil) fun fw fx ff dt c8 du=>Ab rfl e<|Aq h fun bj dv h=>?_;have u:=u.trans (Aa hH c8);refine Es rfl rfl rfl (CF (a0:=([1])) (a1:=x3.2) (O:=[]) hH dt du (cr.mono u) (cs.mono u) (ct.mono u) dv) ?_;rintro _ fy ⟨c9,da,db,rfl,dw,e9,cy,cz,c0⟩;refine Ab rfl e<|Ah (Aj rfl) rfl<|Ah (AH rfl e rfl) rfl<|As 1 rfl<|AQ<|A6 (bj.2.f.1,bj.2.f.2.1,bj.2.f.2.2.1,bj.2.f.2.2.2.1,bj.2.f.2.2.2.2,!bj.1,c9,da,db) (Sub.of rfl) ⟨dw,cy,cz,c0,h⟩
   have h:=Eo (He e) h
   iterate 4 refine Ao rfl e rfl ?_
   refine Ah (AS rfl e rfl) rfl<|As 1 rfl<|AQ<|A6 (x3.2.f.1,x3.2.f.2.1,x3.2.f.2.2.1,x3.2.f.2.2.2.1,x3.2.f.2.2.2.2,false,ey,ez,e0) (Sub.of rfl) ⟨b0,(cr.mono u),(cs.mono u),(ct.mono u),h⟩
  rintro⟨an,ao,ap,aq,ar,y,af,ag,ah⟩ fg ⟨a9,ba,bt,bu,h⟩;refine By rfl h (fun dx h=>?_) (fun dx h=>?_)
  ·refine Au<|A6 (an,ao,ap,aq,ar,y,af,ag,ah) (Sub.of rfl) ⟨a9,ba,bt,bu,h⟩
  refine Bw (σ:=Int×Int×Aaz×(List Aaz)×(List Go.L.Pv)×Bool×Value×Value×Value) (fun⟨au,av,aw,ax,ay,z,ai,aj,ak⟩=>[(1,(Aas b1)),(3,.func (.func 228) #[] #[Aas b1]),(12,.bool z)]) (fun⟨au,av,aw,ax,ay,z,ai,aj,ak⟩ wr=>FL w [.box b1 [No au,No av,ai,aj,ak] 64] wr fun Oz=>AA .byte (gz H w wr Oz) ai aw/\AA .st (gz H w wr Oz) aj ax/\AA .tree (gz H w wr Oz) ak ay/\Ei au av aw ax ay z=some r) ?_ ?_
  ·have p:=a9.rG H;refine Av<|Ah (Af rfl AcQ rfl Hv) rfl<|Ah (Ag 0 rfl Abj rfl a9 rfl) rfl<|Ah (Bj rfl Abj (ba.mono p)) rfl<|As 2 rfl<|Bl (s:=26) rfl (fun g=>?_) (fun g=>?_)
   ·have h:=Eo (of_decide_eq_true g) h;refine Ab rfl g<|Ah (Aj rfl) rfl<|Ab rfl g<|Br (r:=(.int .i64)) (l:=[2]) rfl (fun _=>HJ _ _) rfl (B2 1) hH a9 (.c1 rfl .nil) fun fz f0 fh dy dc dz=>Ab rfl g<|Aq h fun bk d0 h=>?_;have p:=p.trans (Aa hH dc);refine Es rfl rfl rfl (CF (a0:=([2])) (a1:=(Go.L.Pv.mk an ao ap aq ar)) (O:=[]) hH dy dz (ba.mono p) (bt.mono p) (bu.mono p) d0) ?_;rintro _ f1 ⟨dd,de,df,rfl,d1,fa,c2,c3,c4⟩;refine Ab rfl g<|Ah (Aj rfl) rfl<|Ah (AH rfl g rfl) rfl<|As 1 rfl<|AQ<|A6 (bk.2.f.1,bk.2.f.2.1,bk.2.f.2.2.1,bk.2.f.2.2.2.1,bk.2.f.2.2.2.2,!bk.1,dd,de,df) (Sub.of rfl) ⟨d1,c2,c3,c4,h⟩
   have h:=Ep (of_decide_eq_false g) h
   iterate 4 refine Ao rfl g rfl ?_
   refine Ah (AS rfl g rfl) rfl<|As 1 rfl<|AQ<|A6 (an,ao,ap,aq,ar,false,af,ag,ah) (Sub.of rfl) ⟨a9,(ba.mono p),(bt.mono p),(bu.mono p),h⟩
  rintro⟨au,av,aw,ax,ay,z,ai,aj,ak⟩ fi ⟨bb,bv,bc,bw,h⟩;refine By rfl h (fun d2 h=>?_) (fun d2 h=>?_)
  ·refine Au<|A6 (au,av,aw,ax,ay,z,ai,aj,ak) (Sub.of rfl) ⟨bb,bv,bc,bw,h⟩
  refine Bw (σ:=Int×Int×Aaz×(List Aaz)×(List Go.L.Pv)×Bool×Value×Value×Value) (fun⟨az,a2,a3,a4,a5,aa,bd,be,bf⟩=>[(1,(Aas b1)),(3,.func (.func 228) #[] #[Aas b1]),(12,.bool aa)]) (fun⟨az,a2,a3,a4,a5,aa,bd,be,bf⟩ wr=>FL w [.box b1 [No az,No a2,bd,be,bf] 64] wr fun Oz=>AA .byte (gz H w wr Oz) bd a3/\AA .st (gz H w wr Oz) be a4/\AA .tree (gz H w wr Oz) bf a5/\Eh az a2 a3 a4 a5 aa=some r) ?_ ?_
  ·have q:=bb.rG H;refine Av<|Ah (Af rfl AcQ rfl LC) rfl<|Ah (Ag 0 rfl Ab1 rfl bb rfl) rfl<|Ah (Bj rfl Ab1 (bc.mono q)) rfl<|As 2 rfl<|Bl (s:=36) rfl (fun i=>?_) (fun i=>?_)
   ·have h:=Eo (of_decide_eq_true i) h;refine Ab rfl i<|Ah (Aj rfl) rfl<|Ab rfl i<|Br (r:=(.int .i64)) (l:=[4]) rfl (fun _=>HJ _ _) rfl (B2 1) hH bb (.c1 rfl .nil) fun f2 f3 fj d3 dg d4=>Ab rfl i<|Aq h fun bl d5 h=>?_;have q:=q.trans (Aa hH dg);refine Es rfl rfl rfl (CF (a0:=([4])) (a1:=(Go.L.Pv.mk au av aw ax ay)) (O:=[]) hH d3 d4 (bv.mono q) (bc.mono q) (bw.mono q) d5) ?_;rintro _ f4 ⟨dh,di,dj,rfl,d6,fb,c5,c6,c7⟩;refine Ab rfl i<|Ah (Aj rfl) rfl<|Ah (AH rfl i rfl) rfl<|As 1 rfl<|AQ<|A6 (bl.2.f.1,bl.2.f.2.1,bl.2.f.2.2.1,bl.2.f.2.2.2.1,bl.2.f.2.2.2.2,!bl.1,dh,di,dj) (Sub.of rfl) ⟨d6,c5,c6,c7,h⟩
   have h:=Ep (of_decide_eq_false i) h
   iterate 4 refine Ao rfl i rfl ?_
   refine Ah (AS rfl i rfl) rfl<|As 1 rfl<|AQ<|A6 (au,av,aw,ax,ay,false,ai,aj,ak) (Sub.of rfl) ⟨bb,(bv.mono q),(bc.mono q),(bw.mono q),h⟩
  rintro⟨az,a2,a3,a4,a5,aa,bd,be,bf⟩ fk ⟨bg,bx,bz,bh,h⟩;refine By rfl h (fun d7 h=>?_) (fun d7 h=>?_)
  ·refine Au<|A6 (az,a2,a3,a4,a5,aa,bd,be,bf) (Sub.of rfl) ⟨bg,bx,bz,bh,h⟩
  have c:=bg.rG H;refine Ai<|Ah (Af rfl AcQ rfl T2) rfl<|Ah (Ag 0 rfl Ade rfl bg rfl) rfl<|Ah (Bj rfl Ade (bh.mono c)) rfl<|As 2 rfl<|Bl (s:=46) rfl (fun j=>?_) (fun j=>?_)
  ·have h:=Eo (of_decide_eq_true j) h;refine Ab rfl j<|Ah (Aj rfl) rfl<|Ab rfl j<|Br (r:=(.int .i64)) (l:=[3,4]) rfl (fun _=>Vy _ _ _) rfl (B2 2) hH bg (.c1 rfl (.c1 rfl .nil)) fun f5 f6 fl d8 dk d9=>Ab rfl j<|Aq h fun a6 ea h=>?_;have c:=c.trans (Aa hH dk);refine Es rfl rfl rfl (CF (a0:=([3,4])) (a1:=(Go.L.Pv.mk az a2 a3 a4 a5)) (O:=[]) hH d8 d9 (bx.mono c) (bz.mono c) (bh.mono c) ea) ?_;rintro _ f7 ⟨dl,dm,dn,rfl,cd,fc,b6,b7,b8⟩;refine Ab rfl j<|Ah (Aj rfl) rfl<|Ah (AH rfl j rfl) rfl<|A4 1 rfl<|By rfl h (fun eb h=>?_) (fun eb h=>?_)
   ·refine Au<|A6 (a6.2.f.1,a6.2.f.2.1,a6.2.f.2.2.1,a6.2.f.2.2.2.1,a6.2.f.2.2.2.2,!a6.1,dl,dm,dn) (Sub.of rfl) ⟨cd,b6,b7,b8,h⟩
   have bi:=cd.rG H;refine Av<|As 1 rfl<|Br (r:=(.int .i64)) (l:=[4]) rfl (fun _=>HJ _ _) rfl (B2 1) hH cd (.c1 rfl .nil) fun f8 f9 fm ec dp ed=>Aq h fun m ee h=>?_;have bi:=bi.trans (Aa hH dp);refine Es rfl rfl rfl (CF (a0:=([4])) (a1:=a6.2) (O:=[]) hH ec ed (b6.mono bi) (b7.mono bi) (b8.mono bi) ee) ?_;rintro _ ga ⟨ch,ci,cj,rfl,br,fd,b9,bm,bn⟩;refine As 1 rfl<|Bl (s:=55) rfl (fun a=>?_) (fun a=>?_)
   ·have h:=IU a h;refine Ab rfl a<|Ah (Af rfl AcQ rfl LC) rfl<|Ab rfl a<|Ah (Ag 0 rfl Ab1 rfl br rfl) rfl<|Ab rfl a<|Ah (Bj rfl Ab1 bm) rfl<|Ab rfl a<|Ah (Af rfl AcQ rfl T2) rfl<|Ab rfl a<|Ah (Ag 0 rfl Ade rfl br rfl) rfl<|Ab rfl a<|Ah (Bj rfl Ade bn) rfl<|Ab rfl a<|Ah (Aj rfl) rfl<|Ah (AH rfl a rfl) rfl<|As 1 rfl<|AQ<|A6 (m.2.f.1,m.2.f.2.1,m.2.f.2.2.1,m.2.f.2.2.2.1,m.2.f.2.2.2.2,!decide ((m.2.f.2.2.2.1.length:Int)=(m.2.f.2.2.2.2.length:Int)),ch,ci,cj) (Sub.of rfl) ⟨br,b9,bm,bn,h⟩
   have h:=IV a h
   iterate 7 refine Ao rfl a rfl ?_
   refine Ah (AS rfl a rfl) rfl<|As 1 rfl<|AQ<|A6 (m.2.f.1,m.2.f.2.1,m.2.f.2.2.1,m.2.f.2.2.2.1,m.2.f.2.2.2.2,false,ch,ci,cj) (Sub.of rfl) ⟨br,b9,bm,bn,h⟩
  have h:=Ep (of_decide_eq_false j) h
  iterate 4 refine Ao rfl j rfl ?_
  refine Ah (AS rfl j rfl) rfl<|A4 1 rfl<|Hn rfl<|Av<|As 1 rfl<|Br (r:=(.int .i64)) (l:=[4]) rfl (fun _=>HJ _ _) rfl (B2 1) hH bg (.c1 rfl .nil) fun gb gc fn ef dq eg=>Aq h fun o eh h=>?_;have c:=c.trans (Aa hH dq);refine Es rfl rfl rfl (CF (a0:=([4])) (a1:=(Go.L.Pv.mk az a2 a3 a4 a5)) (O:=[]) hH ef eg (bx.mono c) (bz.mono c) (bh.mono c) eh) ?_;rintro _ gd ⟨ck,cl,cm,rfl,bs,fe,ca,bo,bp⟩;refine As 1 rfl<|Bl (s:=55) rfl (fun b=>?_) (fun b=>?_)
  ·have h:=IU b h;refine Ab rfl b<|Ah (Af rfl AcQ rfl LC) rfl<|Ab rfl b<|Ah (Ag 0 rfl Ab1 rfl bs rfl) rfl<|Ab rfl b<|Ah (Bj rfl Ab1 bo) rfl<|Ab rfl b<|Ah (Af rfl AcQ rfl T2) rfl<|Ab rfl b<|Ah (Ag 0 rfl Ade rfl bs rfl) rfl<|Ab rfl b<|Ah (Bj rfl Ade bp) rfl<|Ab rfl b<|Ah (Aj rfl) rfl<|Ah (AH rfl b rfl) rfl<|As 1 rfl<|AQ<|A6 (o.2.f.1,o.2.f.2.1,o.2.f.2.2.1,o.2.f.2.2.2.1,o.2.f.2.2.2.2,!decide ((o.2.f.2.2.2.1.length:Int)=(o.2.f.2.2.2.2.length:Int)),ck,cl,cm) (Sub.of rfl) ⟨bs,ca,bo,bp,h⟩
  have h:=IV b h
  iterate 7 refine Ao rfl b rfl ?_
  refine Ah (AS rfl b rfl) rfl<|As 1 rfl<|AQ<|A6 (o.2.f.1,o.2.f.2.1,o.2.f.2.2.1,o.2.f.2.2.2.1,o.2.f.2.2.2.2,false,ck,cl,cm) (Sub.of rfl) ⟨bs,ca,bo,bp,h⟩
 rintro⟨b2,b3,b4,bq,b5,a8,ac,ab,ad⟩ ge ⟨ae,ei,ce,cu,h⟩;refine By rfl h (fun ej h=>?_) (fun ej h=>?_)
 ·have fo:=ae.rG H;refine AD 1 rfl<|Ax<|Az<|Ay ?_
  cases h
  refine Am rfl ⟨ae.ext,rfl⟩
 have x:=ae.rG H;refine Ai<|Ah (Af rfl AcQ rfl T2) rfl<|Ah (Ag 0 rfl Ade rfl ae rfl) rfl<|Ah (Bj rfl Ade (cu.mono x)) rfl<|A4 2 rfl<|AO rfl h (fun ek h=>?_) (fun ek h=>?_)
 ·refine AD 1 rfl<|Ax<|Az<|Ay ?_
  cases h
  refine Am rfl ⟨ae.ext,rfl⟩
 refine Ai<|Ah (Af rfl AcQ rfl LC) rfl<|Ah (Ag 0 rfl Ab1 rfl ae rfl) rfl<|Aq h fun gf el h=>A8 rfl rfl ae (Nj _ _ (Al hH ae) (ce.mono x) el) fun gg fp cf dr=>A4 1 rfl<|By rfl h (fun em h=>?_) (fun em h=>?_)
 ·refine AD 1 rfl<|Ax<|Az<|Ay ?_
  cases h
  refine Am rfl ⟨cf.ext,rfl⟩
 refine Au<|AJ<|Ar<|Bw (σ:=Unit) (fun(_:Unit)=>[]) (fun(_:Unit) wr=>FL w [.box b1 [No b2,No b3,ac,ab,ad] 64] wr fun Oz=>AA .byte (gz H w wr Oz) ac b4/\AA .st (gz H w wr Oz) ab bq/\AA .tree (gz H w wr Oz) ad b5/\F3=some r) ?_ ?_
 ·refine Ai<|Ah (Af rfl AcQ rfl LC) rfl<|Ah (Ag 0 rfl Ab1 rfl cf rfl) rfl ?_;have x:=x.trans (Aa hH dr);refine Ah (Bj rfl Ab1 (ce.mono x)) rfl<|A4 1 rfl<|A2 ?_;obtain⟨cq,h⟩:=AY h;refine B8 (σ:=Int×Nat) (fun⟨d,n⟩=>[(1,(Aas b1)),(74,ab),(75,No (bq.length:Int)),(76,No d)]) (fun⟨d,n⟩ wr=>FL w [.box b1 [No b2,No b3,ac,ab,ad] 64] wr fun Oz=>AA .st (gz H w wr Oz) ab bq/\AA .byte (gz H w wr Oz) ac b4/\AA .tree (gz H w wr Oz) ad b5/\GR (C3 bq) n d=some r) (fun⟨d,n⟩=>n) (0,cq) (Sub.of rfl) ⟨cf,(ce.mono x),(ei.mono x),(cu.mono x),h⟩ ?_;rintro⟨d,nn258⟩ fq ⟨al,am,cb,cc,h⟩;obtain⟨cq,gh,rfl,h,cg⟩:=AX h;have k:=al.rG H;refine AD 1 rfl<|A9<|AO rfl h (fun en h=>?_) (fun en h=>?_)
  ·refine Au<|Ar<|A9<|A2<|Bs 1 rfl<|AB h fun cv h=>Be rfl rfl Ab1 Kq (am.mono k) d.toNat (Hc cv) (Ba cv) rfl ?_;rintro gi _ rfl eo;refine Ah (Bu rfl AaQ rfl eo (Al hH al)) rfl<|A4 2 rfl<|Ai<|Ah (Af rfl AcQ rfl LC) rfl<|Ah (Ag 0 rfl Ab1 rfl al rfl) rfl<|As 1 rfl<|AB h fun ep h=>Ql rfl rfl Ab1 Kq (am.mono k) ep rfl fun gj eq=>As 1 rfl<|Aq h fun gk er h=>A8 rfl rfl al (Jb _ _ (Al hH al) eq er) fun gl fr cw ds=>Ac<|By rfl h (fun es h=>?_) (fun es h=>?_)
   ·refine AD 1 rfl<|Ax<|Az<|Ay<|Cv ?_;have h:=CV.out h cg;refine Az<|BH ?_
    cases h
    refine Am rfl ⟨cw.ext,rfl⟩
   refine Au<|AJ<|Ar<|Av<|AB h fun et h=>Ah (AK rfl et) rfl<|As 1 rfl<|AQ ?_;have h:=CV.again h cg;have k:=k.trans (Aa hH ds);refine AW ((d+1),cq) (Sub.of rfl) ⟨cw,(am.mono k),(cb.mono k),(cc.mono k),h⟩ (Nat.lt_succ_self _)
  refine B5<|AE<|A7 ?_;have h:=CV.out h cg;refine Bk<|A6 () (Sub.nil _) ⟨al,(cb.mono k),(am.mono k),(cc.mono k),h⟩
 rintro _ fs ⟨eu,e1,e2,e3,h⟩;refine AD 1 rfl<|Ax ?_
 cases h
 refine Am rfl ⟨eu.ext,rfl⟩
def EX(a:Int):Option Adz:=
 some (a,(0,0))
def Ca(a0:Go.L.Pv)(a2:Int)(self:Go.L.Pv->Int->Int->Option Adz):Int×Int->Option ((Int×Int) ⊕ Adz):=fun⟨c,a⟩=>
 if a<(a0.f.2.2.2.2.length:Int) then Bh (0<=a/\a<(a0.f.2.2.2.2.length:Int)) (Bh (C0 (a2+1)) (Option.bind (self (a0.f.2.2.2.2.getD a.toNat default) c (a2+1)) (fun b=>if b.2.1=0/\b.2.2=0 then Bh (C0 (a+1)) (some (Sum.inl (b.1,(a+1)))) else Option.map Sum.inr (some (0,(b.2.1,b.2.2)))))) else Option.map Sum.inr (EX c)
def Ig(a0:Go.L.Pv)(a2:Int)(self:Go.L.Pv->Int->Int->Option Adz)(s:Int×Int):Option Adz:=Go.L.run (Ca a0 a2 self) s
def CR(self:Go.L.Pv->Int->Int->Option Adz)(a0:Go.L.Pv)(a1 a2:Int):Option Adz:=
 if(600<=a1)\/(10<a2) then Option.bind (IF (2:Int) a1) (fun b=>some (0,(b.1,b.2))) else Option.bind (EO a0) (fun c=>if c=0 then Bh (C0 (a1+1)) ((Ig a0 a2 self) ((a1+1),0)) else Option.bind (IF c a1) (fun a=>some (0,(a.1,a.2))))
def Is(self:Go.L.Pv->Int->Int->Option Adz):Prop:=∀ (w:World) (H:PH) (hH:Le H (hp w)) {a0:Go.L.Pv} {a1:Int} {a2:Int} {a:Value} {b:Value} {c:Value} (d:AA .byte H a (a0.f.2.2.1)) (e:AA .st H b (a0.f.2.2.2.1)) (g:AA .tree H c (a0.f.2.2.2.2)) {r:Int×(Int×Int)} (h:self a0 a1 a2=some r),Ok prog 125 [.agg #[No a0.f.1,No a0.f.2.1,a,b,c],No a1,No a2] w (fun v w'=>Ext w w'/\v=.tuple #[No r.1,.agg #[No r.2.1,No r.2.2]])
def D3:Nat->Go.L.Pv->Int->Int->Option Adz
 | 0=>fun _ _ _=>none
 | n+1=>CR (D3 n)
def JT:Go.L.Pv->Int->Int->Option Adz:=D3 1000
theorem Nk(self:Go.L.Pv->Int->Int->Option Adz)(hself:Is self):Is (CR self):=by
 intro w H hH a0 a1 a2 l m d an ao o r h;unfold Is at hself;refine Aw (n:=52) [(0,.agg #[No a0.f.1,No a0.f.2.1,l,m,d]),(1,No a1),(2,No a2)] func125 rfl fun hL=>Ai<|Dq (t:=64) rfl rfl rfl hL fun w1 b1 a5 bl _=>As 1 rfl<|A3 AI rfl rfl a5 fun w2 b2 k bm _=>Ac<|A9<|Bs 3 rfl<|WQ 2 2 rfl rfl rfl rfl rfl rfl<|Ac<|AO rfl h (fun a6 h=>?_) (fun a6 h=>?_)
 ·refine Bs 1 rfl<|Aq h fun x5 a7 h=>A8 rfl rfl k (K5 _ _ (Al hH k) a7) fun w6 b4 a8 bn=>As 1 rfl<|Ad 0 rfl AI a8 rfl (AT rfl) fun w7 am bo=>Ac<|Ax<|Ay ?_
  cases h
  refine B0 rfl (.tmp rfl) (.cell rfl AcP rfl AI (AG (i:=0) am rfl)) ⟨am.ext,rfl⟩
 refine Au<|Ar<|A9<|Ai<|Ah (A5 1 rfl AcQ rfl Fz k rfl) rfl<|Aq h fun x9 a9 h=>A8 rfl rfl k (ND (a0:=a0) _ _ (Al hH k) (an.mono (Ae hH)) (ao.mono (Ae hH)) (o.mono (Ae hH)) a9) fun b5 bp e bf=>A4 1 rfl<|AD 2 rfl<|Cf rfl h (fun ap h=>?_) (fun ap h=>?_)
 ·refine Bs 2 rfl<|Aq h fun b6 aq h=>A8 rfl rfl e (K5 _ _ (Al hH e) aq) fun b7 bq ar bg=>As 1 rfl<|Ad 0 rfl AI ar rfl (AT rfl) fun b8 y bh=>Ac<|Ax<|Ay ?_
  cases h
  refine B0 rfl (.tmp rfl) (.cell rfl AcP rfl AI (AG (i:=0) y rfl)) ⟨y.ext,rfl⟩
 refine Au<|Ar<|Bs 1 rfl<|AB h fun au h=>Ah (AK rfl au) rfl<|A4 1 rfl<|Bw (σ:=Int) (fun c=>[(7,(Aas b2)),(9,No c)]) (fun c wr=>AU w [.box b2 [No 0,No 0] 28,.box b1 [No a0.f.1,No a0.f.2.1,l,m,d] 64] wr/\EX c=some r) ?_ ?_
 ·refine Ai<|Ah (Af rfl AcQ rfl T2) rfl<|Ah (Ag 1 rfl Ade rfl e rfl) rfl<|Ah (Bj rfl Ade o) rfl<|A4 1 rfl<|A2 ?_;obtain⟨z,h⟩:=AY h;refine B8 (σ:=Int×Int×Nat) (fun⟨b,a,n⟩=>[(2,No a2),(7,(Aas b2)),(9,No b),(31,d),(32,No (a0.f.2.2.2.2.length:Int)),(33,No a)]) (fun⟨b,a,n⟩ wr=>AU w [.box b2 [No 0,No 0] 28,.box b1 [No a0.f.1,No a0.f.2.1,l,m,d] 64] wr/\GR (Ca a0 a2 self) n (b,a)=some r) (fun⟨b,a,n⟩=>n) ((a1+1),0,z) (Sub.of rfl) ⟨e,h⟩ ?_;rintro⟨b,a,nn92⟩ br ⟨p,h⟩;obtain⟨z,b9,rfl,h,s⟩:=AX h;refine AD 1 rfl<|A9<|AO rfl h (fun av h=>?_) (fun av h=>?_)
  ·refine Au<|Ar<|A9<|A2<|Ai<|AB h fun aa h=>Be rfl rfl Ade Fz o a.toNat (Hc aa) (Ba aa) rfl ?_;rintro ca _ e96t0 aw;obtain⟨_,_,rfl,rfl,⟨_,_,rfl,rfl,⟨_,_,rfl,⟨e96v2,rfl,e96h2⟩,⟨_,_,rfl,⟨e96v3,rfl,e96h3⟩,⟨e96v4,rfl,e96h4⟩⟩⟩⟩⟩:=Go.E.Rp.IA e96t0;refine Ah (C7 rfl AcQ rfl Fz aw (hH.trans p.arg)) rfl<|A3 Fz rfl rfl p fun cb cc ax bi _=>Ad 0 rfl Fz ax rfl (Bb rfl (Bb rfl (Bb e96h2.one (Bb e96h3.one (Bb e96h4.one I8))))) fun cd ay bj=>Ac<|Ai<|A3 AI rfl rfl ay fun bs bt g ba _=>Ac<|Ai<|Ah (A5 1 rfl AcQ rfl Fz g rfl) rfl<|As 2 rfl<|AB h fun ac h=>Ah (AK rfl ac) rfl<|Aq h fun az ad h=>A8 rfl rfl g (hself _ _ (Al hH g) (e96h2.mono (Ae hH)) (e96h3.mono (Ae hH)) (e96h4.mono (Ae hH)) ad) fun bu bk ae bb=>As 4 rfl<|Ad 0 rfl AI ae rfl (AT rfl) fun bv j bc=>Ac<|Ai<|Ah (A5 0 rfl AcP rfl AI j rfl) rfl<|Ah (AN rfl (fun _=>BL _)) rfl ?_
   refine Ah (JJ rfl rfl ID (Ld _ _ _ _)) rfl<|Ac<|Cf rfl h (fun af h=>?_) (fun af h=>?_)
   ·refine IQ (.q 0 (.q 1 (.tail 2))) mixed (by kernel_rfl) (fun bw ag=>?_);have u:=j.call ag;refine FK (A5 0 rfl AcP rfl AI u rfl) rfl rfl<|GQ 1 rfl<|DX (fun bx ah=>?_);have ai:=u.call ah;refine Ad 2 rfl AI ai rfl (AT rfl) fun bz v bd=>Ac<|Ax<|Az<|Ay<|Cv ?_;have h:=CV.out h s;refine Az<|BH ?_
    cases h
    refine B0 rfl (.tmp rfl) (.cell rfl AcP rfl AI (AG (i:=2) v rfl)) ⟨v.ext,rfl⟩
   refine Au<|AJ<|Ar<|Av<|AB h fun aj h=>Ah (AK rfl aj) rfl<|As 1 rfl<|AQ ?_;have ak:=j.AV (i:=0) rfl;have al:=ak.AV (i:=0) rfl;have h:=CV.again h s;refine AW (az.1,(a+1),z) (Sub.of rfl) ⟨al,h⟩ (Nat.lt_succ_self _)
  refine B5<|AE<|A7 ?_;have h:=CV.out h s;refine Bk<|A6 b (Sub.of rfl) ⟨p,h⟩
 rintro c b0 ⟨a3,h⟩;refine Bs 1 rfl<|Ah (AN rfl (fun _=>BL _)) rfl<|As 1 rfl<|Ad 0 rfl AI a3 rfl (AT rfl) fun b3 x be=>Ac<|Ax ?_
 cases h
 refine B0 rfl (.tmp rfl) (.cell rfl AcP rfl AI (AG (i:=0) x rfl)) ⟨x.ext,rfl⟩
theorem OQ(n:Nat):Is (D3 n):=by
 induction n with
 | zero=>unfold Is;intros;rename_i h;cases h
 | succ n ih=>exact Nk (D3 n) ih
theorem QT(w:World)(H:PH)(hH:Le H (hp w)){a0:Go.L.Pv}{a1 a2:Int}{a b c:Value}(d:AA .byte H a (a0.f.2.2.1))(e:AA .st H b (a0.f.2.2.2.1))(g:AA .tree H c (a0.f.2.2.2.2)){r:Int×(Int×Int)}(h:JT a0 a1 a2=some r):Ok prog 125 [.agg #[No a0.f.1,No a0.f.2.1,a,b,c],No a1,No a2] w (fun v w'=>Ext w w'/\v=.tuple #[No r.1,.agg #[No r.2.1,No r.2.2]]):=OQ 1000 w H hH d e g h
def H5(b:Aaz)(a:Int):Option Aaz:=
 Bh (Go.E.Ij 1 (b.length+([(Go.L.u8 a)]).length)) (some ((b++[(Go.L.u8 a)])))
def DU:Aaz×Int->Option ((Aaz×Int) ⊕ (Aaz)):=fun⟨b,a⟩=>
 if 128<=a then Bh (Go.E.Ij 1 (b.length+([((Go.L.u8 a) ||| (128:UInt8))]).length)) (some (Sum.inl ((b++[((Go.L.u8 a) ||| (128:UInt8))]),(a / 128)))) else Option.map Sum.inr (H5 b a)
def Jd(s:Aaz×Int):Option Aaz:=Go.L.run DU s
def CG(a0:Int):Option Aaz:=
 Bh ((0<=(IntKind.u64.wrap ((IntKind.u64.wrap a0) * 2))/\(IntKind.u64.wrap ((IntKind.u64.wrap a0) * 2))<2 ^ 64)/\(0<=(IntKind.u64.wrap (a0 / 9223372036854775808))/\(IntKind.u64.wrap (a0 / 9223372036854775808))<2 ^ 64)) (Jd (([]:Aaz),(((IntKind.u64.wrap ((IntKind.u64.wrap a0) * 2)).toNat ^^^ (IntKind.u64.wrap (a0 / 9223372036854775808)).toNat:Nat):Int)))
theorem BB(w:World)(H:PH)(hH:Le H (hp w)){a0:Int}{r:Aaz}(h:CG a0=some r):
  Ok prog 177 [No a0] w (fun v w'=>Ext w w'/\∃ u0,v=u0/\Ck 5 .byte H w w' u0 r):=by
 refine Aw (n:=27) [(0,No a0)] func177 rfl fun hL=>AD 1 rfl<|Bs 1 rfl<|Ah (IS AaA Ac0 rfl rfl) rfl<|Ah (Ab7 (c:=1) (m:=2) rfl rfl rfl (by decide) rfl) rfl<|As 1 rfl<|Ah (R6 (c:=63) (m:=9223372036854775808) rfl rfl rfl (by decide)) rfl<|Ah (IS AaA Ac0 rfl rfl) rfl<|AB h fun an h=>Ah (AaX rfl rfl rfl an) rfl<|A4 1 rfl<|Bs 1 rfl ?_;obtain⟨ao,av,ap⟩:=Ez .byte H 5 hL;refine Ac<|Bw (σ:=Aaz×Int×Value×(List Value)) (fun⟨o,d,p,j⟩=>[(3,.int .u64 d),(4,p)]) (fun⟨o,d,p,j⟩ wr=>FL w [.row p 5 1 (o).length j] wr fun Oz=>AF .byte (gz H w wr Oz) o j/\H5 o d=some r) ?_ ?_
 ·refine A2 ?_;obtain⟨s,h⟩:=AY h;refine B8 (σ:=Aaz×Int×Value×(List Value)×Nat) (fun⟨f,a,g,e,n⟩=>[(3,.int .u64 a),(4,g)]) (fun⟨f,a,g,e,n⟩ wr=>FL w [.row g 5 1 (f).length e] wr fun Oz=>AF .byte (gz H w wr Oz) f e/\GR DU n (f,a)=some r) (fun⟨f,a,g,e,n⟩=>n) (([]:Aaz),(((IntKind.u64.wrap ((IntKind.u64.wrap a0) * 2)).toNat ^^^ (IntKind.u64.wrap (a0 / 9223372036854775808)).toNat:Nat):Int),Aaq,[],s) (Sub.of rfl) ⟨ao,ap,h⟩ ?_;rintro⟨f,a,g,e,nn33⟩ aw ⟨t,k,h⟩;obtain⟨s,a2,rfl,h,u⟩:=AX h;refine A9<|AD 2 rfl<|AO rfl h (fun aa h=>?_) (fun aa h=>?_)
  ·refine Au<|Ar<|A9<|A2<|Av<|As 2 rfl<|Ah (IS Ac0 Acu rfl (Kx _)) rfl<|Ah (AaL (b:=128) rfl rfl rfl) rfl<|Br (r:=.byte) (l:=[((Go.L.u8 a) ||| (128:UInt8))]) rfl (fun _=>Vw _ _) rfl (B2 1) hH t (.c1 rfl .nil) fun a3 a4 ax ab y ac=>AB h fun ad h=>?_;have k:=k.mono (Aa hH y);refine Bi (r:=.byte) (l:=f) (m:=[((Go.L.u8 a) ||| (128:UInt8))]) 0 rfl rfl Abj NK rfl (by decide) rfl hH ab rfl k ac ad fun aq a5 ae af ar ag=>As 1 rfl<|AQ<|AJ<|Ar<|Av<|As 1 rfl<|Ah (R6 (c:=7) (m:=128) rfl rfl rfl (by decide)) rfl<|As 1 rfl<|AQ ?_;have h:=CV.again h u;refine AW ((f++[((Go.L.u8 a) ||| (128:UInt8))]),(a / 128),aq,ae,s) (Sub.of rfl) ⟨af,ag,h⟩ (Nat.lt_succ_self _)
  refine B5<|AE<|A7 ?_;have h:=CV.out h u;refine Bk<|A6 (f,a,g,e) (Sub.of rfl) ⟨t,k,h⟩
 rintro⟨o,d,p,j⟩ ay ⟨ah,q,h⟩;refine Bs 2 rfl<|Ah (IS Ac0 Acu rfl (Kx _)) rfl<|Br (r:=.byte) (l:=[(Go.L.u8 d)]) rfl (fun _=>Vw _ _) rfl (B2 1) hH ah (.c1 rfl .nil) fun a6 a7 az ai z aj=>AB h fun ak h=>?_;have q:=q.mono (Aa hH z);refine Bi (r:=.byte) (l:=o) (m:=[(Go.L.u8 d)]) 0 rfl rfl Abj NK rfl (by decide) rfl hH ai rfl q aj ak fun a8 a9 a1 x au al=>A4 1 rfl<|Ax ?_
 cases h
 refine Am rfl ⟨x.ext,_,rfl,(x.GS hH (i:=0) rfl al)⟩
def F4(a0:Aaz):Option Aaz:=
 Option.bind (CG (a0.length:Int)) (fun a=>Bh (Go.E.Ij 1 (a.length+a0.length)) (some ((a++a0))))
theorem D4(w:World)(H:PH)(hH:Le H (hp w)){a0:Aaz}{a:Value}(b:AA .byte H a a0){r:Aaz}(h:F4 a0=some r):
  Ok prog 178 [a] w (fun v w'=>Ext w w'/\∃ g,v=g/\Ck 5 .byte H w w' g r):=by
 refine Aw (n:=8) [(0,a)] func178 rfl fun hL=>AD 1 rfl<|Bs 1 rfl<|Ah (Bj rfl Abj b) rfl<|Aq h fun s j h=>Bf rfl rfl hL (BB _ _ (Al hH hL) j) ?_;rintro t z ⟨_,rfl,c⟩ k d f;obtain⟨x,d,f,o⟩:=c.take hH hL k;refine As 1 rfl<|AB h fun p h=>Bi (r:=.byte) (l:=s) (m:=a0) 0 rfl rfl Abj NK rfl (by decide) rfl hH d rfl o (b.mono (Ae hH)) p fun v3 w3 y e u q=>A4 1 rfl<|Ax ?_
 cases h
 refine Am rfl ⟨e.ext,_,rfl,(e.GS hH (i:=0) rfl q)⟩
def CH(a0:Go.L.Pv)(a:Int)(self:Go.L.Pv->Option Aaz)(b:Aaz):Option ((Aaz×Int) ⊕ (Aaz)):=
 Option.bind (self (a0.f.2.2.2.2.getD a.toNat default)) (fun c=>Bh (Go.E.Ij 1 (b.length+c.length)) (Bh (C0 (a+1)) (some (Sum.inl ((b++c),(a+1))))))
def E9(a:Aaz):Option Aaz:=
 some a
def BG(a0:Go.L.Pv)(self:Go.L.Pv->Option Aaz):Aaz×Int->Option ((Aaz×Int) ⊕ (Aaz)):=fun⟨b,a⟩=>
 if a<(a0.f.2.2.2.2.length:Int) then Bh (0<=a/\a<(a0.f.2.2.2.2.length:Int)) (if a0.f.1=4 then Bh (0<=a/\a<(a0.f.2.2.2.1.length:Int)) (Bh ((a0.f.2.2.2.1.getD a.toNat default).length<=9223372036854775807) (Option.bind (F4 (a0.f.2.2.2.1.getD a.toNat default)) (fun c=>Bh (Go.E.Ij 1 (b.length+c.length)) ((CH a0 a self) (b++c))))) else(CH a0 a self) b) else Option.map Sum.inr (E9 b)
def H6(a0:Go.L.Pv)(self:Go.L.Pv->Option Aaz)(s:Aaz×Int):Option Aaz:=Go.L.run (BG a0 self) s
def DI(self:Go.L.Pv->Option Aaz)(a0:Go.L.Pv):Option Aaz:=
 Option.bind (CG a0.f.1) (fun a=>if a0.f.1=1 then Option.bind (CG a0.f.2.1) (fun d=>Bh (Go.E.Ij 1 (a.length+d.length)) (some ((a++d)))) else(if a0.f.1=2 then Option.bind (F4 a0.f.2.2.1) (fun b=>Bh (Go.E.Ij 1 (a.length+b.length)) (some ((a++b)))) else Option.bind (CG (a0.f.2.2.2.2.length:Int)) (fun c=>Bh (Go.E.Ij 1 (a.length+c.length)) ((H6 a0 self) ((a++c),0)))))
def H7(self:Go.L.Pv->Option Aaz):Prop:=∀ (w:World) (H:PH) (hH:Le H (hp w)) {a0:Go.L.Pv} {a:Value} {b:Value} {c:Value} (e:AA .byte H a (a0.f.2.2.1)) (g:AA .st H b (a0.f.2.2.2.1)) (i:AA .tree H c (a0.f.2.2.2.2)) {r:Aaz} (h:self a0=some r),Ok prog 126 [.agg #[No a0.f.1,No a0.f.2.1,a,b,c]] w (fun v w'=>Ext w w'/\∃ d,v=d/\Ck 5 .byte H w w' d r)
def DJ:Nat->Go.L.Pv->Option Aaz
 | 0=>fun _=>none
 | n+1=>DI (DJ n)
def Je:Go.L.Pv->Option Aaz:=DJ 1000
theorem MG(self:Go.L.Pv->Option Aaz)(hself:H7 self):H7 (DI self):=by
 intro w H hH a0 ad ae s b9 ca an r h;unfold H7 at hself;refine Aw (n:=57) [(0,.agg #[No a0.f.1,No a0.f.2.1,ad,ae,s])] func126 rfl fun hL=>Ai<|Dq (t:=64) rfl rfl rfl hL fun w1 b1 ap da _=>A4 1 rfl<|Ai<|Ah (Af rfl AcQ rfl Dd) rfl<|Ah (Ag 0 rfl AaA rfl ap rfl) rfl<|Aq h fun x2 ct h=>Bf rfl rfl ap (BB _ _ (Al hH ap) ct) ?_;rintro db w3 ⟨_,rfl,bd⟩ cu d cb;obtain⟨dr,d,cb,k⟩:=bd.take hH ap cu;refine A4 1 rfl<|A9<|Ai<|Ah (Af rfl AcQ rfl Dd) rfl<|Ah (Ag 1 rfl AaA rfl d rfl) rfl<|Ac<|A2<|AD 2 rfl<|AO rfl h (fun cv h=>?_) (fun cv h=>?_)
 ·refine Bs 1 rfl<|Ah (Af rfl AcQ rfl Dd) rfl<|Ah (Ag 1 rfl AaA rfl d rfl) rfl<|Aq h fun x6 cw h=>Bf rfl rfl d (BB _ _ (Al hH d) cw) ?_;rintro dd w7 ⟨_,rfl,be⟩ cx cy cc;have af:=be.C8 hH d cx;have k:=k.mono (Aa hH cc);refine AB h fun cz h=>Bi (r:=.byte) (l:=x2) (m:=x6) 0 rfl rfl Abj NK rfl (by decide) rfl hH cy rfl k af cz ?_;intro v8 w8 ds b7 cd c0;have af:=af.mono (Aa hH cd);refine A4 1 rfl<|Ax<|Az<|Ay ?_
  cases h
  refine Am rfl ⟨b7.ext,_,rfl,(b7.GS hH (i:=0) rfl c0)⟩
 refine AD 2 rfl<|AO rfl h (fun ce h=>?_) (fun ce h=>?_)
 ·refine Bs 1 rfl<|Ah (Af rfl AcQ rfl Hv) rfl<|Ah (Ag 1 rfl Abj rfl d rfl) rfl<|Aq h fun c1 cf h=>Bf rfl rfl d (D4 _ _ (Al hH d) (b9.mono (Ae hH)) cf) ?_;rintro c5 dt ⟨_,rfl,ay⟩ cg ch bf;have aa:=ay.C8 hH d cg;have k:=k.mono (Aa hH bf);refine AB h fun ci h=>Bi (r:=.byte) (l:=x2) (m:=c1) 0 rfl rfl Abj NK rfl (by decide) rfl hH ch rfl k aa ci ?_;intro du dv de az bg cj;have aa:=aa.mono (Aa hH bg);refine A4 1 rfl<|Ax<|Az<|Ay ?_
  cases h
  refine Am rfl ⟨az.ext,_,rfl,(az.GS hH (i:=0) rfl cj)⟩
 refine Au<|AJ<|Ar<|Bs 1 rfl<|Ah (Af rfl AcQ rfl T2) rfl<|Ah (Ag 1 rfl Ade rfl d rfl) rfl<|Ah (Bj rfl Ade an) rfl<|Aq h fun b8 ck h=>Bf rfl rfl d (BB _ _ (Al hH d) ck) ?_;rintro c6 dw ⟨_,rfl,a1⟩ cl cm bh;have ab:=a1.C8 hH d cl;have k:=k.mono (Aa hH bh);refine AB h fun cn h=>Bi (r:=.byte) (l:=x2) (m:=b8) 0 rfl rfl Abj NK rfl (by decide) rfl hH cm rfl k ab cn ?_;intro c2 dx co a2 bi cp;have ab:=ab.mono (Aa hH bi);refine A4 1 rfl<|Bw (σ:=Aaz×Value×(List Value)) (fun⟨ak,ag,x⟩=>[(3,ag)]) (fun⟨ak,ag,x⟩ wr=>FL w [.row ag 5 1 (ak).length x,.box b1 [No a0.f.1,No a0.f.2.1,ad,ae,s] 64] wr fun Oz=>AF .byte (gz H w wr Oz) ak x/\E9 ak=some r) ?_ ?_
 ·refine Ai<|Ah (Af rfl AcQ rfl T2) rfl<|Ah (Ag 1 rfl Ade rfl a2 rfl) rfl<|Ah (Bj rfl Ade an) rfl<|A4 1 rfl<|A2 ?_;obtain⟨ao,h⟩:=AY h;refine B8 (σ:=Aaz×Int×Value×(List Value)×Nat) (fun⟨e,a,g,c,n⟩=>[(1,(Aas b1)),(3,g),(32,s),(33,No (a0.f.2.2.2.2.length:Int)),(34,No a)]) (fun⟨e,a,g,c,n⟩ wr=>FL w [.row g 5 1 (e).length c,.box b1 [No a0.f.1,No a0.f.2.1,ad,ae,s] 64] wr fun Oz=>AF .byte (gz H w wr Oz) e c/\GR (BG a0 self) n (e,a)=some r) (fun⟨e,a,g,c,n⟩=>n) ((x2++b8),0,c2,co,ao) (Sub.of rfl) ⟨a2,cp,h⟩ ?_;rintro⟨e,a,g,c,nn108⟩ c7 ⟨ah,b,h⟩;obtain⟨ao,cq,rfl,h,aq⟩:=AX h;refine AD 1 rfl<|A9<|AO rfl h (fun bj h=>?_) (fun bj h=>?_)
  ·refine Au<|Ar<|A9<|A2<|Bs 1 rfl<|AB h fun ar h=>Be rfl rfl Ade Fz an a.toNat (Hc ar) (Ba ar) rfl ?_;rintro df _ e112t0 bk;obtain⟨_,_,rfl,rfl,⟨_,_,rfl,rfl,⟨_,_,rfl,⟨e112v2,rfl,e112h2⟩,⟨_,_,rfl,⟨e112v3,rfl,e112h3⟩,⟨e112v4,rfl,e112h4⟩⟩⟩⟩⟩:=Go.E.Rp.IA e112t0;refine Ah (C7 rfl AcQ rfl Fz bk (hH.trans ah.arg)) rfl<|A3 Fz rfl rfl ah ?_;intro dg a3 bl a4 _;have b:=b.mono (Aa hH a4);refine As 1 rfl<|Ad 0 rfl Fz bl rfl (Bb rfl (Bb rfl (Bb e112h2.one (Bb e112h3.one (Bb e112h4.one I8))))) ?_;intro dh o a5;have b:=b.mono (Aa hH a5);refine Ac ?_
   refine Bw (σ:=Aaz×Value×(List Value)) (fun⟨j,y,p⟩=>[(1,(Aas b1)),(3,y),(5,(Aas a3)),(32,s),(33,No (a0.f.2.2.2.2.length:Int)),(34,No a)]) (fun⟨j,y,p⟩ wr=>FL w [.box a3 [No ((a0.f.2.2.2.2.getD a.toNat default).f.1),No ((a0.f.2.2.2.2.getD a.toNat default).f.2.1),e112v2,e112v3,e112v4] 64,.row y 5 1 (j).length p,.box b1 [No a0.f.1,No a0.f.2.1,ad,ae,s] 64] wr fun Oz=>AF .byte (gz H w wr Oz) j p/\(CH a0 a self) j=some cq) ?_ ?_
   ·refine Ai<|Ah (Af rfl AcQ rfl Dd) rfl<|Ah (Ag 2 rfl AaA rfl o rfl) rfl<|A4 1 rfl<|AO rfl h (fun bm h=>?_) (fun bm h=>?_)
    ·refine Av<|As 1 rfl<|Ah (Af rfl AcQ rfl LC) rfl<|Ah (Ag 2 rfl Ab1 rfl o rfl) rfl<|As 1 rfl<|AB h fun au h=>Be rfl rfl Ab1 Kq ca a.toNat (Hc au) (Ba au) rfl ?_;rintro di _ rfl bn;refine Ah (Bu rfl AaQ rfl bn (hH.trans o.arg)) rfl<|AB h fun bo h=>Xe (H:=H) rfl AaQ Abj Acu rfl o bo ?_;intro dj dk c8 ai a6 q;have b:=b.mono (Aa hH a6);refine Aq h fun a7 bp h=>Bf rfl rfl ai (D4 _ _ (Al hH ai) q bp) ?_;rintro c3 dl ⟨_,rfl,av⟩ bq br al;have u:=av.C8 hH ai bq;have b:=b.mono (Aa hH al);have q:=q.mono (Aa hH al);refine AB h fun bs h=>Bi (r:=.byte) (l:=e) (m:=a7) 1 rfl rfl Abj NK rfl (by decide) rfl hH br rfl b u bs ?_;intro cr dm bt bu am bv;have q:=q.mono (Aa hH am);have u:=u.mono (Aa hH am);refine As 1 rfl<|AQ<|A6 ((e++a7),cr,bt) (Sub.of rfl) ⟨bu,bv,h⟩
    refine Au<|A6 (e,g,c) (Sub.of rfl) ⟨o,b,h⟩
   rintro⟨j,y,p⟩ c9 ⟨z,ac,h⟩;refine Av<|As 1 rfl<|Ah (A5 0 rfl AcQ rfl Fz z rfl) rfl<|Aq h fun a8 bw h=>Bf rfl rfl z (hself _ _ (Al hH z) (e112h2.mono (Ae hH)) (e112h3.mono (Ae hH)) (e112h4.mono (Ae hH)) bw) ?_;rintro c4 dn ⟨_,rfl,aw⟩ bx bz a9;have v:=aw.C8 hH z bx;have ac:=ac.mono (Aa hH a9);refine AB h fun b0 h=>Bi (r:=.byte) (l:=j) (m:=a8) 1 rfl rfl Abj NK rfl (by decide) rfl hH bz rfl ac v b0 ?_;intro cs dp b2 b3 ba aj;have v:=v.mono (Aa hH ba);refine As 1 rfl<|AQ<|AJ<|Ar<|Av<|AB h fun b4 h=>Ah (AK rfl b4) rfl<|As 1 rfl<|AQ ?_;have b5:=b3.AV (i:=0) rfl;have aj:=aj.mono (Aa hH (An (i:=0) rfl));have h:=CV.again h aq;refine AW ((j++a8),(a+1),cs,b2,ao) (Sub.of rfl) ⟨b5,aj,h⟩ (Nat.lt_succ_self _)
  refine B5<|AE<|A7 ?_;have h:=CV.out h aq;refine Bk<|A6 (e,g,c) (Sub.of rfl) ⟨ah,b,h⟩
 rintro⟨ak,ag,x⟩ dq ⟨bb,b6,h⟩;refine AD 2 rfl<|Ax ?_
 cases h
 refine Am rfl ⟨bb.ext,_,rfl,(bb.GS hH (i:=0) rfl b6)⟩
theorem Ol(n:Nat):H7 (DJ n):=by
 induction n with
 | zero=>unfold H7;intros;rename_i h;cases h
 | succ n ih=>exact MG (DJ n) ih
theorem P7(w:World)(H:PH)(hH:Le H (hp w)){a0:Go.L.Pv}{a b c:Value}(d:AA .byte H a (a0.f.2.2.1))(e:AA .st H b (a0.f.2.2.2.1))(g:AA .tree H c (a0.f.2.2.2.2)){r:Aaz}(h:Je a0=some r):Ok prog 126 [.agg #[No a0.f.1,No a0.f.2.1,a,b,c]] w (fun v w'=>Ext w w'/\∃ i,v=i/\Ck 5 .byte H w w' i r):=Ol 1000 w H hH d e g h
def Jf(a0:Go.L.Pv):Option (Aaz×(Int×Int)):=
 Option.bind (JT a0 (0:Int) (1:Int)) (fun a=>if a.2.1=0/\a.2.2=0 then Option.bind (Je a0) (fun b=>if 4000<(b.length:Int) then Option.bind (IF (14:Int) (-1:Int)) (fun c=>some ([],(c.1,c.2))) else some (b,(0,0))) else some ([],(a.2.1,a.2.2)))
theorem P8(w:World)(H:PH)(hH:Le H (hp w)){a0:Go.L.Pv}{c d e:Value}(k:AA .byte H c (a0.f.2.2.1))(l:AA .st H d (a0.f.2.2.2.1))(m:AA .tree H e (a0.f.2.2.2.2)){r:Aaz×(Int×Int)}(h:Jf a0=some r):
  Ok prog 77 [.agg #[No a0.f.1,No a0.f.2.1,c,d,e]] w (fun v w'=>Ext w w'/\∃ u0,v=.tuple #[u0,.agg #[No r.2.1,No r.2.2]]/\Ck 5 .byte H w w' u0 (r.1)):=by
 refine Aw (n:=24) [(0,.agg #[No a0.f.1,No a0.f.2.1,c,d,e])] func77 rfl fun hL=>Ai<|Dq (t:=64) rfl rfl rfl hL fun w1 b1 ai au _=>As 1 rfl<|A3 AI rfl rfl ai fun w2 b2 o av _=>Ac<|A9<|Ai<|Ah (A5 1 rfl AcQ rfl Fz o rfl) rfl<|Aq h fun x3 aj h=>A8 rfl rfl o (QT (a0:=a0) _ _ (Al hH o) (k.mono (Ae hH)) (l.mono (Ae hH)) (m.mono (Ae hH)) aj) fun w4 a2 ak aw=>As 3 rfl<|A3 AI rfl rfl ak fun w5 b5 al ax _=>As 1 rfl<|Ad 0 rfl AI al rfl (AT rfl) fun w6 b ay=>Ac<|Ai<|Ah (A5 0 rfl AcP rfl AI b rfl) rfl<|Ah (AN rfl (fun _=>BL _)) rfl<|Ah (JJ rfl rfl ID (Ld _ _ _ _)) rfl<|Ac<|Cf rfl h (fun am h=>?_) (fun am h=>?_)
 ·refine IQ (.q 0 (.q 1 (.tail 2))) mixed (by kernel_rfl) (fun w9 an=>?_);have p:=b.call an;refine FK (A5 0 rfl AcP rfl AI p rfl) rfl rfl<|GQ 1 rfl<|DX (fun a3 aa=>?_);have ab:=p.call aa;refine Ad 1 rfl AI ab rfl (AT rfl) fun a4 s ao=>Ac<|Ax<|Ay ?_
  cases h
  refine B0 rfl (.tmp rfl) (.cell rfl AcP rfl AI (AG (i:=1) s rfl)) ⟨s.ext,_,rfl,Ck.nil⟩
 refine Au<|Ar<|Ai<|Ah (A5 2 rfl AcQ rfl Fz b rfl) rfl<|Aq h fun a5 ac h=>Bf rfl rfl b (P7 (a0:=a0) _ _ (Al hH b) (k.mono (Ae hH)) (l.mono (Ae hH)) (m.mono (Ae hH)) ac) ?_;rintro ap a6 ⟨_,rfl,u⟩ ad a y;obtain⟨az,a,y,g⟩:=u.take hH b ad;refine A4 1 rfl<|A9<|Bs 1 rfl<|Ah (O7 (i:=0) rfl Abj a rfl) rfl<|A4 1 rfl<|AO rfl h (fun ae h=>?_) (fun ae h=>?_)
 ·refine Ai<|Aq h fun a7 af h=>A8 rfl rfl a (K5 _ _ (Al hH a) af) fun a8 a1 ag aq=>As 1 rfl<|Ad 2 rfl AI ag rfl (AT rfl) fun a9 x ar=>Ac<|Ax<|Ay ?_
  cases h
  refine B0 rfl (.tmp rfl) (.cell rfl AcP rfl AI (AG (i:=2) x rfl)) ⟨x.ext,_,rfl,Ck.nil⟩
 refine Au<|Ar<|Bs 1 rfl<|Ah (AN rfl (fun _=>BL _)) rfl<|As 1 rfl<|Ad 2 rfl AI a rfl (AT rfl) fun ba j z=>Ac<|Ax ?_
 cases h
 refine B0 rfl (.tmp rfl) (.cell rfl AcP rfl AI (AG (i:=2) j rfl)) ?_;have g:=g.mono (Aa hH z);exact⟨j.ext,_,rfl,(j.GS hH (i:=0) rfl g)⟩
def Dj(a0:Go.L.Pv):Option ((Int×Int)):=
 Option.bind (Jf a0) (fun a=>some ((a.2.1,a.2.2)))
theorem KH(w:World)(H:PH)(hH:Le H (hp w)){a0:Go.L.Pv}{a b c:Value}(j:AA .byte H a (a0.f.2.2.1))(k:AA .st H b (a0.f.2.2.2.1))(l:AA .tree H c (a0.f.2.2.2.2)){r:(Int×Int)}(h:Dj a0=some r):
  Ok prog 46 [.agg #[No a0.f.1,No a0.f.2.1,a,b,c]] w (fun v w'=>Ext w w'/\v=.agg #[No r.1,No r.2]):=by
 refine Aw (n:=11) [(0,.agg #[No a0.f.1,No a0.f.2.1,a,b,c])] func46 rfl fun hL=>Ai<|Dq (t:=64) rfl rfl rfl hL fun w1 b1 m u _=>A3 AI rfl rfl m fun w2 b2 d x _=>Ac<|Ai<|Ah (A5 1 rfl AcQ rfl Fz d rfl) rfl<|Aq h fun x3 o h=>Bf rfl rfl d (P8 (a0:=a0) _ _ (Al hH d) (j.mono (Ae hH)) (k.mono (Ae hH)) (l.mono (Ae hH)) o) ?_;rintro _ w4 ⟨y,rfl,s⟩ ad p z;refine As 3 rfl<|A3 AI rfl rfl p fun w5 b5 q aa _=>As 1 rfl<|Ad 0 rfl AI q rfl (AT rfl) fun w6 e ab=>Ac<|Ai<|Ah (A5 0 rfl AcP rfl AI e rfl) rfl<|Ad 1 rfl AI e rfl (AT rfl) fun w7 g ac=>Ac<|Ax ?_
 cases h
 refine CM rfl (.cell rfl AcP rfl AI (AG (i:=1) g rfl)) ⟨g.ext,rfl⟩
end Go.Proofs.YtekmbcbgknmhiaaGreatDoor
end
noncomputable section
namespace Go
abbrev Ad1:=Aaz×Int×Int×Aaz
end Go
namespace Go.Proofs.YtekmbcbgknmhiaaGreatDoor
open Go Go.E Go.RowKit Go.L
set_option maxHeartbeats 1000000
set_option maxRecDepth 10000
open _root_.Go.Proofs.Tryz
def C6{σ:Type}(a0:Go.L.Pv)(a1:List Aaz)(a:Int)(self:Go.L.Pv->(List Aaz)->σ->Option σ)(b:Aaz)(sJ72:σ):Option ((Int×σ) ⊕ (σ)):=
 Option.bind (Cn a1) (fun c=>Bh (Go.E.Ij 16 (c.length+([b]).length)) (Option.bind (self (a0.f.2.2.2.2.getD a.toNat default) (c++[b]) sJ72) (fun d=>Bh (C0 (a+1)) (some (Sum.inl ((a+1),d))))))
def Cc{σ:Type}(a0:Go.L.Pv)(a1:List Aaz)(self:Go.L.Pv->(List Aaz)->σ->Option σ):Int×σ->Option ((Int×σ) ⊕ (σ)):=fun⟨a,sJ55⟩=>
 if a<(a0.f.2.2.2.2.length:Int) then Bh (0<=a/\a<(a0.f.2.2.2.2.length:Int)) (if a0.f.1=4 then Bh (0<=a/\a<(a0.f.2.2.2.1.length:Int)) ((C6 a0 a1 a self) (a0.f.2.2.2.1.getD a.toNat default) sJ55) else(C6 a0 a1 a self) ([35]:Aaz) sJ55) else Option.map Sum.inr (some sJ55)
def Hj{σ:Type}(a0:Go.L.Pv)(a1:List Aaz)(self:Go.L.Pv->(List Aaz)->σ->Option σ)(s:Int×σ):Option (σ):=Go.L.run (Cc a0 a1 self) s
def Dw{σ:Type}(step:σ->Ad1->Option σ)(self:Go.L.Pv->(List Aaz)->σ->Option σ)(a0:Go.L.Pv)(a1:List Aaz)(s:σ):Option (σ):=
 Option.bind (TU a1 ([47]:Aaz)) (fun b=>Option.bind (step s (b,a0.f.1,a0.f.2.1,a0.f.2.2.1)) (fun a=>(Hj a0 a1 self) (0,a)))
def DV{σ:Type}(step:σ->Ad1->Option σ):Nat->Go.L.Pv->(List Aaz)->σ->Option σ
 | 0=>fun _ _ _=>none
 | n+1=>Dw step (DV step n)
def Hg{σ:Type}(step:σ->Ad1->Option σ):Go.L.Pv->(List Aaz)->σ->Option σ:=DV step 1000
theorem MH{σ:Type}{d:World}{H:PH}(hH:Le H (hp d)){fc:FuncId}{cap:List Value}{J:σ->List BE->PH->Prop}{step:σ->Ad1->Option σ}(hcb:Cb prog d H fc cap J step){self:Go.L.Pv->(List Aaz)->σ->Option σ}(hself:∀ {w:World} {O R:List BE} {s:σ} {a0:Go.L.Pv} {a1:List Aaz} {va0_2:Value} {va0_3:Value} {va0_4:Value} {va1:Value} (hL:AU d (Ha O R) w) (ax:AA .byte (gz H d w (Ha O R)) va0_2 (a0.f.2.2.1)) (bs:AA .st (gz H d w (Ha O R)) va0_3 (a0.f.2.2.2.1)) (ay:AA .tree (gz H d w (Ha O R)) va0_4 (a0.f.2.2.2.2)) (bw:AA .st (gz H d w (Ha O R)) va1 a1) (hJ:J s R (gz H d w (Ha O R))) {r:σ} (h:self a0 a1 s=some r),Ok prog 82 [.agg #[No a0.f.1,No a0.f.2.1,va0_2,va0_3,va0_4],va1,.func (.func fc) #[] cap.toArray] w (fun v w'=>v=.tuple #[]/\∃ R':List BE,AU d (Ha O R') w'/\Le (fz w (Ha O R)) (fz w' (Ha O R'))/\J r R' (gz H d w' (Ha O R')))){w:World}{O R:List BE}{s:σ}{a0:Go.L.Pv}{a1:List Aaz}{va0_2 va0_3 va0_4 va1:Value}(hL:AU d (Ha O R) w)(ax:AA .byte (gz H d w (Ha O R)) va0_2 (a0.f.2.2.1))(bs:AA .st (gz H d w (Ha O R)) va0_3 (a0.f.2.2.2.1))(ay:AA .tree (gz H d w (Ha O R)) va0_4 (a0.f.2.2.2.2))(bw:AA .st (gz H d w (Ha O R)) va1 a1)(hJ:J s R (gz H d w (Ha O R))){r:σ}(h:Dw step self a0 a1 s=some r):
  Ok prog 82 [.agg #[No a0.f.1,No a0.f.2.1,va0_2,va0_3,va0_4],va1,.func (.func fc) #[] cap.toArray] w (fun v w'=>v=.tuple #[]/\∃ R':List BE,AU d (Ha O R') w'/\Le (fz w (Ha O R)) (fz w' (Ha O R'))/\J r R' (gz H d w' (Ha O R'))):=by
 refine Ey (n:=46) [(0,.agg #[No a0.f.1,No a0.f.2.1,va0_2,va0_3,va0_4]),(1,va1),(2,.func (.func fc) #[] cap.toArray)] func82 rfl rfl rfl rfl rfl ?_;have hT:=Le.refl (fz w (Ha O R));have aa:=hL.rG H;refine Ai<|Dq (t:=64) rfl rfl rfl hL ?_;intro w2 y cd bg _;have hJ:=hcb.mono (Aa hH bg) hJ;refine Ac<|IQ (.q 0 (.q 1 (.q 2 (.q 3 (.q 4 (.q 5 (.q 6 (.q 7 (.q 8 (.q 9 (.q 10 (.tail 11)))))))))))) mixed (by kernel_rfl) (fun w3 ce=>?_);have ap:=cd.call ce;have bh:=AP cd ce;have hJ:=hcb.mono (Aa hH bh) hJ;refine GQ 2 rfl<|Aq h fun x5 cw h=>?_;have aa:=aa.trans (Aa hH (bg.trans bh));refine KK rfl rfl rfl (fun w6 cx=>VG _ _ (Le.refl _) (((bw.mono aa).mono (Al hH ap)).mono cx.le) cw)<|FK (Af rfl AcQ rfl Dd) rfl rfl<|FK (Ag 0 rfl AaA rfl ap rfl) rfl rfl<|FK (Af rfl AcQ rfl Dd) rfl rfl<|FK (Ag 0 rfl AaA rfl ap rfl) rfl rfl<|FK (Af rfl AcQ rfl Hv) rfl rfl<|FK (Ag 0 rfl Abj rfl ap rfl) rfl rfl<|FK (Tp rfl Abj Acu AaQ (ax.mono aa) (Al hH ap)) rfl rfl<|FK (AN rfl (fun _=>Q3 _ rfl _ _ _ rfl _)) rfl rfl<|DX (fun w7 cf=>?_);have cy:=ap.call cf;have bi:=AP ap cf
 have hJ:=hcb.mono (Aa hH bi) hJ;refine Aq h fun cg ch h=>Es (cap:=cap) rfl rfl rfl (hcb.ok (O:=(Ha [.box y [No a0.f.1,No a0.f.2.1,va0_2,va0_3,va0_4] 64] O)) (R:=R) (x:=(x5,a0.f.1,a0.f.2.1,a0.f.2.2.1)) cy hJ ch) ?_;rintro _ w9 ⟨rfl,R9,bt,az,cz⟩;replace bt:AU d (Ha [.box y [No a0.f.1,No a0.f.2.1,va0_2,va0_3,va0_4] 64] (Ha O R9)) w9:=bt;replace az:Le (fz w7 (Ha [.box y [No a0.f.1,No a0.f.2.1,va0_2,va0_3,va0_4] 64] (Ha O R))) (fz w9 (Ha [.box y [No a0.f.1,No a0.f.2.1,va0_2,va0_3,va0_4] 64] (Ha O R9))):=az;replace hJ:J cg R9 (gz H d w9 (Ha [.box y [No a0.f.1,No a0.f.2.1,va0_2,va0_3,va0_4] 64] (Ha O R9))):=cz;refine Ac<|Ai<|Ah (Af rfl AcQ rfl T2) rfl<|Ah (Ag 0 rfl Ade rfl bt rfl) rfl ?_;have aa:=aa.trans (Aa hH (bi.trans az));refine Ah (Bj rfl Ade (ay.mono aa)) rfl<|A4 1 rfl<|A2 ?_;obtain⟨bu,h⟩:=AY h;have hT:=hT.trans (bg.trans (bh.trans (bi.trans az)))
 refine B8 (σ:=Int×σ×(List BE)×Nat) (fun⟨a,sJ55,RJ55,n⟩=>[(1,va1),(2,.func (.func fc) #[] cap.toArray),(3,(Aas y)),(22,va0_4),(23,No (a0.f.2.2.2.2.length:Int)),(24,No a)]) (fun⟨a,sJ55,RJ55,n⟩ wr=>FL d (Ha [.box y [No a0.f.1,No a0.f.2.1,va0_2,va0_3,va0_4] 64] (Ha O RJ55)) wr fun Oz=>AA .st (gz H d wr Oz) va1 a1/\AA .tree (gz H d wr Oz) va0_4 (a0.f.2.2.2.2)/\AA .byte (gz H d wr Oz) va0_2 (a0.f.2.2.1)/\AA .st (gz H d wr Oz) va0_3 (a0.f.2.2.2.1)/\Le (fz w (Ha O R)) (fz wr Oz)/\J sJ55 RJ55 (gz H d wr Oz)/\GR (Cc a0 a1 self) n (a,sJ55)=some r) (fun⟨a,sJ55,RJ55,n⟩=>n) (0,cg,R9,bu) (Sub.of rfl) ⟨bt,(bw.mono aa),(ay.mono aa),(ax.mono aa),(bs.mono aa),hT,hJ,h⟩ ?_;rintro⟨a,sJ55,RJ55,nn55⟩ c9 ⟨a2,a7,aq,a8,ar,hT,hJ,h⟩;obtain⟨bu,c0,rfl,h,bj⟩:=AX h;have o:=a2.rG H;refine AD 1 rfl<|A9<|AO rfl h (fun cj h=>?_) (fun cj h=>?_)
 ·refine Au<|Ar<|A9<|A2<|Bs 1 rfl<|AB h fun bx h=>Be rfl rfl Ade Fz (aq.mono o) a.toNat (Hc bx) (Ba bx) rfl ?_;rintro di _ e60t0 ck;obtain⟨_,_,rfl,rfl,⟨_,_,rfl,rfl,⟨_,_,rfl,⟨e60v2,rfl,e60h2⟩,⟨_,_,rfl,⟨e60v3,rfl,e60h3⟩,⟨e60v4,rfl,e60h4⟩⟩⟩⟩⟩:=Go.E.Rp.IA e60t0;refine Ah (C7 rfl AcQ rfl Fz ck (Al hH a2)) rfl<|A3 Fz rfl rfl a2 ?_;intro dj p cl e _;have hJ:=hcb.mono (Aa hH e) hJ;refine As 1 rfl<|Ad 0 rfl Fz cl rfl (Bb rfl (Bb rfl (Bb e60h2.one (Bb e60h3.one (Bb e60h4.one I8))))) ?_;intro dk aj g;have hJ:=hcb.mono (Aa hH g) hJ;refine Ac ?_;have k:=aj.rG H;refine AD 1 rfl ?_
  refine Bw (σ:=Aaz×σ×(List BE)) (fun⟨u,sJ72,RJ72⟩=>[(1,va1),(2,.func (.func fc) #[] cap.toArray),(3,(Aas y)),(7,(Aas p)),(8,(Aat u)),(22,va0_4),(23,No (a0.f.2.2.2.2.length:Int)),(24,No a)]) (fun⟨u,sJ72,RJ72⟩ wr=>FL d (Ha [.box p [No ((a0.f.2.2.2.2.getD a.toNat default).f.1),No ((a0.f.2.2.2.2.getD a.toNat default).f.2.1),e60v2,e60v3,e60v4] 64,.box y [No a0.f.1,No a0.f.2.1,va0_2,va0_3,va0_4] 64] (Ha O RJ72)) wr fun Oz=>AA .st (gz H d wr Oz) va1 a1/\AA .tree (gz H d wr Oz) va0_4 (a0.f.2.2.2.2)/\AA .byte (gz H d wr Oz) e60v2 ((a0.f.2.2.2.2.getD a.toNat default).f.2.2.1)/\AA .st (gz H d wr Oz) e60v3 ((a0.f.2.2.2.2.getD a.toNat default).f.2.2.2.1)/\AA .tree (gz H d wr Oz) e60v4 ((a0.f.2.2.2.2.getD a.toNat default).f.2.2.2.2)/\AA .byte (gz H d wr Oz) va0_2 (a0.f.2.2.1)/\AA .st (gz H d wr Oz) va0_3 (a0.f.2.2.2.1)/\Le (fz w (Ha O R)) (fz wr Oz)/\J sJ72 RJ72 (gz H d wr Oz)/\(C6 a0 a1 a self) u sJ72=some c0) ?_ ?_
  ·refine Ai<|Ah (Af rfl AcQ rfl Dd) rfl<|Ah (Ag 1 rfl AaA rfl aj rfl) rfl<|A4 1 rfl<|AO rfl h (fun cm h=>?_) (fun cm h=>?_)
   ·refine Av<|Ah (Af rfl AcQ rfl LC) rfl<|Ah (Ag 1 rfl Ab1 rfl aj rfl) rfl<|As 1 rfl<|AB h fun bz h=>?_;have o:=o.trans (Aa hH (e.trans g));refine Be rfl rfl Ab1 Kq ((ar.mono o).mono k) a.toNat (Hc bz) (Ba bz) rfl ?_;rintro dl _ rfl cn;refine Ah (Bu rfl AaQ rfl cn (Al hH aj)) rfl<|As 1 rfl<|AQ ?_;have e60h2:=e60h2.mono (Aa hH (e.trans g));have e60h3:=e60h3.mono (Aa hH (e.trans g));have e60h4:=e60h4.mono (Aa hH (e.trans g));have hT:=hT.trans (e.trans g);refine A6 (a0.f.2.2.2.1.getD a.toNat default,sJ55,RJ55) (Sub.of rfl) ⟨aj,((a7.mono o).mono k),((aq.mono o).mono k),(e60h2.mono k),(e60h3.mono k),(e60h4.mono k),((a8.mono o).mono k),((ar.mono o).mono k),hT,hJ,h⟩
   refine Au ?_;have e60h2:=e60h2.mono (Aa hH (e.trans g));have e60h3:=e60h3.mono (Aa hH (e.trans g));have e60h4:=e60h4.mono (Aa hH (e.trans g));have o:=o.trans (Aa hH (e.trans g));have hT:=hT.trans (e.trans g);refine A6 (([35]:Aaz),sJ55,RJ55) (Sub.of rfl) ⟨aj,((a7.mono o).mono k),((aq.mono o).mono k),(e60h2.mono k),(e60h3.mono k),(e60h4.mono k),((a8.mono o).mono k),((ar.mono o).mono k),hT,hJ,h⟩
  have hT:=hT.trans (e.trans g);rintro⟨u,sJ72,RJ72⟩ da ⟨bk,ae,a9,ba,bb,bc,bd,be,hT,hJ,h⟩;have c:=bk.rG H;refine Jw (Ik (Qm (NQ (Ik L6)))) (fun z0 z=>Le (gz H d z0 (Ha [.box p [No ((a0.f.2.2.2.2.getD a.toNat default).f.1),No ((a0.f.2.2.2.2.getD a.toNat default).f.2.1),e60v2,e60v3,e60v4] 64,.box y [No a0.f.1,No a0.f.2.1,va0_2,va0_3,va0_4] 64] (Ha O RJ72))) (hp z)/\z.heap[p]? = some (.cells [No ((a0.f.2.2.2.2.getD a.toNat default).f.1),No ((a0.f.2.2.2.2.getD a.toNat default).f.2.1),e60v2,e60v3,e60v4].toArray 64 (0,0))/\z.heap[y]? = some (.cells [No a0.f.1,No a0.f.2.1,va0_2,va0_3,va0_4].toArray 64 (0,0))) mixed rfl (fun a3 dm b0=>?_);have ab:=bk.call b0;have af:=AP bk b0;have hJ:=hcb.mono (Aa hH af) hJ;have b:=ab.rG H;refine LI ⟨b.trans (Al hH ab),ab.at (i:=0) rfl,ab.at (i:=1) rfl⟩ fun kI84=>A1 0 a3 kI84 (by kernel_rfl) rfl (fun _ hI=>JL rfl AcQ rfl Fz hI.2.1) rfl<|A1 1 a3 kI84 (by kernel_rfl) rfl (fun _ _=>Aj rfl) rfl<|A1 3 a3 kI84 (by kernel_rfl) rfl (fun _ _=>Aj rfl) rfl<|A1 6 a3 kI84 (by kernel_rfl) rfl (fun _ _=>Aj rfl) rfl<|WH (i:=2) (j:=4) (by kernel_rfl) rfl rfl ?_ ?_
  ·refine Aq h fun b1 bl h=>?_;have c:=c.trans (Aa hH af);refine Bf rfl rfl ab (E4 _ _ (Al hH ab) ((ae.mono c).mono b) bl) ?_;rintro c4 dn ⟨_,rfl,b3⟩ co au am;obtain⟨dc,au,am,bm⟩:=b3.take hH ab co;have hJ:=hcb.mono (Aa hH am) hJ;have b:=b.trans (Aa hH am);refine AL ⟨b.trans (Al hH au),au.at (i:=1) rfl,au.at (i:=2) rfl⟩ fun kI87=>Er (i:=4) (by kernel_rfl) rfl<|Br (r:=.st) (l:=[u]) rfl (fun _=>NT _ rfl _) rfl (B2 1) hH au (.c1 rfl .nil) ?_;intro dp dq dd a4 an cp;have hJ:=hcb.mono (Aa hH an) hJ;have b:=b.trans (Aa hH an);refine AL ⟨b.trans (Al hH a4),a4.at (i:=1) rfl,a4.at (i:=2) rfl⟩ fun kI89=>Er (i:=5) (by kernel_rfl) rfl<|AB h fun bn h=>?_;have bm:=bm.mono (Aa hH an);refine Bi (r:=.st) (l:=b1) (m:=[u]) 0 rfl rfl Ab1 Kq rfl (by decide) rfl hH a4 rfl bm cp bn ?_;intro dr c2 de av a5 cq;have hJ:=hcb.mono (Aa hH a5) hJ;have b:=b.trans (Aa hH a5);refine AL ⟨b.trans (Al hH av),av.at (i:=1) rfl,av.at (i:=2) rfl⟩ fun kI92=>Er (i:=7) (by kernel_rfl) rfl ?_;have cr:=av.C8 hH (i:=0) rfl cq
   have cs:=av.AV (i:=0) rfl;have hJ:=hcb.mono (Aa hH (An (i:=0) rfl)) hJ;refine Aq h fun bf bo h=>?_;have b:=b.trans (Aa hH (An (i:=0) rfl));refine EL rfl rfl (hself (O:=(Ha [.box p [No ((a0.f.2.2.2.2.getD a.toNat default).f.1),No ((a0.f.2.2.2.2.getD a.toNat default).f.2.1),e60v2,e60v3,e60v4] 64,.box y [No a0.f.1,No a0.f.2.1,va0_2,va0_3,va0_4] 64] O)) (R:=RJ72) cs ((ba.mono c).mono b) ((bb.mono c).mono b) ((bc.mono c).mono b) cr hJ bo) ?_;rintro _ b4 ⟨rfl,R94,ak,ao,ct⟩;replace ak:AU d (Ha [.box p [No ((a0.f.2.2.2.2.getD a.toNat default).f.1),No ((a0.f.2.2.2.2.getD a.toNat default).f.2.1),e60v2,e60v3,e60v4] 64,.box y [No a0.f.1,No a0.f.2.1,va0_2,va0_3,va0_4] 64] (Ha O R94)) b4:=ak;replace ao:Le (fz c2 (Ha [.box p [No ((a0.f.2.2.2.2.getD a.toNat default).f.1),No ((a0.f.2.2.2.2.getD a.toNat default).f.2.1),e60v2,e60v3,e60v4] 64,.box y [No a0.f.1,No a0.f.2.1,va0_2,va0_3,va0_4] 64] (Ha O RJ72))) (fz b4 (Ha [.box p [No ((a0.f.2.2.2.2.getD a.toNat default).f.1),No ((a0.f.2.2.2.2.getD a.toNat default).f.2.1),e60v2,e60v3,e60v4] 64,.box y [No a0.f.1,No a0.f.2.1,va0_2,va0_3,va0_4] 64] (Ha O R94))):=ao
   replace hJ:J bf R94 (gz H d b4 (Ha [.box p [No ((a0.f.2.2.2.2.getD a.toNat default).f.1),No ((a0.f.2.2.2.2.getD a.toNat default).f.2.1),e60v2,e60v3,e60v4] 64,.box y [No a0.f.1,No a0.f.2.1,va0_2,va0_3,va0_4] 64] (Ha O R94))):=ct;have b:=b.trans (Aa hH ao);refine AL ⟨b.trans (Al hH ak),ak.at (i:=0) rfl,ak.at (i:=1) rfl⟩ fun kI96=>D6 (by kernel_rfl)<|AJ<|Ar<|Av<|AB h fun bp h=>Ah (AK rfl bp) rfl<|As 1 rfl<|AQ ?_;have cu:=ak.AV (i:=0) rfl;have hJ:=hcb.mono (Aa hH (An (i:=0) rfl)) hJ;have h:=CV.again h bj;have hT:=hT.trans (af.trans (am.trans (an.trans (a5.trans ((An (i:=0) rfl).trans (ao.trans (An (i:=0) rfl)))))));have b:=b.trans (Aa hH (An (i:=0) rfl));refine AW ((a+1),bf,R94,bu) (Sub.of rfl) ⟨cu,((ae.mono c).mono b),((a9.mono c).mono b),((bd.mono c).mono b),((be.mono c).mono b),hT,hJ,h⟩ (Nat.lt_succ_self _)
  refine Aq h fun b1 bl h=>AB h fun bn h=>Aq h fun bf bo h=>AB h fun bp h=>Br (r:=.st) (l:=[u]) rfl (fun _=>NT _ rfl _) rfl (B2 1) hH ab (.c1 rfl .nil) ?_;intro ds dt df al a6 bq;have hJ:=hcb.mono (Aa hH a6) hJ;have b:=b.trans (Aa hH a6);refine AL ⟨b.trans (Al hH al),al.at (i:=0) rfl,al.at (i:=1) rfl⟩ fun kI100=>Er (i:=2) (by kernel_rfl) rfl ?_;have c:=c.trans (Aa hH af);refine Bf rfl rfl al (E4 _ _ (Al hH al) ((ae.mono c).mono b) bl) ?_;rintro c3 dg ⟨_,rfl,bv⟩ b5 ag ac;obtain⟨c5,ag,ac,b6⟩:=bv.take hH al b5;have hJ:=hcb.mono (Aa hH ac) hJ;have b:=b.trans (Aa hH ac);refine AL ⟨b.trans (Al hH ag),ag.at (i:=1) rfl,ag.at (i:=2) rfl⟩ fun kI102=>Er (i:=5) (by kernel_rfl) rfl ?_;have bq:=bq.mono (Aa hH ac);refine Bi (r:=.st) (l:=b1) (m:=[u]) 0 rfl rfl Ab1 Kq rfl (by decide) rfl hH ag rfl b6 bq bn ?_;intro dh cv c6 ah aw b7;have hJ:=hcb.mono (Aa hH aw) hJ;have b:=b.trans (Aa hH aw);refine AL ⟨b.trans (Al hH ah),ah.at (i:=1) rfl,ah.at (i:=2) rfl⟩ fun kI104=>?_
  refine Er (i:=7) (by kernel_rfl) rfl ?_;have b8:=ah.C8 hH (i:=0) rfl b7;have b9:=ah.AV (i:=0) rfl;have hJ:=hcb.mono (Aa hH (An (i:=0) rfl)) hJ;have b:=b.trans (Aa hH (An (i:=0) rfl));refine EL rfl rfl (hself (O:=(Ha [.box p [No ((a0.f.2.2.2.2.getD a.toNat default).f.1),No ((a0.f.2.2.2.2.getD a.toNat default).f.2.1),e60v2,e60v3,e60v4] 64,.box y [No a0.f.1,No a0.f.2.1,va0_2,va0_3,va0_4] 64] O)) (R:=RJ72) b9 ((ba.mono c).mono b) ((bb.mono c).mono b) ((bc.mono c).mono b) b8 hJ bo) ?_;rintro _ br ⟨rfl,R106,ad,ai,ca⟩;replace ad:AU d (Ha [.box p [No ((a0.f.2.2.2.2.getD a.toNat default).f.1),No ((a0.f.2.2.2.2.getD a.toNat default).f.2.1),e60v2,e60v3,e60v4] 64,.box y [No a0.f.1,No a0.f.2.1,va0_2,va0_3,va0_4] 64] (Ha O R106)) br:=ad
  replace ai:Le (fz cv (Ha [.box p [No ((a0.f.2.2.2.2.getD a.toNat default).f.1),No ((a0.f.2.2.2.2.getD a.toNat default).f.2.1),e60v2,e60v3,e60v4] 64,.box y [No a0.f.1,No a0.f.2.1,va0_2,va0_3,va0_4] 64] (Ha O RJ72))) (fz br (Ha [.box p [No ((a0.f.2.2.2.2.getD a.toNat default).f.1),No ((a0.f.2.2.2.2.getD a.toNat default).f.2.1),e60v2,e60v3,e60v4] 64,.box y [No a0.f.1,No a0.f.2.1,va0_2,va0_3,va0_4] 64] (Ha O R106))):=ai;replace hJ:J bf R106 (gz H d br (Ha [.box p [No ((a0.f.2.2.2.2.getD a.toNat default).f.1),No ((a0.f.2.2.2.2.getD a.toNat default).f.2.1),e60v2,e60v3,e60v4] 64,.box y [No a0.f.1,No a0.f.2.1,va0_2,va0_3,va0_4] 64] (Ha O R106))):=ca;have b:=b.trans (Aa hH ai);refine AL ⟨b.trans (Al hH ad),ad.at (i:=0) rfl,ad.at (i:=1) rfl⟩ fun kI107=>D6 (by kernel_rfl)<|AJ<|Ar<|Av<|Ah (AK rfl bp) rfl<|As 1 rfl<|AQ ?_;have cb:=ad.AV (i:=0) rfl;have hJ:=hcb.mono (Aa hH (An (i:=0) rfl)) hJ;have h:=CV.again h bj;have hT:=hT.trans (af.trans (a6.trans (ac.trans (aw.trans ((An (i:=0) rfl).trans (ai.trans (An (i:=0) rfl)))))));have b:=b.trans (Aa hH (An (i:=0) rfl))
  refine AW ((a+1),bf,R106,bu) (Sub.of rfl) ⟨cb,((ae.mono c).mono b),((a9.mono c).mono b),((bd.mono c).mono b),((be.mono c).mono b),hT,hJ,h⟩ (Nat.lt_succ_self _)
 refine B5<|AE<|A7 ?_;have h:=CV.out h bj;refine Bk ?_
 cases h
 refine IT rfl ?_;have cc:=a2.AV (i:=0) rfl;have hJ:=hcb.mono (Aa hH (An (i:=0) rfl)) hJ;have hT:=hT.trans (An (i:=0) rfl);exact⟨rfl,RJ55,cc,hT,hJ⟩
theorem Om{σ:Type}{a:World}{H:PH}(hH:Le H (hp a)){fc:FuncId}{cap:List Value}{J:σ->List BE->PH->Prop}{step:σ->Ad1->Option σ}(hcb:Cb prog a H fc cap J step)(n:Nat):∀ {w:World} {O R:List BE} {s:σ} {a0:Go.L.Pv} {a1:List Aaz} {va0_2:Value} {va0_3:Value} {va0_4:Value} {va1:Value} (hL:AU a (Ha O R) w) (b:AA .byte (gz H a w (Ha O R)) va0_2 (a0.f.2.2.1)) (c:AA .st (gz H a w (Ha O R)) va0_3 (a0.f.2.2.2.1)) (d:AA .tree (gz H a w (Ha O R)) va0_4 (a0.f.2.2.2.2)) (e:AA .st (gz H a w (Ha O R)) va1 a1) (hJ:J s R (gz H a w (Ha O R))) {r:σ} (h:DV step n a0 a1 s=some r),Ok prog 82 [.agg #[No a0.f.1,No a0.f.2.1,va0_2,va0_3,va0_4],va1,.func (.func fc) #[] cap.toArray] w (fun v w'=>v=.tuple #[]/\∃ R':List BE,AU a (Ha O R') w'/\Le (fz w (Ha O R)) (fz w' (Ha O R'))/\J r R' (gz H a w' (Ha O R'))):=by
 induction n with
 | zero=>intros;rename_i h;cases h
 | succ n ih=>exact fun {_} {_} {_} {_} {_} {_} {_} {_} {_} {_} hL b c d e hJ {_} h=>MH hH hcb (self:=DV step n) ih hL b c d e hJ h
theorem P9{σ:Type}{a:World}{H:PH}(hH:Le H (hp a)){fc:FuncId}{cap:List Value}{J:σ->List BE->PH->Prop}{step:σ->Ad1->Option σ}(hcb:Cb prog a H fc cap J step){w:World}{O R:List BE}{s:σ}{a0:Go.L.Pv}{a1:List Aaz}{va0_2 va0_3 va0_4 va1:Value}(hL:AU a (Ha O R) w)(b:AA .byte (gz H a w (Ha O R)) va0_2 (a0.f.2.2.1))(c:AA .st (gz H a w (Ha O R)) va0_3 (a0.f.2.2.2.1))(d:AA .tree (gz H a w (Ha O R)) va0_4 (a0.f.2.2.2.2))(e:AA .st (gz H a w (Ha O R)) va1 a1)(hJ:J s R (gz H a w (Ha O R))){r:σ}(h:Hg step a0 a1 s=some r):Ok prog 82 [.agg #[No a0.f.1,No a0.f.2.1,va0_2,va0_3,va0_4],va1,.func (.func fc) #[] cap.toArray] w (fun v w'=>v=.tuple #[]/\∃ R':List BE,AU a (Ha O R') w'/\Le (fz w (Ha O R)) (fz w' (Ha O R'))/\J r R' (gz H a w' (Ha O R'))):=Om hH hcb 1000 hL b c d e hJ h
end Go.Proofs.YtekmbcbgknmhiaaGreatDoor
end
noncomputable section
namespace Go.L
def Yj:List UInt8->List UInt8->List (List UInt8)
 | cur,[]=>[cur]
 | cur,c::s=>if c=47 then cur::Yj [] s else Yj (cur++[c]) s
def ZY:List (List UInt8)->Nat
 | []=>0
 | x::l=>x.length+1+ZY l
def sl(s:List UInt8):List (List UInt8):=if s=[] then[] else Yj [] s
def ZZ(c:UInt8):Bool:=decide ((97<=c.toNat/\c.toNat<=122)\/(48<=c.toNat/\c.toNat<=57)\/c.toNat=45\/c.toNat=95\/c.toNat=46)
def Sb(s:List UInt8):Bool:=decide (1<=s.length/\s.length<=32/\97<=(s.getD 0 default).toNat/\(s.getD 0 default).toNat<=122)&&s.all ZZ
def wr(w:Bool):Int->List (List UInt8)->Int
 | _,[]=>-1
 | a,x::l=>if(Sb x||decide (x=[35])||(w&&(decide (x=[42])||decide (x=[42,42]))))=true then wr w (a+x.length+1) l else a
theorem drop_cons{α:Type}[Inhabited α]{l:List α}{i:Nat}(h:i<l.length):l.drop i=l.getD i default::l.drop (i+1):=by
 rw [List.drop_eq_getElem_cons h];simp [List.getD_eq_getElem?_getD,List.getElem?_eq_getElem h]
theorem FZ{α:Type}[Inhabited α]{l:List α}{i:Nat}(h:i<l.length):l.getD i default∈l:=by
 rw [List.getD_eq_getElem?_getD,List.getElem?_eq_getElem h];exact List.getElem_mem h
end Go.L
namespace Go.Proofs.YtekmbcbgknmhiaaGreatDoor
open Go Go.L
theorem Sc(l:List UInt8)(k:Nat):((ByteArray.mk l.toArray).get! k).toNat=(l.getD k default).toNat:=by
 simp [ByteArray.get!,List.getD_eq_getElem?_getD,getElem!_def]
 cases l[k]? <;> rfl
theorem Aaa{l:List UInt8}{p:Nat}(h:(l.getD p default).toNat<128):Utf8.decode ⟨l.toArray⟩ p=((l.getD p default).toNat,1):=by
 unfold Utf8.decode;simp only [Nat.add_zero,Sc];rw [if_pos h]
theorem Yk{l:List UInt8}{p:Nat}(h : ¬ (l.getD p default).toNat<128):128<=(Utf8.decode ⟨l.toArray⟩ p).1:=by
 unfold Utf8.decode;simp only [Nat.add_zero,Sc];rw [if_neg h]
 split
 ·split
  ·rename_i h2;simpa using h2
  ·decide
 ·split
  ·split
   ·rename_i h2;simp only [ge_iff_le,Bool.and_eq_true,decide_eq_true_eq] at h2;show 128<=_;omega
   ·decide
  ·split
   ·split
    ·rename_i h2;simp only [ge_iff_le,Bool.and_eq_true,decide_eq_true_eq] at h2;show 128<=_;omega
    ·decide
   ·decide
theorem Yl(c:UInt8):SO c.toNat = !(ZZ c):=by
 unfold SO ZZ;generalize c.toNat=n;rw [Bool.eq_iff_iff];simp;omega
theorem Ym{a:List UInt8}:∀ (f p:Nat),a.length<=p+f->(0<=Lib.idxFuncFrom SO true ⟨a.toArray⟩ f p↔(a.drop p).all ZZ=false)
 | 0,p,h=>by
  rw [List.drop_eq_nil_of_le (by omega)];simp [Lib.idxFuncFrom]
 | f+1,p,h=>by
  have hsz:(ByteArray.mk a.toArray).size=a.length:=by simp [ByteArray.size]
  unfold Lib.idxFuncFrom;rw [hsz]
  by_cases hp:p<a.length
  ·rw [if_pos hp,drop_cons hp,List.all_cons]
   by_cases hc:(a.getD p default).toNat<128
   ·rw [Aaa hc];simp only [Yl]
    by_cases hn:ZZ (a.getD p default)=true
    ·rw [hn,if_neg (by decide),Bool.true_and];exact Ym f (p+1) (by omega)
    ·have hn':ZZ (a.getD p default)=false:=by simpa using hn
     rw [hn',if_pos (by decide)];simp
   ·have hb:SO (Utf8.decode ⟨a.toArray⟩ p).1=true:=by
     have:=Yk hc;unfold SO;simp;omega
    have hn:ZZ (a.getD p default)=false:=by
     unfold ZZ;rw [decide_eq_false_iff_not];omega
    rw [hb,if_pos rfl,hn];simp
  ·rw [if_neg hp,List.drop_eq_nil_of_le (by omega)];simp
theorem W3(a:List UInt8):QS a=some (!(a.all ZZ)):=by
 unfold QS Lib.idxFunc
 congr 1
 have:=Ym (a:=a) (ByteArray.mk a.toArray).size 0 (by simp [ByteArray.size]);rw [List.drop_zero] at this;rw [Bool.eq_iff_iff,decide_eq_true_eq,this];simp
theorem Aab(s:List UInt8):J4 s=some (Sb s):=by
 unfold J4 Sb
 by_cases a:s=[]
 ·subst a;rfl
 ·have hl:0<s.length:=List.length_pos_iff.2 a;rw [if_neg a]
  by_cases b:(32:Int)<(s.length:Int)
  ·rw [if_pos b,show decide (1<=s.length/\s.length<=32/\97<=(s.getD 0 default).toNat/\(s.getD 0 default).toNat<=122)=false by rw [decide_eq_false_iff_not];omega]
   rfl
  ·rw [if_neg b,Ak (by omega),Int.toNat_zero]
   by_cases h2:((s.getD 0 default).toNat:Int)<97
   ·rw [if_pos h2,show decide (1<=s.length/\s.length<=32/\97<=(s.getD 0 default).toNat/\(s.getD 0 default).toNat<=122)=false by rw [decide_eq_false_iff_not];omega]
    rfl
   ·rw [if_neg h2,Ak (by omega)]
    by_cases h3:122<((s.getD 0 default).toNat:Int)
    ·rw [if_pos h3,show decide (1<=s.length/\s.length<=32/\97<=(s.getD 0 default).toNat/\(s.getD 0 default).toNat<=122)=false by rw [decide_eq_false_iff_not];omega]
     rfl
    ·rw [if_neg h3,W3,show decide (1<=s.length/\s.length<=32/\97<=(s.getD 0 default).toNat/\(s.getD 0 default).toNat<=122)=true by rw [decide_eq_true_eq];omega];simp
end Go.Proofs.YtekmbcbgknmhiaaGreatDoor
end
noncomputable section
namespace Go.L
def zz(a:Int):Nat:=if 0<=a then(2 * a).toNat else(-2 * a - 1).toNat
theorem AbX{a:Int}(h:C0 a):zz a<18446744073709551616:=by unfold zz;unfold C0 at h;split <;> omega
def QU:Nat->Nat->List UInt8
 | 0,_=>[]
 | n+1,u=>if 128<=u then UInt8.ofNat (u % 128+128)::QU n (u / 128) else[UInt8.ofNat u]
def Lp(u:Nat):List UInt8:=QU 10 u
theorem Se:∀ n u,(QU n u).length<=n
 | 0,_=>by simp [QU]
 | n+1,u=>by
  unfold QU
  split
  ·have:=Se n (u / 128);simp only [List.length_cons];omega
  ·simp
theorem EA(u:Nat):(Lp u).length<=10:=Se 10 u
set_option maxRecDepth 20000 in
theorem AbY(u:Nat):u8 (u:Int) ||| 128=UInt8.ofNat (u % 128+128):=by
 have h:∀ b:Fin 256,(UInt8.ofNat b.val ||| 128)=UInt8.ofNat (b.val % 128+128):=by decide
 have:=h ⟨u % 256,Nat.mod_lt _ (by decide)⟩;dsimp only at this;unfold u8;rw [show((u:Int) % 256).toNat=u % 256 by omega,this]
 congr 2
 omega
theorem Yn{u:Nat}:u8 (u:Int)=UInt8.ofNat u:=by
 unfold u8;rw [show((u:Int) % 256).toNat=u % 256 by omega];apply UInt8.toNat.inj;simp
end Go.L
namespace Go.Proofs.YtekmbcbgknmhiaaGreatDoor
open Go Go.L
theorem TV:∀ (n u:Nat) (L:List UInt8),u<128 ^ n->L.length+n<=1000->n<=10->1<=n->Go.L.run DU (L,(u:Int))=some (L++QU n u)
 | 0,_,_,_,_,_,h=>absurd h (by omega)
 | n+1,u,L,hu,hL,hn,_=>by
  unfold QU
  by_cases h:128<=u
  ·have b:1<=n:=by
    rcases Nat.eq_zero_or_pos n with a | a
    ·subst a;simp at hu;omega
    ·exact a
   have e:DU (L,(u:Int))=some (.inl (L++[UInt8.ofNat (u % 128+128)],((u / 128:Nat):Int))):=by
    unfold DU;dsimp only;rw [if_pos (by omega),Ak (by unfold Go.E.Ij;simp;omega),AbY]
    rfl
   rw [Cu e,TV n (u / 128) _ (Nat.div_lt_of_lt_mul (by rw [Nat.pow_succ,Nat.mul_comm] at hu;exact hu)) (by simp;omega) (by omega) b,if_pos h];simp
  ·rw [if_neg h];refine BD (m:=some (L++[UInt8.ofNat u])) ?_;unfold DU H5;dsimp only;rw [if_neg (by omega),Ak (by unfold Go.E.Ij;simp;omega),Yn]
theorem Abq{x:Int}:IntKind.u64.wrap x=x % 18446744073709551616:=by
 simp only [IntKind.wrap];simp [IntKind.bits,IntKind.signed]
theorem Aac{k:Nat}(h:k<2 ^ 64):k ^^^ 18446744073709551615=18446744073709551615 - k:=by
 have h2:(BitVec.ofNat 64 k ^^^ BitVec.allOnes 64).toNat=(~~~ (BitVec.ofNat 64 k)).toNat:=by rw [BitVec.xor_allOnes]
 rw [BitVec.toNat_xor,BitVec.toNat_not,BitVec.toNat_ofNat,BitVec.toNat_allOnes,Nat.mod_eq_of_lt h] at h2;exact h2
theorem G0{a:Int}(h:C0 a):CG a=some (Lp (zz a)):=by
 have hz:=AbX h;unfold C0 at h;unfold CG;simp only [Abq];rw [Ak (by omega)];unfold Jd Lp
 have key:((((a % 18446744073709551616 * 2 % 18446744073709551616).toNat ^^^ (a / 9223372036854775808 % 18446744073709551616).toNat:Nat)):Int)=((zz a:Nat):Int):=by
  unfold zz
  by_cases b:0<=a
  ·rw [if_pos b,show a / 9223372036854775808 % 18446744073709551616=0 by omega];simp only [Int.toNat_zero,Nat.xor_zero];omega
  ·rw [if_neg b,show(a / 9223372036854775808 % 18446744073709551616).toNat=18446744073709551615 by omega,Aac (by omega)];omega
 rw [key,TV 10 (zz a) [] (Nat.lt_trans hz (by decide)) (by decide) (by decide) (by decide)]
 rfl
end Go.Proofs.YtekmbcbgknmhiaaGreatDoor
end
noncomputable section
namespace Go.L
structure OR (v:Pv):Prop where
 kind:v.f.1=1\/v.f.1=2\/v.f.1=3\/v.f.1=4
 num:v.f.1=1\/v.f.2.1=0
 bytes:v.f.1=2\/v.f.2.2.1=[]
 names:v.f.1=4\/v.f.2.2.2.1=[]
 parts:v.f.1=3\/v.f.1=4\/v.f.2.2.2.2=[]
 same:v.f.1=4->v.f.2.2.2.1.length=v.f.2.2.2.2.length
 many:v.f.2.2.2.2.length<=600
 Sb:∀ x∈v.f.2.2.2.1,Sb x=true
 nd:v.f.2.2.2.1.Nodup
def Vd:Nat->Pv->Prop
 | 0,_=>False
 | d+1,v=>OR v/\∀ p∈v.f.2.2.2.2,Vd d p
def Sm(B:Nat):Nat->Pv->Prop
 | 0,_=>True
 | d+1,v=>v.f.2.2.1.length<=B/\v.f.2.2.2.1.length<=B/\v.f.2.2.2.2.length<=B/\(∀ x∈v.f.2.2.2.1,x.length<=B)/\C0 v.f.1/\C0 v.f.2.1/\∀ p∈v.f.2.2.2.2,Sm B d p
def nodes:Nat->Pv->Nat
 | 0,_=>0
 | d+1,v=>1+(v.f.2.2.2.2.map (nodes d)).sum
end Go.L
namespace Go.Proofs.YtekmbcbgknmhiaaGreatDoor
open Go Go.L
theorem Yo{l:List Int}(hl:l.length<=1000)(a:Int):Cm l a=some (decide (a∈l)):=by
 have key:∀ (d i:Nat),i+d=l.length->∃ r,Go.L.run (BJ l a) (i:Int)=some r/\(0<=r↔a∈l.drop i):=by
  intro d
  induction d with
  | zero=>
   intro i hi;refine⟨-1,BD (m:=some (-1)) ?_,by rw [List.drop_eq_nil_of_le (by omega)];simp⟩;unfold BJ Dz;rw [if_neg (by omega)]
  | succ d ih=>
   intro i hi;have hil:i<l.length:=by omega
   rw [drop_cons hil]
   have hb:BJ l a (i:Int)=if a=l.getD i default then some (.inr (i:Int)) else some (.inl ((i+1:Nat):Int)):=by
    unfold BJ;rw [if_pos (by omega),Ak (by omega),Int.toNat_natCast,Ak (by unfold C0;omega)]
    rfl
   by_cases h:a=l.getD i default
   ·rw [if_pos h] at hb;exact⟨_,BD (m:=some (i:Int)) hb,by rw [h];simp⟩
   ·rw [if_neg h] at hb;obtain⟨r,b,h2⟩:=ih (i+1) (by omega);refine⟨r,by rw [Cu hb,b],h2.trans ?_⟩;rw [List.mem_cons];exact⟨.inr,fun hh=>hh.resolve_left h⟩
 unfold Cm E3 EF;obtain⟨r,b,h2⟩:=key l.length 0 (by omega);rw [show((0:Int))=((0:Nat):Int) from rfl,b,Option.bind_some];rw [List.drop_zero] at h2
 congr 1
 rw [Bool.eq_iff_iff,decide_eq_true_eq,decide_eq_true_eq];exact h2
theorem Yp{l:List (List UInt8)}(hl:l.length<=1000000000000)(a:List UInt8):BN l a=some (decide (a∈l)):=by
 have key:∀ (d i:Nat),i+d=l.length->∃ r,Go.L.run (Bx l a) (i:Int)=some r/\(0<=r↔a∈l.drop i):=by
  intro d
  induction d with
  | zero=>
   intro i hi;refine⟨-1,BD (m:=some (-1)) ?_,by rw [List.drop_eq_nil_of_le (by omega)];simp⟩;unfold Bx Cw;rw [if_neg (by omega)]
  | succ d ih=>
   intro i hi;have hil:i<l.length:=by omega
   rw [drop_cons hil]
   have hb:Bx l a (i:Int)=if a=l.getD i default then some (.inr (i:Int)) else some (.inl ((i+1:Nat):Int)):=by
    unfold Bx;rw [if_pos (by omega),Ak (by omega),Int.toNat_natCast,Ak (by unfold C0;omega)]
    rfl
   by_cases h:a=l.getD i default
   ·rw [if_pos h] at hb;exact⟨_,BD (m:=some (i:Int)) hb,by rw [h];simp⟩
   ·rw [if_neg h] at hb;obtain⟨r,b,h2⟩:=ih (i+1) (by omega);refine⟨r,by rw [Cu hb,b],h2.trans ?_⟩;rw [List.mem_cons];exact⟨.inr,fun hh=>hh.resolve_left h⟩
 unfold BN CD CZ;obtain⟨r,b,h2⟩:=key l.length 0 (by omega);rw [show((0:Int))=((0:Nat):Int) from rfl,b,Option.bind_some];rw [List.drop_zero] at h2
 congr 1
 rw [Bool.eq_iff_iff,decide_eq_true_eq,decide_eq_true_eq];exact h2
theorem Abr{l:List (List UInt8)}(hl:l.length<=1000000000000):Ft l=some (l.any fun x=>!Sb x):=by
 have key:∀ (d i:Nat),i+d=l.length->∃ r,Go.L.run (Cx l) (i:Int)=some r/\(0<=r↔(l.drop i).any (fun x=>!Sb x)=true):=by
  intro d
  induction d with
  | zero=>
   intro i hi;refine⟨-1,BD (m:=some (-1)) ?_,by rw [List.drop_eq_nil_of_le (by omega)];simp⟩;unfold Cx EW;rw [if_neg (by omega)]
  | succ d ih=>
   intro i hi;have hil:i<l.length:=by omega
   rw [drop_cons hil]
   have hb:Cx l (i:Int)=if(!Sb (l.getD i default))=true then some (.inr (i:Int)) else some (.inl ((i+1:Nat):Int)):=by
    unfold Cx FY;rw [if_pos (by omega),Ak (by omega),Int.toNat_natCast,Aab,Ak (by unfold C0;omega)]
    rfl
   by_cases h:(!Sb (l.getD i default))=true
   ·rw [if_pos h] at hb;exact⟨_,BD (m:=some (i:Int)) hb,by rw [List.any_cons,h];simp⟩
   ·rw [if_neg h] at hb;obtain⟨r,a,h2⟩:=ih (i+1) (by omega);refine⟨r,by rw [Cu hb,a],h2.trans ?_⟩;have hf:(!Sb (l.getD i default))=false:=by simpa using h
    rw [List.any_cons,hf,Bool.false_or]
 unfold Ft Gz Gq;obtain⟨r,a,h2⟩:=key l.length 0 (by omega);rw [show((0:Int))=((0:Nat):Int) from rfl,a,Option.bind_some];rw [List.drop_zero] at h2
 congr 1
 rw [Bool.eq_iff_iff,decide_eq_true_eq];exact h2
theorem VH{l:List (List UInt8)}(hl:l.length<=1000000000000):∀ (d i:Nat),i+d=l.length->(l.take i).Nodup->∃ c,Go.L.run (C3 l) (i:Int)=some c/\(c=0->l.Nodup)
 | 0,i,hi,hn=>by
  refine⟨0,BD (m:=some 0) ?_,fun _=>?_⟩
  ·unfold C3 F3;rw [if_neg (by omega)]
  ·rwa [List.take_of_length_le (by omega)] at hn
 | d+1,i,hi,hn=>by
  have hil:i<l.length:=by omega
  have hb:C3 l (i:Int)=if l.getD i default∈l.take i then some (.inr 8) else some (.inl ((i+1:Nat):Int)):=by
   unfold C3;rw [if_pos (by omega),Ak (by omega),Ak (by omega),Int.toNat_natCast,Yp (by rw [List.length_take];omega),Option.bind_some,Ak (by unfold C0;omega)]
   by_cases h:l.getD i default∈l.take i <;> simp [h]
  by_cases h:l.getD i default∈l.take i
  ·rw [if_pos h] at hb;exact⟨8,BD (m:=some 8) hb,fun hc=>by cases hc⟩
  ·rw [if_neg h] at hb
   obtain⟨c,f,h2⟩:=VH hl d (i+1) (by omega) (by
    rw [List.take_add_one,List.getElem?_eq_getElem hil];have e:l[i]=l.getD i default:=by rw [List.getD_eq_getElem?_getD,List.getElem?_eq_getElem hil];rfl
    rw [e];exact List.nodup_append.2 ⟨hn,List.pairwise_singleton _ _,fun a ha b hb e=>by rw [Option.toList_some,List.mem_singleton] at hb;subst hb;subst e;exact h ha⟩)
   exact⟨c,by rw [Cu hb,f],h2⟩
theorem AbZ(a b:Int)(c:List UInt8){ns:List (List UInt8)}(hn:ns.length<=1000000000000)(ps:List Pv)(fl:Bool):∃ r,B1 a b c ns ps fl=some r/\(r=0->fl=false/\ps.length<=600/\(∀ x∈ns,Sb x=true)/\ns.Nodup):=by
 unfold B1
 cases fl with
 | true=>exact⟨6,rfl,fun h=>by cases h⟩
 | false=>
  rw [if_neg (by decide)]
  by_cases d:(600:Int)<(ps.length:Int)
  ·rw [if_pos d];exact⟨14,rfl,fun h=>by cases h⟩
  ·rw [if_neg d,Abr hn,Option.bind_some]
   by_cases h2:(ns.any fun x=>!Sb x)=true
   ·rw [if_pos h2];exact⟨7,rfl,fun h=>by cases h⟩
   ·rw [if_neg h2];obtain⟨r,h3,e⟩:=VH hn ns.length 0 (by omega) (by simp);refine⟨r,h3,fun h=>⟨rfl,by omega,fun x hx=>?_,e h⟩⟩
    cases hk:Sb x with
    | true=>rfl
    | false=>exact absurd (List.any_eq_true.2 ⟨x,hx,by simp [hk]⟩) h2
theorem vc1{l:List Int}(hl:l.length<=1000)(v:Pv):BK l v=some (decide (v.f.1∈l),v):=by
 unfold BK;rw [Yo hl]
 rfl
set_option maxHeartbeats 4000000 in
theorem SP(v:Pv)(hn:v.f.2.2.2.1.length<=1000000000000):∃ c,EO v=some c/\(c=0->OR v):=by
 have fin:∀ fl:Bool,(fl=false->(v.f.1=1\/v.f.1=2\/v.f.1=3\/v.f.1=4)/\(v.f.1=1\/v.f.2.1=0)/\(v.f.1=2\/v.f.2.2.1=[])/\(v.f.1=4\/v.f.2.2.2.1=[])/\(v.f.1=3\/v.f.1=4\/v.f.2.2.2.2=[])/\(v.f.1=4->v.f.2.2.2.1.length=v.f.2.2.2.2.length))->
   ∃ c,B1 v.f.1 v.f.2.1 v.f.2.2.1 v.f.2.2.2.1 v.f.2.2.2.2 fl=some c/\(c=0->OR v):=by
  intro fl hfl;obtain⟨r,d,h2⟩:=AbZ v.f.1 v.f.2.1 v.f.2.2.1 hn v.f.2.2.2.2 fl;refine⟨r,d,fun hr=>?_⟩;obtain⟨e,g,i,j⟩:=h2 hr;obtain⟨m,o,p,q,s,t⟩:=hfl e;exact⟨m,o,p,q,s,t,g,i,j⟩
 have a:=vc1 (l:=[1,2,3,4]) (by decide) v;have u:=vc1 (l:=[1]) (by decide) v;have w:=vc1 (l:=[2]) (by decide) v;have x:=vc1 (l:=[3,4]) (by decide) v;have y:=vc1 (l:=[4]) (by decide) v
 by_cases hk:v.f.1=1\/v.f.1=2\/v.f.1=3\/v.f.1=4
 ·have ev:Pv.mk v.f.1 v.f.2.1 v.f.2.2.1 v.f.2.2.2.1 v.f.2.2.2.2=v:=by cases v;rfl
  unfold EO Ej Ei Eh;simp only [a,u,w,x,y,ev,Option.bind_some];generalize v.f.1=k at *;generalize v.f.2.1=n at *;generalize v.f.2.2.1=b at *;generalize v.f.2.2.2.1=ns at *;generalize v.f.2.2.2.2=ps at *
  have hb:b=[]\/(0:Int)<(b.length:Int):=by cases b with
   | nil=>exact .inl rfl
   | cons _ _=>exact .inr (by simp only [List.length_cons];omega)
  have hm:ns=[]\/(0:Int)<(ns.length:Int):=by cases ns with
   | nil=>exact .inl rfl
   | cons _ _=>exact .inr (by simp only [List.length_cons];omega)
  have hp:ps=[]\/(0:Int)<(ps.length:Int):=by cases ps with
   | nil=>exact .inl rfl
   | cons _ _=>exact .inr (by simp only [List.length_cons];omega)
  rcases hk with rfl | rfl | rfl | rfl <;> by_cases hz:n=0 <;> rcases hb with rfl | hb <;> rcases hm with rfl | hm <;> rcases hp with rfl | hp <;>
   simp +decide only [*,if_true,if_false,List.length_nil,Bool.not_true,Bool.not_false,Bool.false_eq_true,decide_true,decide_false,Int.lt_irrefl,Int.natCast_zero] <;>
   (refine fin _ fun hfl=>?_) <;> simp_all <;> omega
 ·refine⟨5,?_,fun h=>by cases h⟩;unfold EO;rw [a,Option.bind_some];rw [if_pos (by simp [hk])]
end Go.Proofs.YtekmbcbgknmhiaaGreatDoor
end
noncomputable section
namespace Go.Proofs.YtekmbcbgknmhiaaGreatDoor
open Go Go.L
abbrev En:Type:=Lf×List Int
end Go.Proofs.YtekmbcbgknmhiaaGreatDoor
end
noncomputable section
namespace Go.E
open Go Go.RowKit
theorem TW{κ:Type}{enc:κ->Value}:∀ (l:List κ) (vs:List Value) (i:Nat),l.length=vs.length->(mE enc i l vs).map (·.born)=List.range' i l.length
 | [],[],_,_=>rfl
 | a::l,u::vs,i,h=>by
  simp only [mE,List.map_cons,List.length_cons,List.range'_succ];rw [TW l vs (i+1) (by simpa using h)]
theorem Yq{κ:Type}{enc:κ->Value}{l:List κ}{vs:List Value}(h:l.length=vs.length){x:MapEntry}(hx:x∈mE enc 0 l vs):∃ a,l[x.born]? = some a/\x=⟨enc a,vs.getD x.born default,x.born⟩:=by
 obtain⟨j,hj⟩:=List.getElem?_of_mem hx;have hjl:j<l.length:=by have:=(List.getElem?_eq_some_iff.1 hj).1;rwa [OH l vs 0 h] at this
 have:=OG (enc:=enc) l vs 0 j l[j] h (List.getElem?_eq_getElem hjl);rw [hj,Nat.zero_add] at this;obtain rfl:=Option.some.inj this;exact⟨l[j],List.getElem?_eq_getElem hjl,rfl⟩
section
variable {P:Program} {n:Sz} {ops:Array Oper} {Q:Exit->Act->World->Prop} {L:Env} {w w0:World} {O:List BE} {rest:List Oper} {d:Nat} {ty t kt et:TypeId} {pos:String} {af:Array Edge} {x:Operand} {κ:Type} {enc:κ->Value} {keys:List κ} {vs:List Value} {m N:Nat}
theorem Yr[Dr](hx:ev L x=some (.map (some m)))(ht:P.underlying t=some (.map kt et))(hm:w.heap[m]? = some (.map (mE enc 0 keys vs).toArray N))(hn:Nat.blt d n.n=true)(hL:AU w0 O w)
  (h:∀ w' b,AU w0 (.obj b (.mapIter (some m) N ([]:List Nat).toArray N)::O) w'->Le (fz w O) (fz w' (.obj b (.mapIter (some m) N ([]:List Nat).toArray N)::O))->S P n ops Q rest ((d,.pointer (some ⟨b,0,none⟩))::L) w'):S P n ops Q (⟨some d,.range t x,ty,pos,af,none⟩::rest) L w:=by
 have hb:∀ b,(BE.obj w.heap.size (.mapIter (some m) N ([]:List Nat).toArray N)).block=some b->w.heap.size<=b:=fun b e=>by cases e;exact Nat.le_refl _
 refine Dl (v:=.pointer (some ⟨w.heap.size,0,none⟩)) (w':=w.alloc (.mapIter (some m) N ([]:List Nat).toArray N)) rfl rfl hn (fun ρ hρ=>?_) (h _ _ (hL.new (C2 w _) (World.alloc_heap_new w _) hb) (N6 hL (C2 w _) hb));have:=run_range_map (P:=P) w t kt et m _ N ht hm;simp [execOp,hρ x _ hx,this]
theorem Aad[Dr](i:Nat){b:Nat}{seen:List Nat}(hx:ev L x=some (.pointer (some ⟨b,0,none⟩)))(hn:Nat.blt d n.n=true)(hL:AU w0 O w)(hi:Dx O i=some (.obj b (.mapIter (some m) N seen.toArray N)))(hm:w.heap[m]? = some (.map (mE enc 0 keys vs).toArray N))(hk:keys.length=vs.length)(hN:keys.length=N)
  (r:∀ j a,keys[j]? = some a->j∉seen->∀ w',AU w0 (CK O i (.obj b (.mapIter (some m) N (seen++[j]).toArray N))) w'->Le (fz w O) (fz w' (CK O i (.obj b (.mapIter (some m) N (seen++[j]).toArray N))))->w'.heap[m]? = some (.map (mE enc 0 keys vs).toArray N)->S P n ops Q rest ((d,.tuple #[.bool true,enc a,vs.getD j default])::L) w')
  (h2:(∀ j,j<N->j∈seen)->S P n ops Q rest ((d,.tuple #[.bool false])::L) w):S P n ops Q (⟨some d,.next x false,ty,pos,af,none⟩::rest) L w:=by
 have hb:w.heap[b]? = some (.mapIter (some m) N seen.toArray N):=hL.at hi
 have hold:∀ x∈(mE enc 0 keys vs).toArray.toList,x.born<N:=fun x hx=>by
  obtain⟨a,ha,_⟩:=Yq hk (by simpa using hx);have:=(List.getElem?_eq_some_iff.1 ha).1;omega
 rcases run_next_at (P:=P) w ty b m N N seen.toArray _ N hb hm hold (Nat.le_refl _) with ⟨s,hr⟩ | ⟨e,he,c,k,hr⟩
 ·refine Dl (v:=.tuple #[.bool false]) (w':=w) rfl rfl hn (fun ρ hρ=>by simp [execOp,hρ x _ hx,hr]) (h2 fun j hj=>?_);have hjk:j<keys.length:=by omega
  have hg:=OG (enc:=enc) keys vs 0 j keys[j] hk (List.getElem?_eq_getElem hjk);rw [Nat.zero_add] at hg;have hemp:leftOf (mE enc 0 keys vs).toArray seen.toArray = #[]:=Array.eq_empty_of_size_eq_zero s;unfold leftOf at hemp;rw [Array.filter_eq_empty_iff] at hemp;have:=hemp _ (by simpa using List.mem_of_getElem? hg)
  simpa using this
 ·have hmem:e∈mE enc 0 keys vs/\e.born∉seen:=by
   unfold leftOf at he
   simpa using he
  obtain⟨a,ha,hee⟩:=Yq hk hmem.1
  have f:Ext w c:=by
   rcases k with rfl | rfl
   ·exact Ext.refl _
   ·exact JI
  have l:=hL.call f;have g:=AP hL f;have hput:=l.putAt (.mapIter (some m) N (seen++[e.born]).toArray N) hi;have hne:m≠b:=fun eq=>by rw [eq,hb] at hm;cases hm
  have o:c.heap[m]? = some (.map (mE enc 0 keys vs).toArray N):=by rw [f.block m (lt_of_heap hm)];exact hm
  have p:(c.putObj b (.mapIter (some m) N (seen++[e.born]).toArray N)).heap[m]? = some (.map (mE enc 0 keys vs).toArray N):=by rw [World.putObj_heap_other hne];exact o
  have hval:e.key=enc a/\e.val=vs.getD e.born default:=by rw [hee];exact⟨rfl,rfl⟩
  rw [hval.1,hval.2] at hr
  have q:ChangeMaps.setBlock c b (.mapIter (some m) N (seen.toArray.push e.born) N)=c.putObj b (.mapIter (some m) N (seen++[e.born]).toArray N):=by
   rw [List.push_toArray];rfl
  rw [q] at hr;refine Dl (v:=_) (w':=_) rfl rfl hn (fun ρ hρ=>?_) (r e.born a ha hmem.2 _ hput.1 (g.trans hput.2) p);simp [execOp,hρ x _ hx,hr]
theorem Ys{b:Nat}{seen:List Nat}{j:Nat}{a:κ}(hx:ev L x=some (.pointer (some ⟨b,0,none⟩)))(hn:Nat.blt d n.n=true)(hb:w.heap[b]? = some (.mapIter (some m) N (seen++[j]).toArray N))(hm:w.heap[m]? = some (.map (mE enc 0 keys vs).toArray N))(hk:keys.length=vs.length)(ha:keys[j]? = some a)
  (h:S P n ops Q rest ((d,.tuple #[enc a,vs.getD j default])::L) w):S P n ops Q (⟨some d,.entry x,ty,pos,af,none⟩::rest) L w:=by
 have hg:=OG (enc:=enc) keys vs 0 j a hk ha;rw [Nat.zero_add] at hg;have hr:=run_entry_at (P:=P) w b m N seen.toArray (mE enc 0 keys vs).toArray N ⟨enc a,vs.getD j default,j⟩ (by rw [hb,List.push_toArray]) hm (by simpa using List.mem_of_getElem? hg) (by rw [List.toList_toArray,TW _ _ _ hk];exact List.nodup_range');refine Dl (v:=_) (w':=w) rfl rfl hn (fun ρ hρ=>?_) h;simp [execOp,hρ x _ hx,hr]
end
end Go.E
end
noncomputable section
namespace Go.L
theorem MI{α:Type}{c:α->α->Int}(h:Py c):∀ {l m:List α},l.Perm m->l.Pairwise (fun x y=>(!(Go.Proofs.ltOf c) y x)=true)->m.Pairwise (fun x y=>(!(Go.Proofs.ltOf c) y x)=true)->l=m
 | [],m,hp,_,_=>hp.nil_eq
 | a::l,m,hp,hl,hm=>by
  cases m with
  | nil=>exact absurd hp.symm.nil_eq (by simp)
  | cons b m=>
   obtain⟨f,g⟩:=List.pairwise_cons.1 hl;obtain⟨i,j⟩:=List.pairwise_cons.1 hm
   have hab:a=b:=by
    by_cases e:a=b
    ·exact e
    ·have ha:a∈m:=by rcases List.mem_cons.1 (hp.mem_iff.1 (.head _)) with d | d;exact absurd d e;exact d
     have hb:b∈l:=by rcases List.mem_cons.1 (hp.mem_iff.2 (.head _)) with d | d;exact absurd d.symm e;exact d
     exact h.parts a b (by simpa using i a ha) (by simpa using f b hb)
   subst hab;rw [MI h hp.cons_inv g j]
theorem VI:∀ (N:Nat) (l:List Nat),l.Nodup->(∀ j∈l,j<N)->l.length<=N
 | 0,l,_,h=>by
  cases l with
  | nil=>exact Nat.le_refl _
  | cons a l=>exact absurd (h a (.head _)) (Nat.not_lt_zero a)
 | N+1,l,hn,h=>by
  have b:=VI N (l.erase N) (hn.erase N) (fun j hj=>by
   have h2:=(hn.mem_erase_iff).1 hj;have:=h j h2.2;omega)
  by_cases hm:N∈l
  ·rw [List.length_erase_of_mem hm] at b;omega
  ·rw [List.erase_of_not_mem hm] at b;omega
theorem Yt{α:Type}{c:α->α->Int}(h:Py c){l m:List α}(hp:l.Perm m):(l.mergeSort fun x y=>!(Go.Proofs.ltOf c) y x)=m.mergeSort fun x y=>!(Go.Proofs.ltOf c) y x:=by
 have htr:∀ a b c':α,(!(Go.Proofs.ltOf c) b a)=true->(!(Go.Proofs.ltOf c) c' b)=true->(!(Go.Proofs.ltOf c) c' a)=true:=by
  intro a b d g h2;simp only [Go.Proofs.ltOf,Bool.not_eq_true',decide_eq_false_iff_not] at *;intro h3;have f:=h.swap a b;have i:=h.swap b d
  rcases Int.lt_trichotomy (c a b) 0 with e | e | e
  ·exact h2 (h.trans d a b h3 e)
  ·rw [h.zero a b e] at h3;exact h2 h3
  ·omega
 have hto:∀ a b:α,((!(Go.Proofs.ltOf c) b a)||(!(Go.Proofs.ltOf c) a b))=true:=by
  intro a b;have f:=h.swap a b;simp only [Go.Proofs.ltOf,Bool.or_eq_true,Bool.not_eq_true',decide_eq_false_iff_not];omega
 refine MI h (((List.mergeSort_perm l _).trans hp).trans (List.mergeSort_perm m _).symm) ?_ ?_
 ·exact List.pairwise_mergeSort htr hto l
 ·exact List.pairwise_mergeSort htr hto m
end Go.L
namespace Go.Proofs.YtekmbcbgknmhiaaGreatDoor
open Go Go.E Go.RowKit Go.Shelf Go.L Go.Sort
abbrev Mm(x:Lf):List Value:=[.string ⟨x.1.toArray⟩,.int .i64 x.2.1,.int .i64 x.2.2.1,.string ⟨x.2.2.2.toArray⟩]
abbrev PA:Rp Lf:=.pair .st (.pair (.int .i64) (.pair (.int .i64) .st))
theorem UN(G:PH)(x:Lf)(c:List Value):PA.rel G x c↔c=Mm x:=by
 constructor
 ·rintro⟨_,_,rfl,rfl,_,_,rfl,rfl,_,_,rfl,rfl,rfl⟩
  rfl
 ·rintro rfl;exact⟨[_],[_,_,_],rfl,rfl,[_],[_,_],rfl,rfl,[_],[_],rfl,rfl,rfl⟩
theorem Yu{G:PH}{l:List Lf}{xs:List Value}(h:AF PA G l xs):l.flatMap Mm=xs:=by
 induction h with
 | nil=>rfl
 | cons h _ ih=>rw [List.flatMap_cons,ih,(UN _ _ _).1 h]
theorem TX(G:PH):∀ l:List Lf,AF PA G l (l.flatMap Mm)
 | []=>.nil
 | x::l=>by rw [List.flatMap_cons];exact .cons ((UN _ _ _).2 rfl) (TX G l)
theorem Yv(l:List Lf):∀ t,t<l.length * 4->(l.flatMap Mm)[t]? = some ((Mm (l.getD (t / 4) default)).toArray[t % 4]!):=by
 induction l with
 | nil=>intro t h;simp at h
 | cons a l ih=>
  intro t h;rw [List.flatMap_cons]
  by_cases b:t<4
  ·rw [List.getElem?_append_left b,Nat.div_eq_of_lt b,Nat.mod_eq_of_lt b];have:t=0\/t=1\/t=2\/t=3:=by omega
   rcases this with rfl | rfl | rfl | rfl <;> rfl
  ·rw [List.getElem?_append_right (by simpa using b)];have:=ih (t - 4) (by simp only [List.length_cons] at h;omega);rw [show(Mm a).length=4 from rfl,this];obtain⟨s,rfl⟩:∃ s,t=s+4:=⟨t - 4,by omega⟩;rw [Nat.add_sub_cancel,Nat.add_div_right _ (by decide),Nat.add_mod_right]
   rfl
theorem Sf(l:List Lf):(flatK Mm 4 l.toArray).toList=l.flatMap Mm:=by
 have hlen:(l.flatMap Mm).length=l.length * 4:=by
  induction l with
  | nil=>rfl
  | cons a l ih=>rw [List.flatMap_cons,List.length_append,ih];show 4+l.length * 4=(l.length+1) * 4;omega
 apply List.ext_getElem?;intro t
 by_cases h:t<l.length * 4
 ·rw [Yv l t h];have hs:t<(flatK Mm 4 l.toArray).size:=by simpa using h
  have h2:=get_flatK Mm 4 l.toArray t (by simpa using h);rw [getElem!_pos _ t hs] at h2;rw [Array.getElem?_toList,Array.getElem?_eq_getElem hs,h2];have hd:t / 4<l.length:=by omega
  have b:l.toArray[t / 4]! = l.getD (t / 4) default:=by simp [hd]
  rw [b];simp
 ·rw [List.getElem?_eq_none (by simpa using h),List.getElem?_eq_none (by omega)]
theorem Aae{n:Sz}{ops:Array Oper}{Q:Exit->Act->World->Prop}{L:Env}{w b:World}{O:List BE}{rest:List Oper}{d:Nat}{ty:TypeId}{pos:String}{af:Array Edge}{v:Value}{H:PH}{i:Nat}{at_:Array TypeId}{args:List Operand}{xs:List Value}{l:List Lf}
  (ha:O1 L args=some [v,.func (.func 137) #[] #[]]) (hn:Nat.blt d n.n=true) (_hH:Le H (hp b)) (hL:AU b O w) (hi:Dx O i=some (.row v 142 4 l.length xs)) (he:AF PA (gz H b w O) l xs) (hlen:l.length<4611686018427387904)
  (h:∀ w' xs',AU b (CK O i (.row v 142 4 (Jx l).length xs')) w'->Le (fz w O) (fz w' (CK O i (.row v 142 4 (Jx l).length xs')))->AF PA (gz H b w' (CK O i (.row v 142 4 (Jx l).length xs'))) (Jx l) xs'->S Tryz.prog n ops Q rest ((d,.tuple #[])::L) w') :
  S Tryz.prog n ops Q (⟨some d,.call ⟨.value (.func 186),args.toArray,at_⟩,ty,pos,af,none⟩::rest) L w:=by
 have hxs:=Yu he;have hll:(Jx l).length=l.length:=MA l
 have hfl:∀ l:List Lf,(l.flatMap Mm).length=l.length * 4:=fun l=>by
  induction l with
  | nil=>rfl
  | cons a l ih=>rw [List.flatMap_cons,List.length_append,ih];show 4+l.length * 4=(l.length+1) * 4;omega
 refine Q6 (l':=Jx l) (enc:=(id:Value->Value)) (dd:=flatK Mm 4 (Jx l).toArray) (ys:=(Jx l).flatMap Mm) ⟨Tryz.f186,_,Tryz.func186,rfl,rfl⟩ ha hn hL hi (by rw [List.map_id];exact Sf _) hll (by rw [<- hxs,hfl,hfl,hll]) (fun c=>?_) (fun hv=>?_) (fun g cap hv hcap=>?_) (fun w' e h2=>h w' _ e h2 (TX _ _))
 ·have:l=[]:=List.eq_nil_of_length_eq_zero c;subst this;rw [<- hxs,show Jx []=[] from List.mergeSort_nil]
 ·subst hv;exact AnyF.slices_SortFunc_none Tryz.Aa6 none 0 _ w
 ·have hown:w.ownsRow 0 142 4 v l.length xs:=hL.at hi;rw [hv] at hown;have hhk:HoldsK Mm 4 w g 0 l.toArray/\g<w.heap.size:=MZ (enc:=(id:Value->Value)) (d:=flatK Mm 4 l.toArray) hown (by rw [List.map_id,Sf];exact hxs);subst hv;refine AnyQ.slices_SortFunc_total Tryz.Aa6 4 (fun w=>by kernel_rfl) (fun w=>by kernel_rfl) Mm (fun _=>rfl) (fun x v hv=>?_) JM KF.swo 137 #[] g 0 cap l.toArray w (enters_of Tryz.func137 (by kernel_rfl) rfl) ?_ hhk.1 hhk.2 (by simpa using hlen) KF.parts
  ·simp only [List.mem_cons,List.mem_nil_iff,or_false] at hv
   rcases hv with rfl | rfl | rfl | rfl <;> rfl
  ·intro m os dk hs x y;have hk:=@LH ⟨true⟩ (sortWorldK Mm 4 w g 0 m dk os) (hp _) (Le.refl _) x y _ (U6 x y);refine hk.2.mono fun en w' ⟨u,he,hx,hu⟩=>?_;subst he;subst hu;obtain⟨q,os',hw⟩:=@T7 ⟨true⟩ _ _ rfl hx;exact⟨rfl,q,os',hw⟩
def Nd(l:List (Lf×List Int)):Option (List Lf):=Go.L.Bh (Go.E.Ij 48 l.length) (some (Jx (l.map Prod.fst)))
set_option maxRecDepth 10000 in
theorem UO(w:World)(H:PH)(hH:Le H (hp w)){v0:Value}{a0:List (Lf×List Int)}(h0:Rr IB (.vec (.int .i64)) H v0 a0){r:List Lf}(h:Nd a0=some r):
  Ok Tryz.prog 136 [v0,.func (.func 137) #[] #[]] w (fun v w'=>Ext w w'/\∃ u0,v=u0/\Ck 142 PA H w w' u0 r):=by
 obtain⟨b,h⟩:=Go.L.Fw h;have hcap:∀ j,j<=a0.length->Go.E.Ij 48 j:=fun j hj=>⟨Nat.le_trans (Nat.mul_le_mul_right _ hj) b.1,Nat.le_trans hj b.2⟩;clear b;obtain rfl:=Option.some.inj h;obtain⟨m,vs,rfl,hm,hl,_⟩:=h0;have hkl:(a0.map Prod.fst).length=vs.length:=by rw [List.length_map];exact hl
 have hkN:(a0.map Prod.fst).length=a0.length:=List.length_map _;generalize hK:a0.map Prod.fst=K at *;generalize hNN:a0.length=N at *;have hNlt:N<4611686018427387904:=by have:=hcap N (Nat.le_refl _);unfold Go.E.Ij at this;omega
 refine Ey (n:=21) [(0,.map (some m)),(1,.func (.func 137) #[] #[])] Tryz.func136 rfl rfl rfl rfl rfl ?_;have hL:=AU.start w;refine AD 1 rfl<|AD 1 rfl ?_;obtain⟨af,ar,ag⟩:=Ez PA H 142 hL;refine Bw (σ:=Value×List Value×List Lf) (fun⟨v,_,_⟩=>[(1,.func (.func 137) #[] #[]),(5,v)]) (fun⟨v,xs,l⟩ wr=>AU w [.row v 142 4 l.length xs] wr/\AF PA (gz H w wr [.row v 142 4 l.length xs]) l xs/\l.Perm K) ?_ ?_
 ·refine Bs 1 rfl<|Yr (enc:=IB) (keys:=K) (vs:=vs) (N:=N) rfl Tryz.underlying139 (hH _ _ hm) rfl af fun w2 g ah t=>Ac<|A2 ?_
  refine B8 (σ:=List Nat×Value×List Value) (fun⟨_,v,_⟩=>[(1,.func (.func 137) #[] #[]),(5,v),(8,.pointer (some ⟨g,0,none⟩))])
   (fun⟨seen,v,xs⟩ wr=>AU w [.obj g (.mapIter (some m) N seen.toArray N),.row v 142 4 (seen.map fun j=>K.getD j default).length xs] wr/\AF PA (gz H w wr [.obj g (.mapIter (some m) N seen.toArray N),.row v 142 4 (seen.map fun j=>K.getD j default).length xs]) (seen.map fun j=>K.getD j default) xs/\seen.Nodup/\∀ j∈seen,j<N)
   (fun⟨seen,_,_⟩=>N - seen.length) ([],.slice none 0 0,[]) (.cons rfl (.cons rfl (.cons rfl (Sub.nil _)))) ⟨ah,ag.mono (Aa hH t),List.nodup_nil,fun j hj=>by cases hj⟩ ?_
  rintro⟨seen,v,xs⟩ wr ⟨hLr,her,hnd,hlt⟩
  have hseen:seen.length<=N:=by
   exact VI N seen hnd hlt
  refine Ai<|Aad (enc:=IB) (keys:=K) (vs:=vs) (m:=m) (N:=N) 0 rfl rfl hLr rfl ((hH.trans hLr.arg) _ _ hm) hkl hkN ?_ ?_
  ·intro j a ha hj w3 p u ai;have hjN:j<N:=by have:=(List.getElem?_eq_some_iff.1 ha).1;omega
   refine A4 1 rfl<|A9<|DW rfl<|Au<|Ar<|A2<|Ai<|Ys (enc:=IB) rfl rfl (p.at (i:=0) rfl) ai hkl ha<|As 1 rfl<|A3 K0 rfl rfl p fun w4 b4 aj z _=>O9 0 rfl rfl rfl K0 aj rfl rfl (Bb rfl (Bb rfl (Bb rfl (Bb rfl I8)))) fun w5 s aa=>Ac<|Av<|As 1 rfl<|Ah (A5 0 rfl Tryz.underlying142 rfl K0 s rfl) rfl<|Br (r:=PA) (l:=[a]) rfl (fun _=>X7 _ _ _ _ _) rfl (show 1<=9223372036854775807 by decide) hH s (.c4 ((UN _ _ _).2 rfl) .nil) ?_;intro v6 w6 aw ak ab al;have am:=(((her.mono (Aa hH u)).mono (Aa hH z)).mono (Aa hH aa)).mono (Aa hH ab);refine Bi (r:=PA) (l:=seen.map fun j=>K.getD j default) (m:=[a]) 2 rfl rfl Tryz.underlying196 K0 rfl (by decide) rfl hH ak rfl am al (hcap _ ?_) ?_
   ·have k:=VI N (seen++[j]) (List.nodup_append.2 ⟨hnd,List.pairwise_singleton _ j,fun x hx y hy=>by rw [List.mem_singleton] at hy;subst hy;exact fun e=>hj (e ▸ hx)⟩) (fun q hq=>by rcases List.mem_append.1 hq with h2 | h2;exact hlt q h2;rw [List.mem_singleton] at h2;subst h2;exact hjN)
    simpa using k
   intro v7 w7 d ao au ap;refine As 1 rfl<|AQ<|AJ ?_
   have hmap:(seen++[j]).map (fun j=>K.getD j default)=(seen.map fun j=>K.getD j default)++[a]:=by
    rw [List.map_append,List.map_singleton];have:K.getD j default=a:=by rw [List.getD_eq_getElem?_getD,ha];rfl
    rw [this]
   have o:(seen++[j]).Nodup:=List.nodup_append.2 ⟨hnd,List.pairwise_singleton _ j,fun x hx y hy=>by rw [List.mem_singleton] at hy;subst hy;exact fun e=>hj (e ▸ hx)⟩;have c:=ao.AV (i:=0) rfl;have f:=ap.mono (Aa hH (An (i:=0) rfl));refine AW (seen++[j],v7,d) (.cons rfl (.cons rfl (.cons rfl (Sub.nil _)))) ?_ ?_
   ·show AU w [.obj g (.mapIter (some m) N (seen++[j]).toArray N),.row v7 142 4 ((seen++[j]).map fun j=>K.getD j default).length d] w7/\AF PA (gz H w w7 [.obj g (.mapIter (some m) N (seen++[j]).toArray N),.row v7 142 4 ((seen++[j]).map fun j=>K.getD j default).length d]) ((seen++[j]).map fun j=>K.getD j default) d/\_
    rw [hmap];refine⟨c,f,o,fun q hq=>?_⟩
    rcases List.mem_append.1 hq with h2 | h2
    ·exact hlt q h2
    ·rw [List.mem_singleton] at h2;subst h2;exact hjN
   ·show N - (seen++[j]).length<N - seen.length
    have k:=VI N (seen++[j]) o (fun q hq=>by rcases List.mem_append.1 hq with h2 | h2;exact hlt q h2;rw [List.mem_singleton] at h2;subst h2;exact hjN);rw [List.length_append,List.length_singleton] at k;rw [List.length_append,List.length_singleton];omega
  ·intro hall;refine A4 1 rfl<|A9<|Hn rfl<|B5<|AE<|A7<|Bk ?_
   have hp:(seen.map fun j=>K.getD j default).Perm K:=by
    have k:seen.Perm (List.range N):=(List.perm_ext_iff_of_nodup hnd List.nodup_range).2 fun q=>⟨fun hq=>List.mem_range.2 (hlt q hq),fun hq=>hall q (List.mem_range.1 hq)⟩;have h2:=k.map (fun j=>K.getD j default)
    have h3:(List.range N).map (fun j=>K.getD j default)=K:=by
     apply List.ext_getElem?;intro q;rw [List.getElem?_map]
     by_cases hq:q<N
     ·rw [List.getElem?_range hq,List.getElem?_eq_getElem (by omega:q<K.length)];simp [List.getD_eq_getElem?_getD,List.getElem?_eq_getElem (by omega:q<K.length)]
     ·rw [List.getElem?_eq_none (by simpa using hq),List.getElem?_eq_none (by omega)];rfl
    rwa [h3] at h2
   exact A6 (v,xs,seen.map fun j=>K.getD j default) (.cons rfl (.cons rfl (Sub.nil _))) ⟨hLr.AV (i:=0) rfl,her.mono (Aa hH (An (i:=0) rfl)),hp⟩
 ·rintro⟨v,xs,l⟩ wr ⟨hLr,her,hp⟩;have hlN:l.length=N:=by rw [hp.length_eq];omega
  refine Bs 2 rfl<|Aae (i:=0) rfl rfl hH hLr rfl her (by omega) fun w8 ax c av f=>Ac<|AD 2 rfl<|Ax<|PF rfl rfl ?_;have e:Jx l=Jx K:=Yt KF hp;rw [e] at c f;exact⟨c.ext,_,rfl,c.GS hH (i:=0) rfl f⟩
end Go.Proofs.YtekmbcbgknmhiaaGreatDoor
end
noncomputable section
namespace Go.Proofs.YtekmbcbgknmhiaaGreatDoor
open Go Go.E Go.RowKit Go.L
abbrev G1(bm bi b:Nat)(i:Int)(l:List (Lf×List Int))(vs:List Value):List BE:=[.box bm [.map (some b)] 139,.box bi [.int .i64 i] 3,Ny IB b l vs]
abbrev H8(l:List (Lf×List Int))(vs:List Value):List BE:=mT cwI 3 1 l vs
def JBu(bm bi b:Nat)(i:Int)(l:List (Lf×List Int))(R:List BE)(_:PH):Prop:=∃ vs:List Value,l.length=vs.length/\R=HAppend.hAppend (G1 bm bi b i l vs) (H8 l vs)
def HT(i:Int)(l:List (Lf×List Int))(x:Lf):Option (List (Lf×List Int)):=Go.L.Bh (Go.E.Ij 8 ((Ct [] x l).length+1)) (some (DY x (Ct [] x l++[i]) l))
set_option maxRecDepth 10000 in
theorem W4{f w:World}{H:PH}(hH:Le H (hp f)){O:List BE}{bm bi b:Nat}{i:Int}{l:List (Lf×List Int)}{vs:List Value}{x:Lf}(hL:AU f (HAppend.hAppend (HAppend.hAppend (G1 bm bi b i l vs) O) (H8 l vs)) w)(hn:l.length=vs.length){r:List (Lf×List Int)}(h:HT i l x=some r):
  Ok Tryz.prog 83 [IB x,.pointer (some ⟨bm,0,none⟩),.pointer (some ⟨bi,0,none⟩)] w (fun u w'=>u=.tuple #[]/\∃ vs':List Value,r.length=vs'.length/\AU f (HAppend.hAppend (HAppend.hAppend (G1 bm bi b i r vs') O) (H8 r vs')) w'/\Le (fz w (HAppend.hAppend (HAppend.hAppend (G1 bm bi b i l vs) O) (H8 l vs))) (fz w' (HAppend.hAppend (HAppend.hAppend (G1 bm bi b i r vs') O) (H8 r vs')))):=by
 obtain⟨hcap,h⟩:=Go.L.Fw h;obtain rfl:=Option.some.inj h;refine Ey (n:=12) [(0,IB x),(1,.pointer (some ⟨bm,0,none⟩)),(2,.pointer (some ⟨bi,0,none⟩))] Tryz.func83 rfl rfl rfl rfl rfl<|Ai<|Dq (t:=142) rfl rfl rfl hL fun w1 g a j _=>Ac<|Av<|Ah (M0 1 rfl Tryz.underlying139 rfl a rfl rfl) rfl<|Ah (A5 0 rfl Tryz.underlying142 rfl K0 a rfl) rfl<|Ah (M0 2 rfl Tryz.underlying3 rfl a rfl rfl) rfl<|Br (r:=.int .i64) (l:=[i]) rfl (fun _=>HJ _ _) rfl (show 1<=9223372036854775807 by decide) hH a (.c1 rfl .nil) fun v2 w2 af q m s=>U4 (A:=.box g [.string ⟨x.1.toArray⟩,.int .i64 x.2.1,.int .i64 x.2.2.1,.string ⟨x.2.2.2.toArray⟩] 142::HAppend.hAppend (G1 bm bi b i l vs) O) (l:=l) (vs:=vs) (k:=x) (enc:=IB) 3 rfl rfl Tryz.underlying139 X8 Tryz.zeroValue58 rfl q rfl hn fun c w3 v y d=>As 1 rfl ?_;have aa:=s.mono (Aa hH d);refine Xs (A:=.box g [.string ⟨x.1.toArray⟩,.int .i64 x.2.1,.int .i64 x.2.2.1,.string ⟨x.2.2.2.toArray⟩] 142::HAppend.hAppend (G1 bm bi b i (Du x l) c) O) (l:=Du x l) (vs:=c) (k:=x) (z:=i) (r:=.int .i64) (H:=H) Aa2 rfl rfl rfl Tryz.underlying58 Dd rfl (by decide) rfl hH y v aa (by rw [Q4];exact hcap) ?_;intro v4 w4 T4 e ab o;rw [Q4] at e
 refine As 1 rfl<|Aba (A:=.box g [.string ⟨x.1.toArray⟩,.int .i64 x.2.1,.int .i64 x.2.2.1,.string ⟨x.2.2.2.toArray⟩] 142::HAppend.hAppend (G1 bm bi b i (Du x l) c) O) (T:=T4) (k:=x) (l:=l) (vs:=c) 3 e rfl rfl rfl ab rfl fun ac w5 ad ae p=>AQ<|IT rfl ?_;refine⟨rfl,ac,ad,ae.AV (i:=0) rfl,((((j.trans m).trans d).trans o).trans p).trans (An (i:=0) rfl)⟩
theorem GJ(bm bi b:Nat)(i:Int)(l:List (Lf×List Int))(vs:List Value)(O:List BE):(HAppend.hAppend (HAppend.hAppend (G1 bm bi b i l vs) O) (H8 l vs)).Perm (HAppend.hAppend O (HAppend.hAppend (G1 bm bi b i l vs) (H8 l vs))):=by
 rw [<- List.append_assoc O];exact List.perm_append_comm.append_right _
theorem Yw{a:World}{H:PH}(hH:Le H (hp a))(bm bi b:Nat)(i:Int):Cb Tryz.prog a H 83 [.pointer (some ⟨bm,0,none⟩),.pointer (some ⟨bi,0,none⟩)] (JBu bm bi b i) (HT i):=by
 constructor
 ·exact fun _ h=>h
 ·rintro w O R l l' x hL ⟨vs,hn,rfl⟩ h;have hc:=W4 hH (O:=O) (hL.perm (GJ bm bi b i l vs O)) hn h;refine⟨hc.1,hc.2.mono fun e w' ⟨u,hu,c,vs',h2,h3,d⟩=>⟨u,hu,c,_,h3.perm (GJ bm bi b i l' vs' O).symm,?_,vs',h2,rfl⟩⟩;rw [<- HG (GJ bm bi b i l vs O),<- HG (GJ bm bi b i l' vs' O)];exact d
theorem SQ{a w:World}{H:PH}(hH:Le H (hp a)){O:List BE}{bm bi b:Nat}{i:Int}{l:List (Lf×List Int)}{vs:List Value}{a0:Go.L.Pv}{a1:List (List UInt8)}{va0_2 va0_3 va0_4 va1:Value}
  (hL:AU a (HAppend.hAppend (HAppend.hAppend (G1 bm bi b i l vs) O) (H8 l vs)) w) (c:AA .byte (gz H a w (HAppend.hAppend (HAppend.hAppend (G1 bm bi b i l vs) O) (H8 l vs))) va0_2 a0.f.2.2.1) (d:AA .st (gz H a w (HAppend.hAppend (HAppend.hAppend (G1 bm bi b i l vs) O) (H8 l vs))) va0_3 a0.f.2.2.2.1) (g:AA .tree (gz H a w (HAppend.hAppend (HAppend.hAppend (G1 bm bi b i l vs) O) (H8 l vs))) va0_4 a0.f.2.2.2.2) (j:AA .st (gz H a w (HAppend.hAppend (HAppend.hAppend (G1 bm bi b i l vs) O) (H8 l vs))) va1 a1)
  (hn:l.length=vs.length) {r:List (Lf×List Int)} (h:Hg (HT i) a0 a1 l=some r) :
  Ok Tryz.prog 82 [.agg #[.int .i64 a0.f.1,.int .i64 a0.f.2.1,va0_2,va0_3,va0_4],va1,.func (.func 83) #[] #[.pointer (some ⟨bm,0,none⟩),.pointer (some ⟨bi,0,none⟩)]] w (fun u w'=>u=.tuple #[]/\∃ vs':List Value,r.length=vs'.length/\AU a (HAppend.hAppend (HAppend.hAppend (G1 bm bi b i r vs') O) (H8 r vs')) w'/\Le (fz w (HAppend.hAppend (HAppend.hAppend (G1 bm bi b i l vs) O) (H8 l vs))) (fz w' (HAppend.hAppend (HAppend.hAppend (G1 bm bi b i r vs') O) (H8 r vs')))):=by
 have hz:Le (gz H a w (HAppend.hAppend (HAppend.hAppend (G1 bm bi b i l vs) O) (H8 l vs))) (gz H a w (HAppend.hAppend O (HAppend.hAppend (G1 bm bi b i l vs) (H8 l vs)))):=Aa hH (by rw [HG (GJ bm bi b i l vs O)];exact Le.refl _);have hc:=P9 hH (Yw hH bm bi b i) (O:=O) (hL.perm (GJ bm bi b i l vs O).symm) (c.mono hz) (d.mono hz) (g.mono hz) (j.mono hz) (s:=l) ⟨vs,hn,rfl⟩ h;refine⟨hc.1,hc.2.mono fun e w' ⟨u,hu,k,R',h2,h3,vs',m,n⟩=>?_⟩;subst n;refine⟨u,hu,k,vs',m,h2.perm (GJ bm bi b i r vs' O),?_⟩;rw [HG (GJ bm bi b i l vs O),HG (GJ bm bi b i r vs' O)];exact h3
end Go.Proofs.YtekmbcbgknmhiaaGreatDoor
end
noncomputable section
namespace Go.Proofs.YtekmbcbgknmhiaaGreatDoor
open Go Go.E Go.RowKit Go.L
set_option maxHeartbeats 1000000
set_option maxRecDepth 10000
open _root_.Go.Proofs.Tryz
def Dk(a1:Int):Option Aaz:=
 Bh (C0 (0 - 0)) (Bh (C0 (a1 - (0 - 0))) (if 0<(a1 - (0 - 0)) then Bh (0<(a1 - (0 - 0))/\(a1 - (0 - 0)) * 1<=281474976710656) (some (([]:Aaz))) else some ([])))
def Df(_a0:Aaz)(a1:Int):Option Aaz:=
 if a1<0 then none else(Dk a1)
theorem KS(w:World)(H:PH)(hH:Le H (hp w)){a0:Aaz}{a1:Int}(_:AA .byte H Aaq a0){r:Aaz}(h:Df a0 a1=some r):
  Ok prog 310 [Aaq,No a1] w (fun v w'=>Ext w w'/\∃ x,v=x/\Ck 5 .byte H w w' x r):=by
 refine Aw (n:=27) [(0,Aaq),(1,No a1)] func310 rfl fun hL=>AD 1 rfl<|Bw (σ:=Unit) (fun(_:Unit)=>[(0,Aaq),(1,No a1)]) (fun(_:Unit) wr=>AU w [] wr/\(Dk a1)=some r) ?_ ?_
 ·refine AD 2 rfl<|AO rfl h (fun y h=>?_) (fun y h=>?_)
  ·refine Av ?_
   cases h
  refine Au<|A6 () (Sub.of rfl) ⟨hL,h⟩
 rintro _ ac ⟨d,h⟩;refine A9<|Bs 2 rfl<|Ah (Vi rfl Abj) rfl<|As 1 rfl<|Ah (O6 rfl Abj) rfl<|AB h fun g h=>Ah (AK rfl g) rfl<|AB h fun j h=>Ah (AK rfl j) rfl<|A4 1 rfl<|AD 2 rfl<|AO rfl h (fun l h=>?_) (fun l h=>?_)
 ·refine Av<|As 2 rfl<|Ah (Vi rfl Abj) rfl<|Ah (Qo rfl rfl Abj NK) rfl<|As 1 rfl<|AB h fun ab h=>?_;obtain⟨z,o⟩:=Int.eq_ofNat_of_zero_le (show 0<=(a1 - (0 - 0)) by omega);refine Vj (k:=.i64) (m:=z) rfl (by rw [<- o];rfl) Abj AaA NK rfl rfl (by omega) (by omega) (by omega) fun f a c ad p q s t u=>As 1 rfl<|Ah (O6 rfl Abj) rfl<|Ah (Xd rfl rfl Abj NK) rfl ?_;obtain⟨b,aa⟩:=Kd (v:=.slice (some ⟨f,0,none⟩) 0 a) (e:=5) (sz:=1) (m:=0) (xs:=[]) d p ⟨rfl,.inr ⟨f,a,c,rfl,q,s,Nat.zero_le _,t,by rw [u,Nat.mul_one],rfl⟩⟩;refine As 1 rfl<|AQ<|Ar<|AD 2 rfl<|Ax ?_
  cases h
  refine Am rfl ⟨b.ext,_,rfl,(b.GS hH (i:=0) rfl .nil)⟩
 refine Au<|Ar<|AD 2 rfl<|Ax ?_
 cases h
 refine Am rfl ⟨d.ext,_,rfl,Ck.nil⟩
def CI(a:Aaz):Option Aaz:=
 some a
def Cd(a0:List Aaz):Aaz×Int->Option ((Aaz×Int) ⊕ (Aaz)):=fun⟨b,a⟩=>
 if a<(a0.length:Int) then Bh (0<=a/\a<(a0.length:Int)) (Bh (Go.E.Ij 1 (b.length+(a0.getD a.toNat default).length)) (Bh (C0 (a+1)) (some (Sum.inl ((b++a0.getD a.toNat default),(a+1)))))) else Option.map Sum.inr (CI b)
def DK(a0:List Aaz)(s:Aaz×Int):Option Aaz:=Go.L.run (Cd a0) s
def Cq(a0:List Aaz)(a:Int):Option Aaz:=
 Option.bind (Df ([]) a) (fun b=>(DK a0) (b,0))
def Ce(a0:List Aaz):Int×Int->Option ((Int×Int) ⊕ (Aaz)):=fun⟨b,a⟩=>
 if a<(a0.length:Int) then Bh (0<=a/\a<(a0.length:Int)) (Bh (C0 (b+((a0.getD a.toNat default).length:Int))) (if(b+((a0.getD a.toNat default).length:Int))<0 then none else Bh (C0 (a+1)) (some (Sum.inl ((b+((a0.getD a.toNat default).length:Int)),(a+1)))))) else Option.map Sum.inr ((Cq a0) b)
def DL(a0:List Aaz)(s:Int×Int):Option Aaz:=Go.L.run (Ce a0) s
def CA(a0:List Aaz):Option Aaz:=
 (DL a0) (0,0)
theorem CJ(w:World)(H:PH)(hH:Le H (hp w)){a0:List Aaz}{e:Value}(o:AA (.vec .byte) H e a0){r:Aaz}(h:CA a0=some r):
  Ok prog 249 [e] w (fun v w'=>Ext w w'/\∃ u0,v=u0/\Ck 5 .byte H w w' u0 r):=by
 refine Aw (n:=36) [(0,e)] func249 rfl fun hL=>AD 1 rfl<|AD 1 rfl<|Bw (σ:=Int) (fun j=>[(0,e),(3,No j)]) (fun j wr=>AU w [] wr/\(Cq a0) j=some r) ?_ ?_
 ·refine Bs 1 rfl<|Ah (Bj rfl Adc o) rfl<|A4 1 rfl<|A2 ?_;obtain⟨y,h⟩:=AY h;refine B8 (σ:=Int×Int×Nat) (fun⟨c,b,n⟩=>[(0,e),(3,No c),(9,e),(10,No (a0.length:Int)),(11,No b)]) (fun⟨c,b,n⟩ wr=>AU w [] wr/\GR (Ce a0) n (c,b)=some r) (fun⟨c,b,n⟩=>n) (0,0,y) (Sub.of rfl) ⟨hL,h⟩ ?_;rintro⟨c,b,nn42⟩ a7 ⟨s,h⟩;obtain⟨y,bb,rfl,h,z⟩:=AX h;refine AD 1 rfl<|A9<|AO rfl h (fun al h=>?_) (fun al h=>?_)
  ·refine Au<|Ar<|A9<|A2<|Ai<|AB h fun aa h=>Be rfl rfl Adc Hv o b.toNat (Hc aa) (Ba aa) rfl ?_;rintro bc _ ⟨e46v0,rfl,e46h0⟩ am;refine Ah (Bu rfl Abj rfl am (hH.trans s.arg)) rfl<|A4 1 rfl<|Bs 2 rfl<|Ah (Bj rfl Abj e46h0) rfl<|AB h fun an h=>Ah (AK rfl an) rfl<|A4 1 rfl<|AD 2 rfl<|AO rfl h (fun ao h=>?_) (fun ao h=>?_)
   ·refine Av ?_
    cases h
   refine Au<|AJ<|Ar<|Av<|AB h fun ap h=>Ah (AK rfl ap) rfl<|As 1 rfl<|AQ ?_;have h:=CV.again h z;refine AW ((c+((a0.getD b.toNat default).length:Int)),(b+1),y) (Sub.of rfl) ⟨s,h⟩ (Nat.lt_succ_self _)
  refine B5<|AE<|A7 ?_;have h:=CV.out h z;refine Bk<|A6 c (Sub.of rfl) ⟨s,h⟩
 rintro j a8 ⟨t,h⟩;refine Bs 1 rfl<|Aq h fun a4 aq h=>Bf rfl rfl t (KS _ _ (Al hH t) (AA.nil _ _) aq) ?_;rintro ah bd ⟨_,rfl,ab⟩ ar ac ai;obtain⟨au,ac,ai,av⟩:=ab.take hH t ar;refine A4 1 rfl<|Bw (σ:=Aaz×Value×(List Value)) (fun⟨q,p,k⟩=>[(6,p)]) (fun⟨q,p,k⟩ wr=>FL w [.row p 5 1 (q).length k] wr fun Oz=>AF .byte (gz H w wr Oz) q k/\CI q=some r) ?_ ?_
 ·refine Bs 1 rfl<|Ah (Bj rfl Adc o) rfl<|A4 1 rfl<|A2 ?_;obtain⟨ad,h⟩:=AY h;refine B8 (σ:=Aaz×Int×Value×(List Value)×Nat) (fun⟨f,a,g,d,n⟩=>[(6,g),(25,e),(26,No (a0.length:Int)),(27,No a)]) (fun⟨f,a,g,d,n⟩ wr=>FL w [.row g 5 1 (f).length d] wr fun Oz=>AF .byte (gz H w wr Oz) f d/\GR (Cd a0) n (f,a)=some r) (fun⟨f,a,g,d,n⟩=>n) (a4,0,ah,au,ad) (Sub.of rfl) ⟨ac,av,h⟩ ?_;rintro⟨f,a,g,d,nn92⟩ a9 ⟨u,x,h⟩;obtain⟨ad,be,rfl,h,ae⟩:=AX h;refine AD 1 rfl<|A9<|AO rfl h (fun aw h=>?_) (fun aw h=>?_)
  ·refine Au<|Ar<|A9<|A2<|Ai<|AB h fun af h=>Be rfl rfl Adc Hv o a.toNat (Hc af) (Ba af) rfl ?_;rintro bf _ ⟨e96v0,rfl,e96h0⟩ ax;refine Ah (Bu rfl Abj rfl ax (hH.trans u.arg)) rfl<|A4 1 rfl<|Av<|As 2 rfl<|AB h fun ay h=>Bi (r:=.byte) (l:=f) (m:=a0.getD a.toNat default) 0 rfl rfl Abj NK rfl (by decide) rfl hH u rfl x (e96h0.mono (Ae hH)) ay fun a5 bg az a1 a6 a2=>As 1 rfl<|AQ<|AJ<|Ar<|Av<|AB h fun aj h=>Ah (AK rfl aj) rfl<|As 1 rfl<|AQ ?_;have h:=CV.again h ae;refine AW ((f++a0.getD a.toNat default),(a+1),a5,az,ad) (Sub.of rfl) ⟨a1,a2,h⟩ (Nat.lt_succ_self _)
  refine B5<|AE<|A7 ?_;have h:=CV.out h ae;refine Bk<|A6 (f,g,d) (Sub.of rfl) ⟨u,x,h⟩
 rintro⟨q,p,k⟩ ba ⟨ag,ak,h⟩;refine AD 2 rfl<|Ax ?_
 cases h
 refine Am rfl ⟨ag.ext,_,rfl,(ag.GS hH (i:=0) rfl ak)⟩
def G2(a:Aaz):Option Aaz:=
 some a
def EH(a0:List Int):Aaz×Int->Option ((Aaz×Int) ⊕ (Aaz)):=fun⟨b,a⟩=>
 if a<(a0.length:Int) then Bh (0<=a/\a<(a0.length:Int)) (Option.bind (CG (a0.getD a.toNat default)) (fun c=>Bh (Go.E.Ij 1 (b.length+c.length)) (Bh (C0 (a+1)) (some (Sum.inl ((b++c),(a+1))))))) else Option.map Sum.inr (G2 b)
def HU(a0:List Int)(s:Aaz×Int):Option Aaz:=Go.L.run (EH a0) s
def Hh(a0:List Int):Option Aaz:=
 Option.bind (CG (a0.length:Int)) (fun a=>(HU a0) (a,0))
theorem G3(w:World)(H:PH)(hH:Le H (hp w)){a0:List Int}{j:Value}(p:AA (.int .i64) H j a0){r:Aaz}(h:Hh a0=some r):
  Ok prog 250 [j,.func (.func 177) #[] #[]] w (fun v w'=>Ext w w'/\∃ u0,v=u0/\Ck 5 .byte H w w' u0 r):=by
 refine Aw (n:=24) [(0,j),(1,.func (.func 177) #[] #[])] func250 rfl fun hL=>AD 1 rfl<|Bs 1 rfl<|Ah (Bj rfl Aa8 p) rfl<|Aq h fun x1 ar h=>Bf rfl rfl hL (BB _ _ (Al hH hL) ar) ?_;rintro ae w2 ⟨_,rfl,z⟩ au ac af;obtain⟨av,ac,af,aw⟩:=z.take hH hL au;refine A4 1 rfl<|Bw (σ:=Aaz×Value×(List Value)) (fun⟨o,k,e⟩=>[(5,k)]) (fun⟨o,k,e⟩ wr=>FL w [.row k 5 1 (o).length e] wr fun Oz=>AF .byte (gz H w wr Oz) o e/\G2 o=some r) ?_ ?_
 ·refine Bs 1 rfl<|Ah (Bj rfl Aa8 p) rfl<|A4 1 rfl<|A2 ?_;obtain⟨q,h⟩:=AY h;refine B8 (σ:=Aaz×Int×Value×(List Value)×Nat) (fun⟨c,a,d,b,n⟩=>[(1,.func (.func 177) #[] #[]),(5,d),(11,j),(12,No (a0.length:Int)),(13,No a)]) (fun⟨c,a,d,b,n⟩ wr=>FL w [.row d 5 1 (c).length b] wr fun Oz=>AF .byte (gz H w wr Oz) c b/\GR (EH a0) n (c,a)=some r) (fun⟨c,a,d,b,n⟩=>n) (x1,0,ae,av,q) (Sub.of rfl) ⟨ac,aw,h⟩ ?_;rintro⟨c,a,d,b,nn44⟩ a2 ⟨g,f,h⟩;obtain⟨q,a4,rfl,h,s⟩:=AX h;refine AD 1 rfl<|A9<|AO rfl h (fun ag h=>?_) (fun ag h=>?_)
  ·refine Au<|Ar<|A9<|A2<|Ai<|AB h fun t h=>Be rfl rfl Aa8 Dd p a.toNat (Hc t) (Ba t) rfl ?_;rintro a5 _ rfl ah;refine Ah (Bu rfl AaA rfl ah (hH.trans g.arg)) rfl<|A4 1 rfl<|Av<|As 3 rfl<|Aq h fun ad ai h=>Q1 rfl rfl rfl g (BB _ _ (Al hH g) ai) ?_;rintro ay a6 ⟨_,rfl,u⟩ aj ak aa;have x:=u.C8 hH g aj;refine AB h fun al h=>?_;have f:=f.mono (Aa hH aa);refine Bi (r:=.byte) (l:=c) (m:=ad) 0 rfl rfl Abj NK rfl (by decide) rfl hH ak rfl f x al fun ax a7 am an az ao=>As 1 rfl<|AQ<|AJ<|Ar<|Av<|AB h fun ap h=>Ah (AK rfl ap) rfl<|As 1 rfl<|AQ ?_;have h:=CV.again h s;refine AW ((c++ad),(a+1),ax,am,q) (Sub.of rfl) ⟨an,ao,h⟩ (Nat.lt_succ_self _)
  refine B5<|AE<|A7 ?_;have h:=CV.out h s;refine Bk<|A6 (c,d,b) (Sub.of rfl) ⟨g,f,h⟩
 rintro⟨o,k,e⟩ a3 ⟨y,ab,h⟩;refine AD 2 rfl<|Ax ?_
 cases h
 refine Am rfl ⟨y.ext,_,rfl,(y.GS hH (i:=0) rfl ab)⟩
end Go.Proofs.YtekmbcbgknmhiaaGreatDoor
end
noncomputable section
namespace Go
abbrev Ad3:=Go.E.Rp.pair (Go.E.Rp.pair Go.E.Rp.st (Go.E.Rp.pair (Go.E.Rp.int .i64) (Go.E.Rp.pair (Go.E.Rp.int .i64) Go.E.Rp.st))) (Go.E.Rp.vec (Go.E.Rp.int .i64))
end Go
namespace Go
abbrev Adu:=Ad1×(List Int)
end Go
namespace Go.Proofs.YtekmbcbgknmhiaaGreatDoor
open Go Go.E Go.RowKit Go.L
set_option maxHeartbeats 1000000
set_option maxRecDepth 10000
open _root_.Go.Proofs.Tryz
def Jg(a:Aaz):Option Aaz:=
 some a
def H9(a0:Ad1×(List Int)):Option Aaz:=
 Bh (a0.1.1.length<=9223372036854775807) (Option.bind (F4 a0.1.1) (fun a=>Option.bind (CG a0.1.2.1) (fun b=>Option.bind (CG a0.1.2.2.1) (fun c=>Bh (a0.1.2.2.2.length<=9223372036854775807) (Option.bind (F4 a0.1.2.2.2) (fun d=>Option.bind (Hh a0.2) (fun e=>Option.bind (CA ([a,b,c,d,e])) (fun f=>Jg f))))))))
theorem QV(w:World)(H:PH)(hH:Le H (hp w)){a0:Ad1×(List Int)}{cx:Value}(b7:AA (.int .i64) H cx (a0.2)){r:Aaz}(h:H9 a0=some r):
  Ok prog 192 [.agg #[Aat a0.1.1,No a0.1.2.1,No a0.1.2.2.1,Aat a0.1.2.2.2,cx]] w (fun v w'=>Ext w w'/\∃ u0,v=u0/\Ck 5 .byte H w w' u0 r):=by
 refine Aw (n:=26) [(0,.agg #[Aat a0.1.1,No a0.1.2.1,No a0.1.2.2.1,Aat a0.1.2.2.2,cx])] func192 rfl fun hL=>Ai<|Dq (t:=203) rfl rfl rfl hL fun w1 b1 iw j4 _=>A4 1 rfl<|Bw (σ:=Aaz×Value×(List Value)) (fun⟨b8,a9,an⟩=>[(2,a9)]) (fun⟨b8,a9,an⟩ wr=>FL w [.row a9 5 1 (b8).length an,.box b1 [Aat a0.1.1,No a0.1.2.1,No a0.1.2.2.1,Aat a0.1.2.2.2,cx] 203] wr fun Oz=>AF .byte (gz H w wr Oz) b8 an/\Jg b8=some r) ?_ ?_
 ·refine Sn (.q 0 (.q 1 (.q 2 (.q 5 (.q 6 (.q 7 (.q 9 (.q 10 (.q 11 (.q 13 (.q 14 (.q 15 (.q 18 (.q 19 (.h2 3 (.h2 4 (.h2 8 (.h2 12 (.h 16 (.h 17 (.h 20 (.h 21 (.h 22 (.q 23 (.tail 24))))))) 16 (.h 12 (.h 17 (.h 20 (.h 21 (.h 22 (.q 23 (.tail 24)))))))) 16 (.h 8 (.h 12 (.h 17 (.h 20 (.h 21 (.h 22 (.q 23 (.tail 24))))))))) 16 (.h 4 (.h 8 (.h 12 (.h 17 (.h 20 (.h 21 (.h 22 (.q 23 (.tail 24)))))))))) 16 (.h 3 (.h 4 (.h 8 (.h 12 (.h 17 (.h 20 (.h 21 (.h 22 (.q 23 (.tail 24))))))))))))))))))))))))) mixed (by kernel_rfl) (fun j5 ha=>?_);have j:=iw.call ha;refine FK (Af rfl Adf rfl K0) rfl rfl<|FK (Af rfl AaE rfl Kq) rfl rfl<|FK (Ag 0 rfl AaQ rfl j rfl) rfl rfl<|FK (Af rfl Adf rfl K0) rfl rfl<|FK (Af rfl AaE rfl Dd) rfl rfl<|FK (Ag 0 rfl AaA rfl j rfl) rfl rfl<|FK (Af rfl Adf rfl K0) rfl rfl<|FK (Af rfl AaE rfl Dd) rfl rfl<|FK (Ag 0 rfl AaA rfl j rfl) rfl rfl<|FK (Af rfl Adf rfl K0) rfl rfl<|FK (Af rfl AaE rfl Kq) rfl rfl<|FK (Ag 0 rfl AaQ rfl j rfl) rfl rfl<|FK (Af rfl Adf rfl Rs) rfl rfl<|FK (Ag 0 rfl Aa8 rfl j rfl) rfl rfl<|Tl ?_ ?_
  ·refine AB h fun cy h=>Q0 (H:=H) rfl rfl AaQ Abj Acu rfl j cy fun j6 j7 jq ba ix bb=>Tl ?_ ?_
   ·refine Aq h fun am ao h=>BV rfl rfl rfl (fun h0 bc=>D4 _ _ (Al hH (ba.call bc)) (bb.mono (Aa hH (AP ba bc))) ao) ?_;rintro h0 iy j8 bc fn ⟨_,rfl,fv⟩;have fo:=ba.call bc;have bd:=fo.call fn;have a:=fv.C8 hH fo fn;refine Tl ?_ ?_
    ·refine Aq h fun u k h=>BV rfl rfl rfl (fun h1 be=>BB _ _ (Al hH (bd.call be)) k) ?_;rintro h1 iz j9 be cz ⟨_,rfl,fw⟩;have c0:=bd.call be;have fc:=AP bd be;have bf:=c0.call cz;have fd:=AP c0 cz;have b:=fw.C8 hH c0 cz;refine Tl ?_ ?_
     ·refine Aq h fun m c h=>BV rfl rfl rfl (fun h3 bg=>BB _ _ (Al hH (bf.call bg)) c) ?_;rintro h3 i0 ka bg c2 ⟨_,rfl,fx⟩;have c3:=bf.call bg;have fe:=AP bf bg;have hb:=c3.call c2;have ff:=AP c3 c2;have x:=fx.C8 hH c3 c2;refine AB h fun d h=>Q0 (H:=H) rfl rfl AaQ Abj Acu rfl hb d fun kb kc jr bh b9 hc=>Aq h fun o e h=>BV rfl rfl rfl (fun h4 ap=>D4 _ _ (Al hH (bh.call ap)) (hc.mono (Aa hH (AP bh ap))) e) ?_;rintro h4 i1 kd ap c4 ⟨_,rfl,fy⟩;have c5:=bh.call ap;have ca:=AP bh ap;have c6:=c5.call c4;have cb:=AP c5 c4;have y:=fy.C8 hH c5 c4;refine Aq h fun p f h=>BV rfl rfl rfl (fun h5 bi=>G3 _ _ (Al hH (c6.call bi)) (b7.mono (Ae hH)) f) ?_;rintro h5 i2 ke bi c7 ⟨_,rfl,fz⟩;have c8:=c6.call bi;have aq:=AP c6 bi;have hd:=c8.call c7;have ar:=AP c8 c7;have cs:=fz.C8 hH c8 c7
      have a:=a.mono (Aa hH (fc.trans (fd.trans (fe.trans (ff.trans (b9.trans (ca.trans (cb.trans (aq.trans ar)))))))));have b:=b.mono (Aa hH (fe.trans (ff.trans (b9.trans (ca.trans (cb.trans (aq.trans ar)))))));have x:=x.mono (Aa hH (b9.trans (ca.trans (cb.trans (aq.trans ar)))));have y:=y.mono (Aa hH (aq.trans ar));refine OB (r:=(.vec .byte)) (l:=[am,u,m,o,p]) rfl rfl (fun _=>NV _ a.one _ b.one _ x.one _ y.one _ cs.one _) rfl (B2 5) hH hd (.c1 ⟨_,rfl,a⟩ (.c1 ⟨_,rfl,b⟩ (.c1 ⟨_,rfl,x⟩ (.c1 ⟨_,rfl,y⟩ (.c1 ⟨_,rfl,cs⟩ .nil))))) fun kf kg js c9 i3 he=>Aq h fun s g h=>BV rfl rfl rfl (fun h6 bj=>CJ _ _ (Al hH (c9.call bj)) (he.mono (Aa hH (AP c9 bj))) g) ?_;rintro h6 gm kh bj da ⟨_,rfl,f0⟩;have db:=c9.call bj;have dc:=db.call da;have gn:=AP db da;obtain⟨hf,dc,gn,dd⟩:=f0.take hH db da;refine GQ 1 rfl<|DX (fun ki fp=>?_);have hg:=dc.call fp;have go:=AP dc fp;refine AQ ?_;have dd:=dd.mono (Aa hH go)
      refine A6 (s,gm,hf) (Sub.of rfl) ⟨hg,dd,h⟩
     refine Aq h fun m c h=>AB h fun d h=>Aq h fun o e h=>Aq h fun p f h=>Aq h fun s g h=>Q0 (H:=H) rfl rfl AaQ Abj Acu rfl bf d fun kj kk jt de fg df=>BV rfl rfl rfl (fun h7 bk=>BB _ _ (Al hH (de.call bk)) c) ?_;rintro h7 i4 kl bk dg ⟨_,rfl,f1⟩;have dh:=de.call bk;have cc:=AP de bk;have bl:=dh.call dg;have cd:=AP dh dg;have z:=f1.C8 hH dh dg;have df:=df.mono (Aa hH (cc.trans cd));refine BV rfl rfl rfl (fun h8 au=>D4 _ _ (Al hH (bl.call au)) (df.mono (Aa hH (AP bl au))) e) ?_;rintro h8 i5 km au di ⟨_,rfl,f2⟩;have dj:=bl.call au;have ce:=AP bl au;have dk:=dj.call di;have cf:=AP dj di;have aa:=f2.C8 hH dj di;refine BV rfl rfl rfl (fun h9 bm=>G3 _ _ (Al hH (dk.call bm)) (b7.mono (Ae hH)) f) ?_;rintro h9 i6 kn bm dl ⟨_,rfl,f3⟩;have dm:=dk.call bm;have av:=AP dk bm;have hh:=dm.call dl;have aw:=AP dm dl;have ct:=f3.C8 hH dm dl
     have a:=a.mono (Aa hH (fc.trans (fd.trans (fg.trans (cc.trans (cd.trans (ce.trans (cf.trans (av.trans aw)))))))));have b:=b.mono (Aa hH (fg.trans (cc.trans (cd.trans (ce.trans (cf.trans (av.trans aw)))))));have z:=z.mono (Aa hH (ce.trans (cf.trans (av.trans aw))));have aa:=aa.mono (Aa hH (av.trans aw));refine OB (r:=(.vec .byte)) (l:=[am,u,m,o,p]) rfl rfl (fun _=>NV _ a.one _ b.one _ z.one _ aa.one _ ct.one _) rfl (B2 5) hH hh (.c1 ⟨_,rfl,a⟩ (.c1 ⟨_,rfl,b⟩ (.c1 ⟨_,rfl,z⟩ (.c1 ⟨_,rfl,aa⟩ (.c1 ⟨_,rfl,ct⟩ .nil))))) fun ko kp ju dn i7 hi=>BV rfl rfl rfl (fun ia bn=>CJ _ _ (Al hH (dn.call bn)) (hi.mono (Aa hH (AP dn bn))) g) ?_;rintro ia gp kq bn dp ⟨_,rfl,f4⟩;have dq:=dn.call bn;have dr:=dq.call dp;have gq:=AP dq dp;obtain⟨hj,dr,gq,ds⟩:=f4.take hH dq dp;refine GQ 1 rfl<|DX (fun kr fq=>?_);have hk:=dr.call fq;have gr:=AP dr fq;refine AQ ?_;have ds:=ds.mono (Aa hH gr);refine A6 (s,gp,hj) (Sub.of rfl) ⟨hk,ds,h⟩
    refine Aq h fun u k h=>Aq h fun m c h=>AB h fun d h=>Aq h fun o e h=>Aq h fun p f h=>Aq h fun s g h=>Q0 (H:=H) rfl rfl AaQ Abj Acu rfl bd d fun ks kt jv dt gs du=>BV rfl rfl rfl (fun ib bo=>BB _ _ (Al hH (dt.call bo)) k) ?_;rintro ib i8 ku bo dv ⟨_,rfl,f5⟩;have dw:=dt.call bo;have fh:=AP dt bo;have dx:=dw.call dv;have fi:=AP dw dv;have ab:=f5.C8 hH dw dv;refine BV rfl rfl rfl (fun ic bp=>BB _ _ (Al hH (dx.call bp)) c) ?_;rintro ic i9 kv bp dy ⟨_,rfl,f6⟩;have dz:=dx.call bp;have cg:=AP dx bp;have bq:=dz.call dy;have ch:=AP dz dy;have ac:=f6.C8 hH dz dy;have du:=du.mono (Aa hH (fh.trans (fi.trans (cg.trans ch))));refine BV rfl rfl rfl (fun ie ax=>D4 _ _ (Al hH (bq.call ax)) (du.mono (Aa hH (AP bq ax))) e) ?_;rintro ie ja kw ax d0 ⟨_,rfl,f7⟩;have d1:=bq.call ax;have ci:=AP bq ax;have d2:=d1.call d0;have cj:=AP d1 d0
    have ad:=f7.C8 hH d1 d0;refine BV rfl rfl rfl (fun ig br=>G3 _ _ (Al hH (d2.call br)) (b7.mono (Ae hH)) f) ?_;rintro ig jb kx br d3 ⟨_,rfl,f8⟩;have d4:=d2.call br;have ay:=AP d2 br;have hl:=d4.call d3;have az:=AP d4 d3;have cu:=f8.C8 hH d4 d3;have a:=a.mono (Aa hH (gs.trans (fh.trans (fi.trans (cg.trans (ch.trans (ci.trans (cj.trans (ay.trans az)))))))));have ab:=ab.mono (Aa hH (cg.trans (ch.trans (ci.trans (cj.trans (ay.trans az))))));have ac:=ac.mono (Aa hH (ci.trans (cj.trans (ay.trans az))));have ad:=ad.mono (Aa hH (ay.trans az));refine OB (r:=(.vec .byte)) (l:=[am,u,m,o,p]) rfl rfl (fun _=>NV _ a.one _ ab.one _ ac.one _ ad.one _ cu.one _) rfl (B2 5) hH hl (.c1 ⟨_,rfl,a⟩ (.c1 ⟨_,rfl,ab⟩ (.c1 ⟨_,rfl,ac⟩ (.c1 ⟨_,rfl,ad⟩ (.c1 ⟨_,rfl,cu⟩ .nil))))) fun ky kz jw d5 jc hm=>BV rfl rfl rfl (fun ih bs=>CJ _ _ (Al hH (d5.call bs)) (hm.mono (Aa hH (AP d5 bs))) g) ?_;rintro ih gt k0 bs d6 ⟨_,rfl,f9⟩;have d7:=d5.call bs
    have d8:=d7.call d6;have gu:=AP d7 d6;obtain⟨hn,d8,gu,d9⟩:=f9.take hH d7 d6;refine GQ 1 rfl<|DX (fun k1 fr=>?_);have ho:=d8.call fr;have gv:=AP d8 fr;refine AQ ?_;have d9:=d9.mono (Aa hH gv);refine A6 (s,gt,hn) (Sub.of rfl) ⟨ho,d9,h⟩
   refine Aq h fun am ao h=>Aq h fun u k h=>Aq h fun m c h=>AB h fun d h=>Aq h fun o e h=>Aq h fun p f h=>Aq h fun s g h=>Q0 (H:=H) rfl rfl AaQ Abj Acu rfl ba d ?_;intro k2 k3 jx bt gw ea;have bb:=bb.mono (Aa hH gw);refine BV rfl rfl rfl (fun ii a1=>D4 _ _ (Al hH (bt.call a1)) (bb.mono (Aa hH (AP bt a1))) ao) ?_;rintro ii jd k4 a1 eb ⟨_,rfl,ga⟩;have ec:=bt.call a1;have gx:=AP bt a1;have ed:=ec.call eb;have gy:=AP ec eb;have ae:=ga.C8 hH ec eb;refine BV rfl rfl rfl (fun ij bu=>BB _ _ (Al hH (ed.call bu)) k) ?_;rintro ij je k5 bu ee ⟨_,rfl,gb⟩;have ef:=ed.call bu;have fj:=AP ed bu;have eg:=ef.call ee;have fk:=AP ef ee;have af:=gb.C8 hH ef ee;refine BV rfl rfl rfl (fun ik bv=>BB _ _ (Al hH (eg.call bv)) c) ?_;rintro ik jf k6 bv eh ⟨_,rfl,gc⟩;have ei:=eg.call bv;have ck:=AP eg bv;have bw:=ei.call eh;have cl:=AP ei eh
   have ag:=gc.C8 hH ei eh;have ea:=ea.mono (Aa hH (gx.trans (gy.trans (fj.trans (fk.trans (ck.trans cl))))));refine BV rfl rfl rfl (fun il a2=>D4 _ _ (Al hH (bw.call a2)) (ea.mono (Aa hH (AP bw a2))) e) ?_;rintro il jg k7 a2 ej ⟨_,rfl,gd⟩;have ek:=bw.call a2;have cm:=AP bw a2;have el:=ek.call ej;have cn:=AP ek ej;have ah:=gd.C8 hH ek ej;refine BV rfl rfl rfl (fun im bx=>G3 _ _ (Al hH (el.call bx)) (b7.mono (Ae hH)) f) ?_;rintro im jh k8 bx em ⟨_,rfl,ge⟩;have en:=el.call bx;have a3:=AP el bx;have hq:=en.call em;have a4:=AP en em;have cv:=ge.C8 hH en em;have ae:=ae.mono (Aa hH (fj.trans (fk.trans (ck.trans (cl.trans (cm.trans (cn.trans (a3.trans a4))))))));have af:=af.mono (Aa hH (ck.trans (cl.trans (cm.trans (cn.trans (a3.trans a4))))));have ag:=ag.mono (Aa hH (cm.trans (cn.trans (a3.trans a4))));have ah:=ah.mono (Aa hH (a3.trans a4))
   refine OB (r:=(.vec .byte)) (l:=[am,u,m,o,p]) rfl rfl (fun _=>NV _ ae.one _ af.one _ ag.one _ ah.one _ cv.one _) rfl (B2 5) hH hq (.c1 ⟨_,rfl,ae⟩ (.c1 ⟨_,rfl,af⟩ (.c1 ⟨_,rfl,ag⟩ (.c1 ⟨_,rfl,ah⟩ (.c1 ⟨_,rfl,cv⟩ .nil))))) fun k9 la jy eo ji hr=>BV rfl rfl rfl (fun io bz=>CJ _ _ (Al hH (eo.call bz)) (hr.mono (Aa hH (AP eo bz))) g) ?_;rintro io g0 lb bz ep ⟨_,rfl,gf⟩;have eq:=eo.call bz;have er:=eq.call ep;have g1:=AP eq ep;obtain⟨hs,er,g1,es⟩:=gf.take hH eq ep;refine GQ 1 rfl<|DX (fun lc fs=>?_);have ht:=er.call fs;have g2:=AP er fs;refine AQ ?_;have es:=es.mono (Aa hH g2);refine A6 (s,g0,hs) (Sub.of rfl) ⟨ht,es,h⟩
  refine AB h fun cy h=>Aq h fun am ao h=>Aq h fun u k h=>Aq h fun m c h=>AB h fun d h=>Aq h fun o e h=>Aq h fun p f h=>Aq h fun s g h=>Q0 (H:=H) rfl rfl AaQ Abj Acu rfl j d fun ld le jz hu jj et=>Q0 (H:=H) rfl rfl AaQ Abj Acu rfl hu cy fun lf lg j0 b0 g3 hv=>BV rfl rfl rfl (fun ip a5=>D4 _ _ (Al hH (b0.call a5)) (hv.mono (Aa hH (AP b0 a5))) ao) ?_;rintro ip jk lh a5 eu ⟨_,rfl,gg⟩;have ev:=b0.call a5;have g4:=AP b0 a5;have ew:=ev.call eu;have g5:=AP ev eu;have ai:=gg.C8 hH ev eu;refine BV rfl rfl rfl (fun iq b2=>BB _ _ (Al hH (ew.call b2)) k) ?_;rintro iq jl li b2 ex ⟨_,rfl,gh⟩;have ey:=ew.call b2;have fl:=AP ew b2;have ez:=ey.call ex;have fm:=AP ey ex;have aj:=gh.C8 hH ey ex;refine BV rfl rfl rfl (fun ir b3=>BB _ _ (Al hH (ez.call b3)) c) ?_;rintro ir jm lj b3 e0 ⟨_,rfl,gi⟩;have e1:=ez.call b3
  have co:=AP ez b3;have b4:=e1.call e0;have cp:=AP e1 e0;have ak:=gi.C8 hH e1 e0;have et:=et.mono (Aa hH (g3.trans (g4.trans (g5.trans (fl.trans (fm.trans (co.trans cp)))))));refine BV rfl rfl rfl (fun is a6=>D4 _ _ (Al hH (b4.call a6)) (et.mono (Aa hH (AP b4 a6))) e) ?_;rintro is jn lk a6 e2 ⟨_,rfl,gj⟩;have e3:=b4.call a6;have cq:=AP b4 a6;have e4:=e3.call e2;have cr:=AP e3 e2;have al:=gj.C8 hH e3 e2;refine BV rfl rfl rfl (fun it b5=>G3 _ _ (Al hH (e4.call b5)) (b7.mono (Ae hH)) f) ?_;rintro it jo ll b5 e5 ⟨_,rfl,gk⟩;have e6:=e4.call b5;have a7:=AP e4 b5;have hw:=e6.call e5;have a8:=AP e6 e5;have cw:=gk.C8 hH e6 e5;have ai:=ai.mono (Aa hH (fl.trans (fm.trans (co.trans (cp.trans (cq.trans (cr.trans (a7.trans a8))))))));have aj:=aj.mono (Aa hH (co.trans (cp.trans (cq.trans (cr.trans (a7.trans a8))))));have ak:=ak.mono (Aa hH (cq.trans (cr.trans (a7.trans a8))));have al:=al.mono (Aa hH (a7.trans a8))
  refine OB (r:=(.vec .byte)) (l:=[am,u,m,o,p]) rfl rfl (fun _=>NV _ ai.one _ aj.one _ ak.one _ al.one _ cw.one _) rfl (B2 5) hH hw (.c1 ⟨_,rfl,ai⟩ (.c1 ⟨_,rfl,aj⟩ (.c1 ⟨_,rfl,ak⟩ (.c1 ⟨_,rfl,al⟩ (.c1 ⟨_,rfl,cw⟩ .nil))))) fun lm ln j1 e7 jp hx=>BV rfl rfl rfl (fun iu b6=>CJ _ _ (Al hH (e7.call b6)) (hx.mono (Aa hH (AP e7 b6))) g) ?_;rintro iu g6 lo b6 e8 ⟨_,rfl,gl⟩;have e9:=e7.call b6;have fa:=e9.call e8;have g7:=AP e9 e8;obtain⟨hy,fa,g7,fb⟩:=gl.take hH e9 e8;refine GQ 1 rfl<|DX (fun lp ft=>?_);have hz:=fa.call ft;have g8:=AP fa ft;refine AQ ?_;have fb:=fb.mono (Aa hH g8);refine A6 (s,g6,hy) (Sub.of rfl) ⟨hz,fb,h⟩
 rintro⟨b8,a9,an⟩ j2 ⟨fu,g9,h⟩;refine Ax ?_
 cases h
 refine Am rfl ⟨fu.ext,_,rfl,(fu.GS hH (i:=0) rfl g9)⟩
def HA(a:Aaz):Option Aaz:=
 some a
def FO(a0:List Adu):Aaz×Int->Option ((Aaz×Int) ⊕ (Aaz)):=fun⟨b,a⟩=>
 if a<(a0.length:Int) then Bh (0<=a/\a<(a0.length:Int)) (Option.bind (H9 ((((a0.getD a.toNat default).1).1,((a0.getD a.toNat default).1).2.1,((a0.getD a.toNat default).1).2.2.1,((a0.getD a.toNat default).1).2.2.2),(a0.getD a.toNat default).2)) (fun c=>Bh (Go.E.Ij 1 (b.length+c.length)) (Bh (C0 (a+1)) (some (Sum.inl ((b++c),(a+1))))))) else Option.map Sum.inr (HA b)
def Jh(a0:List Adu)(s:Aaz×Int):Option Aaz:=Go.L.run (FO a0) s
def IH(a0:List Adu):Option Aaz:=
 Option.bind (CG (a0.length:Int)) (fun a=>(Jh a0) (a,0))
theorem QW(w:World)(H:PH)(hH:Le H (hp w)){a0:List Adu}{g:Value}(p:AA Ad3 H g a0){r:Aaz}(h:IH a0=some r):
  Ok prog 191 [g,.func (.func 192) #[] #[]] w (fun v w'=>Ext w w'/\∃ u0,v=u0/\Ck 5 .byte H w w' u0 r):=by
 refine Aw (n:=24) [(0,g),(1,.func (.func 192) #[] #[])] func191 rfl fun hL=>AD 1 rfl<|Bs 1 rfl<|Ah (Bj rfl Adg p) rfl<|Aq h fun x1 ay h=>Bf rfl rfl hL (BB _ _ (Al hH hL) ay) ?_;rintro ai w2 ⟨_,rfl,ab⟩ az ag aj;obtain⟨a1,ag,aj,a2⟩:=ab.take hH hL az;refine A4 1 rfl<|Bw (σ:=Aaz×Value×(List Value)) (fun⟨o,j,e⟩=>[(5,j)]) (fun⟨o,j,e⟩ wr=>FL w [.row j 5 1 (o).length e] wr fun Oz=>AF .byte (gz H w wr Oz) o e/\HA o=some r) ?_ ?_
 ·refine Bs 1 rfl<|Ah (Bj rfl Adg p) rfl<|A4 1 rfl<|A2 ?_;obtain⟨t,h⟩:=AY h;refine B8 (σ:=Aaz×Int×Value×(List Value)×Nat) (fun⟨c,a,d,b,n⟩=>[(1,.func (.func 192) #[] #[]),(5,d),(11,g),(12,No (a0.length:Int)),(13,No a)]) (fun⟨c,a,d,b,n⟩ wr=>FL w [.row d 5 1 (c).length b] wr fun Oz=>AF .byte (gz H w wr Oz) c b/\GR (FO a0) n (c,a)=some r) (fun⟨c,a,d,b,n⟩=>n) (x1,0,ai,a1,t) (Sub.of rfl) ⟨ag,a2,h⟩ ?_;rintro⟨c,a,d,b,nn50⟩ a7 ⟨q,f,h⟩;obtain⟨t,a9,rfl,h,u⟩:=AX h;refine AD 1 rfl<|A9<|AO rfl h (fun ak h=>?_) (fun ak h=>?_)
  ·refine Au<|Ar<|A9<|A2<|Ai<|AB h fun x h=>Be rfl rfl Adg RI p a.toNat (Hc x) (Ba x) rfl ?_;rintro ba _ ⟨_,_,rfl,⟨_,_,rfl,rfl,⟨_,_,rfl,rfl,⟨_,_,rfl,rfl,rfl⟩⟩⟩,⟨e54v4,rfl,e54h4⟩⟩ al;refine Ah (C7 rfl Adf rfl RI al (hH.trans q.arg)) rfl<|A3 RI rfl rfl q fun bb bc am ac _=>Ad 0 rfl RI am rfl (Bb rfl (Bb rfl (Bb rfl (Bb rfl (Bb e54h4.one I8))))) fun bd k ad=>Ac<|Av<|As 2 rfl<|Ah (A5 0 rfl Adf rfl RI k rfl) rfl<|Aq h fun ah an h=>Q1 rfl rfl rfl k (QV (a0:=((((a0.getD a.toNat default).1).1,((a0.getD a.toNat default).1).2.1,((a0.getD a.toNat default).1).2.2.1,((a0.getD a.toNat default).1).2.2.2),(a0.getD a.toNat default).2)) _ _ (Al hH k) (e54h4.mono (Ae hH)) an) ?_;rintro a4 be ⟨_,rfl,y⟩ ao ap ae;have z:=y.C8 hH k ao;refine AB h fun aq h=>?_;have f:=f.mono (Aa hH (ac.trans (ad.trans ae)));refine Bi (r:=.byte) (l:=c) (m:=ah) 1 rfl rfl Abj NK rfl (by decide) rfl hH ap rfl f z aq fun a3 bf ar au a5 s=>As 1 rfl<|AQ<|AJ ?_
   refine Ar<|Av<|AB h fun av h=>Ah (AK rfl av) rfl<|As 1 rfl<|AQ ?_;have aw:=au.AV (i:=0) rfl;have h:=CV.again h u;have s:=s.mono (Aa hH (An (i:=0) rfl));refine AW ((c++ah),(a+1),a3,ar,t) (Sub.of rfl) ⟨aw,s,h⟩ (Nat.lt_succ_self _)
  refine B5<|AE<|A7 ?_;have h:=CV.out h u;refine Bk<|A6 (c,d,b) (Sub.of rfl) ⟨q,f,h⟩
 rintro⟨o,j,e⟩ a8 ⟨aa,af,h⟩;refine AD 2 rfl<|Ax ?_
 cases h
 refine Am rfl ⟨aa.ext,_,rfl,(aa.GS hH (i:=0) rfl af)⟩
end Go.Proofs.YtekmbcbgknmhiaaGreatDoor
end
noncomputable section
namespace Go
abbrev Adv:=Int×(List Adu)
end Go
namespace Go.Proofs.YtekmbcbgknmhiaaGreatDoor
open Go Go.E Go.RowKit Go.L
set_option maxHeartbeats 1000000
set_option maxRecDepth 10000
open _root_.Go.Proofs.Tryz
def Ek(a0:Int×(List Adu)):Option Aaz:=
 Option.bind (CG a0.1) (fun a=>Option.bind (IH a0.2) (fun b=>Bh (Go.E.Ij 1 (a.length+b.length)) (some ((a++b)))))
theorem Mn(w:World)(H:PH)(hH:Le H (hp w)){a0:Int×(List Adu)}{c:Value}(ac:AA Ad3 H c (a0.2)){r:Aaz}(h:Ek a0=some r):
  Ok prog 141 [.agg #[No a0.1,c]] w (fun v w'=>Ext w w'/\∃ u0,v=u0/\Ck 5 .byte H w w' u0 r):=by
 refine Aw (n:=10) [(0,.agg #[No a0.1,c])] func141 rfl fun hL=>Ai<|Dq (t:=49) rfl rfl rfl hL fun w1 b1 aj ap _=>A4 1 rfl<|IQ (.q 0 (.q 1 (.q 3 (.q 4 (.h 2 (.h 5 (.tail 6))))))) mixed (by kernel_rfl) (fun w2 ak=>?_);have e:=aj.call ak;refine FK (Af rfl Adh rfl Dd) rfl rfl<|FK (Ag 0 rfl AaA rfl e rfl) rfl rfl<|FK (Af rfl Adh rfl Zw) rfl rfl<|FK (Ag 0 rfl Adg rfl e rfl) rfl rfl<|Aq h fun x4 al h=>BV rfl rfl rfl (fun w6 j=>BB _ _ (Al hH (e.call j)) al) ?_;rintro w6 au w5 j k ⟨_,rfl,y⟩;have o:=e.call j;have f:=o.call k;have ad:=AP o k;obtain⟨ay,f,ad,p⟩:=y.take hH o k;refine Aq h fun x8 am h=>BV rfl rfl rfl (fun an a=>QW _ _ (Al hH (f.call a)) (ac.mono (Ae hH)) am) ?_;rintro an aw w9 a s ⟨_,rfl,z⟩;have d:=f.call a;have aa:=AP f a;have ab:=d.call s;have ae:=AP d s;have b:=z.C8 hH d s;refine DX (fun az u=>?_);have af:=ab.call u;have g:=AP ab u;refine AB h fun ag h=>?_;have p:=p.mono (Aa hH (aa.trans (ae.trans g)));have b:=b.mono (Aa hH g)
 refine Bi (r:=.byte) (l:=x4) (m:=x8) 0 rfl rfl Abj NK rfl (by decide) rfl hH af rfl p b ag fun a1 a2 ax x ao ah=>A4 1 rfl<|Ax ?_
 cases h
 refine Am rfl ⟨x.ext,_,rfl,(x.GS hH (i:=0) rfl ah)⟩
def EP(a0:Int)(b:List Adu):Option (Adv×(Int×Int)):=
 Option.bind (Ek (a0,b)) (fun c=>if 16384<(c.length:Int) then Option.bind (Fh (14:Int) (-1:Int)) (fun a=>some ((0,[]),(a.1,a.2))) else some ((a0,b),(0,0)))
def El(a0:Int)(a1:List Adu)(b:(List Ad1)):(List Adu)×Int->Option (((List Adu)×Int) ⊕ (Adv×(Int×Int))):=fun⟨d,a⟩=>
 if a<(b.length:Int) then Bh (0<=a/\a<(b.length:Int)) (Option.bind (D0 (Ct [] ((b.getD a.toNat default).1,(b.getD a.toNat default).2.1,(b.getD a.toNat default).2.2.1,(b.getD a.toNat default).2.2.2) a1)) (fun c=>Bh (c.length<4611686018427387904) (Bh ((Lh c).length<=9223372036854775807) (Bh (Go.E.Ij 72 (d.length+([(((b.getD a.toNat default).1,(b.getD a.toNat default).2.1,(b.getD a.toNat default).2.2.1,(b.getD a.toNat default).2.2.2),(Lib.compact (Lh c)))]).length)) (Bh (C0 (a+1)) (some (Sum.inl ((d++[(((b.getD a.toNat default).1,(b.getD a.toNat default).2.1,(b.getD a.toNat default).2.2.1,(b.getD a.toNat default).2.2.2),(Lib.compact (Lh c)))]),(a+1))))))))) else Option.map Sum.inr ((EP a0) d)
def Ix(a0:Int)(a1:List Adu)(a:(List Ad1))(s:(List Adu)×Int):Option (Adv×(Int×Int)):=Go.L.run (El a0 a1 a) s
def Fi(a0:Int)(a1:List Adu):Option (Adv×(Int×Int)):=
 Option.bind (Nd a1) (fun a=>(Ix a0 a1 a) (([]:List Adu),0))
theorem PB(w:World)(H:PH)(hH:Le H (hp w)){a0:Int}{a1:List Adu}{ag:Value}(a9:Rr IB (.vec (.int .i64)) H ag a1){r:Adv×(Int×Int)}(h:Fi a0 a1=some r):
  Ok prog 84 [No a0,ag] w (fun v w'=>Ext w w'/\∃ u0,v=.tuple #[.agg #[No r.1.1,u0],.agg #[No r.2.1,No r.2.2]]/\Ck 203 Ad3 H w w' u0 (r.1.2)):=by
 refine Aw (n:=43) [(0,No a0),(1,ag)] func84 rfl fun hL=>Ai<|A3 Mj rfl rfl hL fun w1 b1 cn c0 _=>A3 AI rfl rfl cn fun w2 b2 co c1 _=>Ac<|Bs 1 rfl<|Ah (AN rfl (fun _=>Z0 _ _)) rfl<|A3 Mj rfl rfl co fun w3 b3 cp c2 _=>Ad 0 rfl Mj cp rfl (AT rfl) fun w4 ba c3=>Ac<|Bw (σ:=(List Adu)×Value×(List Value)) (fun⟨af,ah,ab⟩=>[(4,(Aas b1)),(5,(Aas b2)),(6,(Aas b3))]) (fun⟨af,ah,ab⟩ wr=>FL w [.row ah 203 5 (af).length ab,.box b3 [No a0,ah] 49,.box b2 [No 0,No 0] 28,.box b1 [No 0,Aaq] 49] wr fun Oz=>AF Ad3 (gz H w wr Oz) af ab/\(EP a0) af=some r) ?_ ?_
 ·refine Bs 1 rfl<|Aq h fun b ci h=>Bf rfl rfl ba (UO _ _ (Al hH ba) (a9.mono (Ae hH)) ci) ?_;rintro aw du ⟨_,rfl,bb⟩ cj ck cu;have t:=bb.C8 hH ba cj;refine Ah (Bj rfl AcB t) rfl<|A4 1 rfl<|A2 ?_;obtain⟨bm,bc,bn⟩:=Ez Ad3 H 203 ck;obtain⟨av,h⟩:=AY h;have t:=t.mono (Aa hH bc)
  refine B8 (σ:=(List Adu)×Int×Value×(List Value)×Nat) (fun⟨g,a,d,e,n⟩=>[(1,ag),(4,(Aas b1)),(5,(Aas b2)),(6,(Aas b3)),(13,aw),(14,No (b.length:Int)),(15,No a)]) (fun⟨g,a,d,e,n⟩ wr=>FL w [.row d 203 5 (g).length e,.box b3 [No a0,d] 49,.box b2 [No 0,No 0] 28,.box b1 [No 0,Aaq] 49] wr fun Oz=>AA (.pair .st (.pair (.int .i64) (.pair (.int .i64) .st))) (gz H w wr Oz) aw b/\AF Ad3 (gz H w wr Oz) g e/\GR (El a0 a1 b) n (g,a)=some r) (fun⟨g,a,d,e,n⟩=>n) (([]:List Adu),0,Aaq,[],av) (Sub.of rfl) ⟨bm,t,bn,h⟩ ?_;rintro⟨g,a,d,e,nn107⟩ cv ⟨ai,p,u,h⟩;obtain⟨av,c4,rfl,h,ax⟩:=AX h;refine AD 1 rfl<|A9<|AO rfl h (fun bo h=>?_) (fun bo h=>?_)
  ·refine Au<|Ar<|A9<|A2<|Ai<|AB h fun ay h=>Be rfl rfl AcB K0 p a.toNat (Hc ay) (Ba ay) rfl ?_;rintro c6 _ ⟨_,_,rfl,rfl,⟨_,_,rfl,rfl,⟨_,_,rfl,rfl,rfl⟩⟩⟩ bp;refine Ah (C7 rfl AaE rfl K0 bp (Al hH ai)) rfl<|A3 K0 rfl rfl ai fun c7 bd bq ap _=>Ad 0 rfl K0 bq rfl (AT rfl) fun c8 x aq=>Ac<|Bs 1 rfl<|Ah (A5 0 rfl AaE rfl K0 x rfl) rfl<|Vs (k:=((b.getD a.toNat default).1,(b.getD a.toNat default).2.1,(b.getD a.toNat default).2.2.1,(b.getD a.toNat default).2.2.2)) rfl rfl Adi X8 zeroValue58 a9 (hH.trans x.arg) rfl fun c9 br=>Aq h fun aj bs h=>Bf rfl rfl x (Ll _ _ (Al hH x) (br.mono (Ae hH)) bs) ?_;rintro be da ⟨_,rfl,a6⟩ bt ak ae;obtain⟨cw,ak,ae,bu⟩:=a6.take hH x bt;refine A4 1 rfl ?_;have y:=ak.rG H;refine Bs 1 rfl<|AB h fun bv h=>ZC (i:=0) Tryz.AbO rfl ⟨Tryz.f139,_,func139,rfl,rfl⟩ rfl rfl hH ak rfl (bu.mono y) bv fun db bw az bf al=>Ac ?_
   refine Jw (Ik (Qm (NQ (Ik (M4 L6))))) (fun z0 z=>Le (gz H w z0 [.row be 3 1 ((Lh aj)).length bw,.box bd [.string ⟨((b.getD a.toNat default).1).toArray⟩,No ((b.getD a.toNat default).2.1),No ((b.getD a.toNat default).2.2.1),.string ⟨((b.getD a.toNat default).2.2.2).toArray⟩] 142,.row d 203 5 (g).length e,.box b3 [No a0,d] 49,.box b2 [No 0,No 0] 28,.box b1 [No 0,Aaq] 49]) (hp z)/\z.heap[bd]? = some (.cells [.string ⟨((b.getD a.toNat default).1).toArray⟩,No ((b.getD a.toNat default).2.1),No ((b.getD a.toNat default).2.2.1),.string ⟨((b.getD a.toNat default).2.2.2).toArray⟩].toArray 142 (0,0))/\z.heap[b3]? = some (.cells [No a0,d].toArray 49 (0,0))/\z.heap[b2]? = some (.cells [No 0,No 0].toArray 28 (0,0))/\z.heap[b1]? = some (.cells [No 0,Aaq].toArray 49 (0,0))) mixed rfl (fun q dd a2=>?_);have j:=az.call a2;have ar:=AP az a2;have c:=j.rG H;refine LI ⟨c.trans (Al hH j),j.at (i:=1) rfl,j.at (i:=3) rfl,j.at (i:=4) rfl,j.at (i:=5) rfl⟩ fun kI125=>A1 0 q kI125 (by kernel_rfl) rfl (fun _ _=>Af rfl Adh rfl Zw) rfl ?_
   refine A1 1 q kI125 (by kernel_rfl) rfl (fun _ hI=>M6 rfl Adg rfl hI.2.2.1 rfl) rfl<|A1 2 q kI125 (by kernel_rfl) rfl (fun _ hI=>JL rfl AaE rfl K0 hI.2.1) rfl<|A1 3 q kI125 (by kernel_rfl) rfl (fun _ _=>Aj rfl) rfl<|Er (i:=4) (by kernel_rfl) rfl<|AB h fun bx h=>?_;have al:=al.mono (Aa hH ar);refine ZD (i:=0) Tryz.AbP rfl ⟨Tryz.f140,_,func140,rfl,rfl⟩ rfl rfl hH j rfl (al.mono c) bx ?_;intro de df cx f bg bz;have c:=c.trans (Aa hH bg);refine AL ⟨c.trans (Al hH f),f.at (i:=1) rfl,f.at (i:=3) rfl,f.at (i:=4) rfl,f.at (i:=5) rfl⟩ fun kI128=>A1 5 q kI128 (by kernel_rfl) rfl (fun _ _=>AN rfl (fun _=>U3 _ _ _ _ _ (row_one (f.at (i:=0) rfl)) _)) rfl<|Er (i:=6) (by kernel_rfl) rfl ?_;have b0:=f.C8 hH (i:=0) rfl bz;have b4:=f.AV (i:=0) rfl
   refine Br (r:=Ad3) (l:=[(((b.getD a.toNat default).1,(b.getD a.toNat default).2.1,(b.getD a.toNat default).2.2.1,(b.getD a.toNat default).2.2.2),(Lib.compact (Lh aj)))]) rfl (fun _=>Z9 _ _ _ _ _ _) rfl (B2 1) hH b4 (.c5 ⟨_,_,rfl,⟨_,_,rfl,rfl,⟨_,_,rfl,rfl,⟨_,_,rfl,rfl,rfl⟩⟩⟩,⟨_,rfl,b0⟩⟩ .nil) ?_;intro dg dh cy s bh b5;have c:=c.trans (Aa hH ((An (i:=0) rfl).trans bh));refine AL ⟨c.trans (Al hH s),s.at (i:=0) rfl,s.at (i:=2) rfl,s.at (i:=3) rfl,s.at (i:=4) rfl⟩ fun kI131=>Er (i:=7) (by kernel_rfl) rfl<|AB h fun b6 h=>?_;have u:=u.mono (Aa hH (ap.trans (aq.trans ae)));have y:=y.trans (Aa hH (bf.trans ar));refine Bi (r:=Ad3) (l:=g) (m:=[(((b.getD a.toNat default).1,(b.getD a.toNat default).2.1,(b.getD a.toNat default).2.2.1,(b.getD a.toNat default).2.2.2),(Lib.compact (Lh aj)))]) 1 rfl rfl Adg RI rfl (by decide) rfl hH s rfl ((u.mono y).mono c) b5 b6 ?_;intro cl di b7 o bi am;have c:=c.trans (Aa hH bi)
   refine AL ⟨c.trans (Al hH o),o.at (i:=0) rfl,o.at (i:=2) rfl,o.at (i:=3) rfl,o.at (i:=4) rfl⟩ fun kI134=>A1 8 q kI134 (by kernel_rfl) rfl (fun _ _=>Af rfl Adh rfl Zw) rfl<|Er (i:=9) (by kernel_rfl) rfl<|B6 2 rfl rfl (row_one (o.at (i:=1) rfl)) Zw o rfl rfl fun dj b8 au=>F9 (by kernel_rfl)<|D6 (by kernel_rfl)<|AJ<|Ar<|Av<|AB h fun b9 h=>Ah (AK rfl b9) rfl<|As 1 rfl<|AQ ?_;have ca:=b8.AV (i:=0) rfl;have h:=CV.again h ax;have p:=p.mono (Aa hH (ap.trans (aq.trans ae)));have am:=am.mono (Aa hH (au.trans (An (i:=0) rfl)));have c:=c.trans (Aa hH (au.trans (An (i:=0) rfl)));refine AW ((g++[(((b.getD a.toNat default).1,(b.getD a.toNat default).2.1,(b.getD a.toNat default).2.2.1,(b.getD a.toNat default).2.2.2),(Lib.compact (Lh aj)))]),(a+1),cl,b7,av) (Sub.of rfl) ⟨ca,((p.mono y).mono c),am,h⟩ (Nat.lt_succ_self _)
  refine B5<|AE<|A7 ?_;have h:=CV.out h ax;refine Bk<|A6 (g,d,e) (Sub.of rfl) ⟨ai,u,h⟩
 rintro⟨af,ah,ab⟩ dk ⟨an,ac,h⟩;refine A9<|Ai<|Ah (A5 1 rfl Adh rfl Mj an rfl) rfl<|Aq h fun dl cb h=>Bf rfl rfl an (Mn (a0:=(a0,af)) _ _ (Le.refl _) (an.Zi hH (i:=0) rfl ac) cb) ?_;rintro cq dm ⟨_,rfl,a7⟩ cc aa bj;have a8:=(a7.Su Us).C8 hH an cc;refine Ah (Bj rfl Abj a8) rfl<|A4 1 rfl<|AO rfl h (fun cd h=>?_) (fun cd h=>?_)
 ·refine Ai<|Ah (AN rfl (fun _=>S9 _)) rfl<|Aq h fun dn ce h=>A8 rfl rfl aa (JX _ _ (Al hH aa) ce) fun dp cz cf cr=>Ad 3 rfl Mj cf rfl (AT rfl) fun dq cg cs=>Ad 2 rfl AI cg rfl (AT rfl) fun dr ao ct=>Ac<|Ax<|Ay ?_
  cases h
  refine B0 rfl (.cell rfl Adh rfl Mj (AG (i:=3) ao rfl)) (.cell rfl AcP rfl AI (AG (i:=2) ao rfl)) ⟨ao.ext,_,rfl,Ck.nil⟩
 refine Au<|Ar<|Ai<|Ah (A5 1 rfl Adh rfl Mj aa rfl) rfl<|Ah (AN rfl (fun _=>BL _)) rfl<|Ad 3 rfl Mj aa rfl (Bb rfl (Bb (row_one (aa.at (i:=0) rfl)) I8)) fun ds ch bk=>Ad 2 rfl AI ch rfl (AT rfl) fun dt ad bl=>Ac<|Ax ?_
 cases h
 refine B0 rfl (.cell rfl Adh rfl Mj (AG (i:=3) ad rfl)) (.cell rfl AcP rfl AI (AG (i:=2) ad rfl)) ?_;have ac:=ac.mono (Aa hH (bj.trans (bk.trans bl)));exact⟨ad.ext,_,rfl,(ad.GS hH (i:=0) rfl ac)⟩
def GW(a0:List Go.L.Pv)(b:List Adu):Option (Adv×(Int×Int)):=
 Option.bind (Fi (a0.length:Int) b) (fun a=>some ((a.1.1,a.1.2),(a.2.1,a.2.2)))
def Cr(a0:List Go.L.Pv):(List Adu)×Int->Option (((List Adu)×Int) ⊕ (Adv×(Int×Int))):=fun⟨d,a⟩=>
 if a<(a0.length:Int) then Bh (0<=a/\a<(a0.length:Int)) (Option.bind (Dj (a0.getD a.toNat default)) (fun b=>if b.1=0/\b.2=0 then Option.bind (Hg (HT a) (a0.getD a.toNat default) ([]:List Aaz) d) (fun e=>Bh (C0 (a+1)) (some (Sum.inl (e,(a+1))))) else Option.bind (Fh b.1 a) (fun c=>Option.map Sum.inr (some ((0,[]),(c.1,c.2)))))) else Option.map Sum.inr ((GW a0) d)
def Iy(a0:List Go.L.Pv)(s:(List Adu)×Int):Option (Adv×(Int×Int)):=Go.L.run (Cr a0) s
def HV(a0:List Go.L.Pv):Option (Adv×(Int×Int)):=
 if 64<(a0.length:Int) then Option.bind (Fh (2:Int) (-1:Int)) (fun a=>some ((0,[]),(a.1,a.2))) else(Iy a0) (([]:List Adu),0)
theorem PC(w:World)(H:PH)(hH:Le H (hp w)){a0:List Go.L.Pv}{j:Value}(p:AA .tree H j a0){r:Adv×(Int×Int)}(h:HV a0=some r):
  Ok prog 48 [j] w (fun v w'=>Ext w w'/\∃ u0,v=.tuple #[.agg #[No r.1.1,u0],.agg #[No r.2.1,No r.2.2]]/\AA Ad3 (un H (nw w w')) u0 (r.1.2)):=by
 refine Aw (n:=41) [(0,j)] func48 rfl fun hL=>Ai<|A3 Mj rfl rfl hL fun w1 x bp cg _=>A3 AI rfl rfl bp fun w2 y ag ch _=>Ac<|A9<|Bs 1 rfl<|Ah (Bj rfl Ade p) rfl<|A4 1 rfl<|AO rfl h (fun bq h=>?_) (fun bq h=>?_)
 ·refine Ai<|Ah (AN rfl (fun _=>S9 _)) rfl<|Aq h fun x5 br h=>A8 rfl rfl ag (JX _ _ (Al hH ag) br) fun w6 c3 bs ci=>Ad 1 rfl Mj bs rfl (AT rfl) fun w7 bt cj=>Ad 0 rfl AI bt rfl (AT rfl) fun w8 ah ck=>Ac<|Ax<|Ay ?_
  cases h
  refine B0 rfl (.cell rfl Adh rfl Mj (AG (i:=1) ah rfl)) (.cell rfl AcP rfl AI (AG (i:=0) ah rfl)) ⟨ah.ext,_,rfl,(AA.nil _ _)⟩
 refine Au<|Ar<|Ai<|RE IB (List Int) rfl ag fun c4 g bk cb=>A3 Aa4 rfl rfl bk fun c5 o bl cc _=>B6 0 rfl rfl rfl Aa4 bl rfl rfl fun c6 bm cd=>Ac<|Bw (σ:=(List Adu)×(List Value)) (fun⟨m,vsl68⟩=>[(0,j),(2,(Aas x)),(3,(Aas y)),(4,(Aas o))]) (fun⟨m,vsl68⟩ wr=>FL w (Ha [.box o [.map (some g)] 139,Ny IB g m vsl68,.box y [No 0,No 0] 28,.box x [No 0,Aaq] 49] (mT cwI 3 1 m vsl68)) wr fun Oz=>(m).length=(vsl68).length/\(GW a0) m=some r) ?_ ?_
 ·refine Bs 1 rfl<|Ah (Bj rfl Ade p) rfl<|A4 1 rfl<|A2 ?_;obtain⟨ai,h⟩:=AY h;refine B8 (σ:=(List Adu)×Int×(List Value)×Nat) (fun⟨b,a,vsl97,n⟩=>[(0,j),(2,(Aas x)),(3,(Aas y)),(4,(Aas o)),(14,j),(15,No (a0.length:Int)),(16,No a)]) (fun⟨b,a,vsl97,n⟩ wr=>FL w (Ha [.box o [.map (some g)] 139,Ny IB g b vsl97,.box y [No 0,No 0] 28,.box x [No 0,Aaq] 49] (mT cwI 3 1 b vsl97)) wr fun Oz=>(b).length=(vsl97).length/\GR (Cr a0) n (b,a)=some r) (fun⟨b,a,vsl97,n⟩=>n) (([]:List Adu),0,([]:List Value),ai) (Sub.of rfl) ⟨bm,rfl,h⟩ ?_;rintro⟨b,a,vsl97,nn99⟩ cl ⟨z,ad,h⟩;obtain⟨ai,c7,rfl,h,aa⟩:=AX h;refine AD 1 rfl<|A9<|AO rfl h (fun ao h=>?_) (fun ao h=>?_)
  ·refine Au<|Ar<|A9<|A2<|Bs 1 rfl<|AB h fun ae h=>Be rfl rfl Ade Fz p a.toNat (Hc ae) (Ba ae) rfl ?_;rintro cm _ e103t0 ap;obtain⟨_,_,rfl,rfl,⟨_,_,rfl,rfl,⟨_,_,rfl,⟨e103v2,rfl,e103h2⟩,⟨_,_,rfl,⟨e103v3,rfl,e103h3⟩,⟨e103v4,rfl,e103h4⟩⟩⟩⟩⟩:=Go.E.Rp.IA e103t0;refine Ah (C7 rfl AcQ rfl Fz ap (hH.trans z.arg)) rfl<|A3 Dd rfl rfl z fun cn aj aq bu _=>A3 Fz rfl rfl aq fun co ab ar bv _=>B6 1 rfl rfl rfl Dd ar rfl rfl fun cp au bw=>Ad 0 rfl Fz au rfl (Bb rfl (Bb rfl (Bb e103h2.one (Bb e103h3.one (Bb e103h4.one I8))))) fun cq q bx=>Ac<|A9<|Ai<|Ah (A5 0 rfl AcQ rfl Fz q rfl) rfl<|Aq h fun k av h=>A8 rfl rfl q (KH (a0:=(a0.getD a.toNat default)) _ _ (Al hH q) (e103h2.mono (Ae hH)) (e103h3.mono (Ae hH)) (e103h4.mono (Ae hH)) av) fun cr ce aw bz=>A3 AI rfl rfl aw fun cs ac ax b0 _=>Ad 0 rfl AI ax rfl (AT rfl) fun ak c b3=>Ac<|Ai<|Ah (A5 0 rfl AcP rfl AI c rfl) rfl ?_
   refine Ah (AN rfl (fun _=>BL _)) rfl<|Ah (JJ rfl rfl ID (Ld _ _ _ _)) rfl<|Ac<|Cf rfl h (fun ay h=>?_) (fun ay h=>?_)
   ·refine Ai<|Ah (AN rfl (fun _=>S9 _)) rfl<|Ah (Af rfl AcP rfl Dd) rfl<|Ah (Ag 0 rfl AaA rfl c rfl) rfl<|Ah (Ag 2 rfl AaA rfl c rfl) rfl<|Aq h fun ct az h=>A8 rfl rfl c (JX _ _ (Al hH c) az) fun cu cf a2 b4=>Ad 6 rfl Mj a2 rfl (AT rfl) fun cv a3 b5=>Ad 5 rfl AI a3 rfl (AT rfl) fun cw s b6=>Ac<|Ax<|Ay<|Az<|Ay<|Cv ?_;have h:=CV.out h aa;refine Az<|BH ?_
    cases h
    refine B0 rfl (.cell rfl Adh rfl Mj (AG (i:=6) s rfl)) (.cell rfl AcP rfl AI (AG (i:=5) s rfl)) ⟨s.ext,_,rfl,(AA.nil _ _)⟩
   refine Au<|Ar<|Av<|Ah (A5 1 rfl AcQ rfl Fz c rfl) rfl<|As 1 rfl ?_;have a4:AU w (Ha [.box aj [No a] 3,Ny IB g b vsl97,.box ac [No k.1,No k.2] 28,.box ab [No ((a0.getD a.toNat default).f.1),No ((a0.getD a.toNat default).f.2.1),e103v2,e103v3,e103v4] 64,.box o [.map (some g)] 139,.box y [No 0,No 0] 28,.box x [No 0,Aaq] 49] (mT cwI 3 1 b vsl97)) ak:=c.CW [4,3] rfl;have a5:AU w (Ha [.box o [.map (some g)] 139,.box aj [No a] 3,Ny IB g b vsl97,.box ac [No k.1,No k.2] 28,.box ab [No ((a0.getD a.toNat default).f.1),No ((a0.getD a.toNat default).f.2.1),e103v2,e103v3,e103v4] 64,.box y [No 0,No 0] 28,.box x [No 0,Aaq] 49] (mT cwI 3 1 b vsl97)) ak:=a4.CW [4] rfl;refine Aq h fun bn a6 h=>?_
   refine EL rfl rfl (SQ hH (O:=[.box ac [No k.1,No k.2] 28,.box ab [No ((a0.getD a.toNat default).f.1),No ((a0.getD a.toNat default).f.2.1),e103v2,e103v3,e103v4] 64,.box y [No 0,No 0] 28,.box x [No 0,Aaq] 49]) (i:=a) (l:=b) (vs:=vsl97) (a0:=(a0.getD a.toNat default)) (a1:=([]:List Aaz)) a5 (e103h2.mono (Ae hH)) (e103h3.mono (Ae hH)) (e103h4.mono (Ae hH)) (AA.nil _ _) ad a6) ?_;rintro _ cx ⟨rfl,a7,a8,a9,b7⟩;refine AQ<|AJ<|Ar<|Av<|AB h fun ba h=>Ah (AK rfl ba) rfl<|As 1 rfl<|AQ ?_;have bb:=a9.AV (i:=1) rfl;have bc:=bb.AV (i:=2) rfl;have bd:=bc.AV (i:=2) rfl;have h:=CV.again h aa;refine AW (bn,(a+1),a7,ai) (Sub.of rfl) ⟨bd,a8,h⟩ (Nat.lt_succ_self _)
  refine B5<|AE<|A7 ?_;have h:=CV.out h aa;refine Bk<|A6 (b,vsl97) (Sub.of rfl) ⟨z,ad,h⟩
 rintro⟨m,vsl68⟩ cy ⟨al,be,h⟩;refine Bs 1 rfl<|Ah (Bj rfl Ade p) rfl<|Ah (Ag 0 rfl Adi rfl al rfl) rfl ?_;obtain⟨t,b8,bf⟩:=Vr (A:=[.box o [.map (some g)] 139,Ny IB g m vsl68,.box y [No 0,No 0] 28,.box x [No 0,Aaq] 49]) (l:=m) (vs:=vsl68) (e:=3) (r:=(.int .i64)) 1 rfl Aa2 hH be al rfl;refine Aq h fun cz bg h=>Bf rfl rfl t (PB _ _ (Al hH t) bf bg) ?_;rintro _ c0 ⟨b9,rfl,af⟩ bh bi ca;have d:=af.C8 hH t bh;refine As 2 rfl<|Ad 2 rfl Mj bi rfl (Bb rfl (Bb d.one I8)) fun c1 bj am=>Ad 1 rfl AI bj rfl (AT rfl) fun c2 u an=>Ac<|Ax ?_
 cases h
 refine B0 rfl (.cell rfl Adh rfl Mj (AG (i:=2) u rfl)) (.cell rfl AcP rfl AI (AG (i:=1) u rfl)) ?_;have d:=d.mono (Aa hH (am.trans an));exact⟨u.ext,_,rfl,(d.mono (Dg hH))⟩
end Go.Proofs.YtekmbcbgknmhiaaGreatDoor
end
noncomputable section
namespace Go.L
def QX(s:List UInt8):List UInt8:=Lp (zz (s.length:Int))++s
def UP(l:List Int):List UInt8:=Lp (zz (l.length:Int))++l.flatMap fun i=>Lp (zz i)
end Go.L
namespace Go.Proofs.YtekmbcbgknmhiaaGreatDoor
open Go Go.L
def On(e:En):List UInt8:=[QX e.1.1,Lp (zz e.1.2.1),Lp (zz e.1.2.2.1),QX e.1.2.2.2,UP e.2].flatten
def Yx(n:Int)(es:List En):List UInt8:=Lp (zz n)++(Lp (zz (es.length:Int))++es.flatMap On)
def EnS(e:En):Prop:=e.1.1.length<=2000000/\C0 e.1.2.1/\C0 e.1.2.2.1/\e.1.2.2.2.length<=2000000/\(∀ z∈e.2,C0 z)/\e.2.length<=1000000
theorem Lq(l:List Int):(l.flatMap fun i=>Lp (zz i)).length<=10 * l.length:=by
 induction l with
 | nil=>simp
 | cons a l ih=>rw [List.flatMap_cons,List.length_append,List.length_cons];have:=EA (zz a);omega
theorem KI{α β:Type}[Inhabited α](f:α->List β){l:List α}{i:Nat}(h:i<l.length):(l.take (i+1)).flatMap f=(l.take i).flatMap f++f (l.getD i default):=by
 rw [List.take_add_one,List.getElem?_eq_getElem h,Option.toList_some,List.flatMap_append];simp [List.getD_eq_getElem?_getD,List.getElem?_eq_getElem h]
theorem Aaf{l:List Int}(h:∀ z∈l,C0 z)(hl:l.length<=1000000):Hh l=some (UP l):=by
 unfold Hh;rw [G0 (by unfold C0;omega),Option.bind_some];unfold HU;have b:=EA (zz (l.length:Int));refine Gw (fun i=>(Lp (zz (l.length:Int))++(l.take i).flatMap (fun i=>Lp (zz i)),((i:Nat):Int))) l.length (fun i hi=>?_) ?_ 0 (Nat.zero_le _) |> fun hh=>by simpa using hh
 ·unfold EH;dsimp only;have a:=Lq (l.take i);have h2:=EA (zz (l.getD i default));rw [List.length_take] at a;rw [if_pos (by omega),Ak (by omega),Int.toNat_natCast,G0 (h _ (FZ hi)),Option.bind_some,Ak (by unfold Go.E.Ij;simp only [List.length_append];omega),Ak (by unfold C0;omega),KI _ hi,List.append_assoc]
  rfl
 ·unfold EH G2;dsimp only;rw [if_neg (by omega),List.take_length]
  rfl
theorem N3{α:Type}:∀ (L:List (List α)) (i:Nat),(L.take i).flatten.length<=L.flatten.length
 | [],i=>by simp
 | x::L,0=>by simp
 | x::L,i+1=>by have:=N3 L i;simp only [List.take_succ_cons,List.flatten_cons,List.length_append];omega
theorem Ji{α:Type}{L:List (List α)}{i:Nat}(h:i<L.length):(L.take (i+1)).flatten=(L.take i).flatten++L.getD i default:=by
 rw [List.take_add_one,List.getElem?_eq_getElem h,Option.toList_some,List.flatten_append];simp [List.getD_eq_getElem?_getD,List.getElem?_eq_getElem h]
theorem Aag{n:Int}(h:0<=n/\n<=1000000000000):Df [] n=some []:=by
 unfold Df Dk;rw [if_neg (by omega),Ak (by unfold C0;omega),Ak (by unfold C0;omega)]
 split
 ·rw [Ak (by omega)]
 ·rfl
theorem W5{L:List (List UInt8)}(hL:L.length<=1000)(ht:L.flatten.length<=1000000000000):CA L=some L.flatten:=by
 have hx:∀ i,i<L.length->(L.take i).flatten.length+(L.getD i default).length<=1000000000000:=fun i hi=>by
  have a:=N3 L (i+1);rw [Ji hi,List.length_append] at a;omega
 have b:Cq L (L.flatten.length:Int)=some L.flatten:=by
  unfold Cq;rw [Aag (by omega),Option.bind_some];unfold DK;refine Gw (fun i=>((L.take i).flatten,((i:Nat):Int))) L.length (fun i hi=>?_) ?_ 0 (Nat.zero_le _)
  ·unfold Cd;dsimp only;have:=hx i hi;rw [if_pos (by omega),Ak (by omega),Int.toNat_natCast,Ak (by unfold Go.E.Ij;omega),Ak (by unfold C0;omega),Ji hi]
   rfl
  ·unfold Cd CI;dsimp only;rw [if_neg (by omega),List.take_length]
 unfold CA DL;refine Gw (fun i=>(((L.take i).flatten.length:Int),((i:Nat):Int))) L.length (fun i hi=>?_) ?_ 0 (Nat.zero_le _)
 ·unfold Ce;dsimp only;have:=hx i hi;rw [if_pos (by omega),Ak (by omega),Int.toNat_natCast,Ak (by unfold C0;omega),if_neg (by omega),Ak (by unfold C0;omega),Ji hi,List.length_append]
  rfl
 ·unfold Ce;dsimp only;rw [if_neg (by omega),List.take_length,b]
theorem Nf{e:En}(h:EnS e):(On e).length<=20000000:=by
 obtain⟨a,_,_,b,_,c⟩:=h;unfold On QX UP;simp only [List.flatten_cons,List.flatten_nil,List.length_append,List.length_nil];have:=Lq e.2;have:=EA (zz (e.1.1.length:Int));have:=EA (zz e.1.2.1);have:=EA (zz e.1.2.2.1);have:=EA (zz (e.1.2.2.2.length:Int));have:=EA (zz (e.2.length:Int));omega
theorem TY{s:List UInt8}(h:s.length<=2000000):F4 s=some (QX s):=by
 unfold F4 QX;have:=EA (zz (s.length:Int));rw [G0 (by unfold C0;omega),Option.bind_some,Ak (by unfold Go.E.Ij;omega)]
theorem Aah{e:En}(h:EnS e):H9 e=some (On e):=by
 have hl:=Nf h;obtain⟨a,h2,h3,b,c,d⟩:=h;unfold H9;rw [Ak (by omega),TY a,Option.bind_some,G0 h2,Option.bind_some,G0 h3,Option.bind_some,Ak (by omega),TY b,Option.bind_some,Aaf c d,Option.bind_some,W5 (by simp) (by unfold On at hl;omega)]
 rfl
theorem K6{α β:Type}(f:α->List β)(B:Nat):∀ {l:List α},(∀ x∈l,(f x).length<=B)->(l.flatMap f).length<=l.length * B
 | [],_=>by simp
 | x::l,h=>by
  rw [List.flatMap_cons,List.length_append,List.length_cons,Nat.add_mul];have:=h x (.head _);have:=K6 f B fun y hy=>h y (.tail _ hy);omega
theorem Yy{n:Int}{es:List En}(hn:C0 n)(hl:es.length<=1000000)(h:∀ e∈es,EnS e):Ek (n,es)=some (Yx n es):=by
 have ht:=K6 On 20000000 (l:=es) fun x hx=>Nf (h x hx);have b:=EA (zz (es.length:Int));have c:=EA (zz n)
 have hw:IH es=some (Lp (zz (es.length:Int))++es.flatMap On):=by
  unfold IH;rw [G0 (by unfold C0;omega),Option.bind_some];unfold Jh;refine Gw (fun i=>(Lp (zz (es.length:Int))++(es.take i).flatMap On,((i:Nat):Int))) es.length (fun i hi=>?_) ?_ 0 (Nat.zero_le _) |> fun hh=>by simpa using hh
  ·unfold FO;dsimp only;have a:=K6 On 20000000 (l:=es.take i) fun x hx=>Nf (h x (List.mem_of_mem_take hx));rw [List.length_take] at a;have d:=Nf (h _ (FZ hi));have f:min i es.length * 20000000<=1000000 * 20000000:=Nat.mul_le_mul_right _ (by omega);rw [if_pos (by omega),Ak (by omega),Int.toNat_natCast]
   show(H9 (es.getD i default)).bind _=_
   rw [Aah (h _ (FZ hi)),Option.bind_some,Ak (by unfold Go.E.Ij;simp only [List.length_append];omega),Ak (by unfold C0;omega),KI _ hi,List.append_assoc]
   rfl
  ·unfold FO HA;dsimp only;rw [if_neg (by omega),List.take_length]
 unfold Ek;dsimp only;have g:es.length * 20000000<=1000000 * 20000000:=Nat.mul_le_mul_right _ hl;rw [G0 hn,Option.bind_some,hw,Option.bind_some,Ak (by unfold Go.E.Ij;simp only [List.length_append];omega)]
 rfl
structure EV (n:Int) (e:En):Prop where
 path:e.1.1.length<=330/\¬ 0<=wr false 0 (sl e.1.1)
 kind:1<=e.1.2.1/\e.1.2.1<=4
 num:e.1.2.2.1=0\/e.1.2.1=1
 text:e.1.2.2.2=[]\/e.1.2.1=2
 ne:e.2≠[]
 items:∀ z∈e.2,0<=z/\z<n
 inc:e.2.Pairwise (fun a b=>a<b)
end Go.Proofs.YtekmbcbgknmhiaaGreatDoor
end
noncomputable section
namespace Go.L
def Ap{α:Type}(m m':Option α):Prop:=∀ r,m=some r->m'=some r
theorem YT{α:Type}(m:Option α):Ap m m:=fun _ h=>h
theorem apB{α β:Type}{m m':Option α}{f f':α->Option β}(h:Ap m m')(k:∀ x,Ap (f x) (f' x)):Ap (Option.bind m f) (Option.bind m' f'):=fun r e=>by
 obtain⟨x,a,h2⟩:=bind_some e;rw [h x a,Option.bind_some];exact k x r h2
theorem apC{α:Type}{p:Prop}[Decidable p]{m m':Option α}(h:Ap m m'):Ap (Go.L.Bh p m) (Go.L.Bh p m'):=fun r e=>by
 obtain⟨a,h2⟩:=Fw e;rw [Ak a];exact h r h2
theorem apI{α:Type}{p:Prop}[Decidable p]{a b a' b':Option α}(h:Ap a a')(k:Ap b b'):Ap (if p then a else b) (if p then a' else b'):=fun r e=>by
 by_cases hp:p
 ·rw [if_pos hp] at e ⊢;exact h r e
 ·rw [if_neg hp] at e ⊢;exact k r e
theorem apM{α β:Type}{f:α->β}{m m':Option α}(h:Ap m m'):Ap (Option.map f m) (Option.map f m'):=fun r e=>by
 cases m with
 | none=>cases e
 | some x=>rw [h x rfl];exact e
theorem apO{α β:Type}{x:Option α}{ex ex':Option β}{k k':α->Option β}(h:Ap ex ex')(hk:∀ y,Ap (k y) (k' y)):Ap (Go.L.Um x ex k) (Go.L.Um x ex' k'):=by
 cases x with
 | none=>exact h
 | some y=>exact hk y
theorem Ap.GR{σ ρ:Type}{b b':σ->Option (σ ⊕ ρ)}(h:∀ s,Ap (b s) (b' s)):∀ (n:Nat) (s:σ),Ap (GR b n s) (GR b' n s)
 | 0,_=>fun _ e=>by cases e
 | n+1,s=>fun r e=>by
  obtain⟨m,x,hm,a,h2⟩:=AX e;obtain rfl:n=m:=by omega
  rw [Go.L.GR,h s x a]
  cases x with
  | inl s'=>exact Ap.GR h n s' r h2
  | inr y=>exact congrArg some h2
theorem Ap.run{σ ρ:Type}{b b':σ->Option (σ ⊕ ρ)}(h:∀ s,Ap (b s) (b' s))(n:Nat)(s:σ):Ap (Go.L.GR b n s) (Go.L.run b' s):=fun r e=>Ss (Ap.GR h n s r e)
class Mi {α:Type} (m:Option α) where
 c:Option α
 h:Ap c m
noncomputable instance {α:Type} (x:α):Mi (some x):=⟨some x,YT _⟩
noncomputable instance {α:Type}:Mi (none:Option α):=⟨none,YT _⟩
noncomputable instance iB {α β:Type} (m:Option α) (f:α->Option β) [i:Mi m] [j:∀ x,Mi (f x)]:Mi (Option.bind m f):=⟨Option.bind i.c fun x=>(j x).c,apB i.h fun x=>(j x).h⟩
noncomputable instance iC {α:Type} (p:Prop) [Decidable p] (m:Option α) [i:Mi m]:Mi (Go.L.Bh p m):=⟨Go.L.Bh p i.c,apC i.h⟩
noncomputable instance iI {α:Type} (p:Prop) [Decidable p] (a b:Option α) [i:Mi a] [j:Mi b]:Mi (if p then a else b):=⟨if p then i.c else j.c,apI i.h j.h⟩
noncomputable instance {α β:Type} (f:α->β) (m:Option α) [i:Mi m]:Mi (Option.map f m):=⟨Option.map f i.c,apM i.h⟩
noncomputable instance {α β:Type} (x:Option α) (ex:Option β) (k:α->Option β) [i:Mi ex] [j:∀ y,Mi (k y)]:Mi (Go.L.Um x ex k):=⟨Go.L.Um x i.c fun y=>(j y).c,apO i.h fun y=>(j y).h⟩
noncomputable instance {σ ρ:Type} (b:σ->Option (σ ⊕ ρ)) (s:σ) [i:∀ s,Mi (b s)]:Mi (Go.L.run b s):=⟨Go.L.GR (fun s=>(i s).c) 300 s,Ap.run (fun s=>(i s).h) 300 s⟩
end Go.L
namespace Go.L
def W6{α:Type}(le:α->α->Bool)(a:α):List α->List α
 | []=>[a]
 | b::l=>if le a b then a::b::l else b::W6 le a l
def isB{α:Type}(le:α->α->Bool):List α->List α
 | []=>[]
 | a::l=>W6 le a (isB le l)
section
variable {α:Type} {le:α->α->Bool}
theorem OS(a:α):∀ l:List α,(W6 le a l).Perm (a::l)
 | []=>.refl _
 | b::l=>by
  unfold W6
  split
  ·exact .refl _
  ·exact((OS a l).cons b).trans (.swap a b l)
theorem TZ:∀ l:List α,(isB le l).Perm l
 | []=>.refl _
 | a::l=>(OS a _).trans ((TZ l).cons a)
theorem Pt(htr:∀ a b c,le a b=true->le b c=true->le a c=true)(hto:∀ a b,le a b=true\/le b a=true)(a:α):∀ l:List α,l.Pairwise (fun x y=>le x y=true)->(W6 le a l).Pairwise fun x y=>le x y=true
 | [],_=>List.pairwise_singleton _ _
 | b::l,h=>by
  unfold W6
  split
  ·rename_i d;refine .cons (fun x hx=>?_) h
   rcases List.mem_cons.1 hx with rfl | hx
   ·exact d
   ·exact htr _ _ _ d ((List.pairwise_cons.1 h).1 x hx)
  ·rename_i d;have h2:le b a=true:=by rcases hto a b with h | h;exact absurd h d;exact h
   refine .cons (fun x hx=>?_) (Pt htr hto a l (List.pairwise_cons.1 h).2)
   rcases List.mem_cons.1 ((OS a l).mem_iff.1 hx) with rfl | hx
   ·exact h2
   ·exact(List.pairwise_cons.1 h).1 x hx
theorem NF(htr:∀ a b c,le a b=true->le b c=true->le a c=true)(hto:∀ a b,le a b=true\/le b a=true):∀ l:List α,(isB le l).Pairwise fun x y=>le x y=true
 | []=>.nil
 | a::l=>Pt htr hto a _ (NF htr hto l)
theorem Sg(has:∀ a b,le a b=true->le b a=true->a=b):∀ {l m:List α},l.Perm m->l.Pairwise (fun x y=>le x y=true)->m.Pairwise (fun x y=>le x y=true)->l=m
 | [],m,hp,_,_=>hp.nil_eq
 | a::l,m,hp,hl,hm=>by
  cases m with
  | nil=>exact absurd hp.symm.nil_eq (by simp)
  | cons b m=>
   obtain⟨d,e⟩:=List.pairwise_cons.1 hl;obtain⟨f,g⟩:=List.pairwise_cons.1 hm
   have hab:a=b:=by
    rcases List.mem_cons.1 (hp.mem_iff.1 (.head _)) with c | c
    ·exact c
    ·rcases List.mem_cons.1 (hp.mem_iff.2 (.head _)) with h2 | h2
     ·exact h2.symm
     ·exact has a b (d b h2) (f a c)
   subst hab;rw [Sg has hp.cons_inv e g]
theorem SR(htr:∀ a b c,le a b=true->le b c=true->le a c=true)(hto:∀ a b,le a b=true\/le b a=true)(has:∀ a b,le a b=true->le b a=true->a=b)(l:List α):isB le l=l.mergeSort le:=
 Sg has ((TZ l).trans (List.mergeSort_perm l _).symm) (NF htr hto l) (List.pairwise_mergeSort htr (fun a b=>by simpa using hto a b) l)
end
def isS(l:List (List UInt8)):List (List UInt8):=isB (fun x y=>decide (x<=y)) l
def isI(l:List Int):List Int:=isB (fun x y=>decide (x<=y)) l
def isL(l:List Lf):List Lf:=isB (fun x y=>!(Go.Proofs.ltOf JM) y x) l
theorem Yz(l:List Int):isI l=Go.E.Lh l:=SR (fun a b c d h2=>by simp only [decide_eq_true_eq] at *;omega) (fun a b=>by simp only [decide_eq_true_eq];omega) (fun a b d h2=>by simp only [decide_eq_true_eq] at *;omega) l
theorem Y0(l:List (List UInt8)):isS l=Go.E.Acs l:=SR (fun a b c d h2=>by simp only [decide_eq_true_eq] at *;exact List.le_trans d h2) (fun a b=>by simp only [decide_eq_true_eq];exact List.le_total a b) (fun a b d h2=>by simp only [decide_eq_true_eq] at *;exact List.le_antisymm d h2) l
theorem Y1(l:List Lf):isL l=Jx l:=by
 have hlt:∀ a b,(!(Go.Proofs.ltOf JM) b a)=true↔¬ JM b a<0:=fun a b=>by simp [Go.Proofs.ltOf]
 refine SR (fun a b c e h2=>?_) (fun a b=>?_) (fun a b e h2=>?_) l
 ·rw [hlt] at *;intro h3;have f:=KF.swap a b
  rcases Int.lt_trichotomy (JM a b) 0 with d | d | d
  ·exact h2 (KF.trans c a b h3 d)
  ·rw [KF.zero a b d] at h3;exact h2 h3
  ·omega
 ·rw [hlt,hlt];have f:=KF.swap a b;omega
 ·exact KF.parts a b (by simpa using h2) (by simpa using e)
end Go.L
namespace Go.Proofs.YtekmbcbgknmhiaaGreatDoor
open Go Go.E Go.L
def QY(l:List (Lf×List Int)):Option (List Lf):=Go.L.Bh (Go.E.Ij 48 l.length) (some (isL (l.map Prod.fst)))
theorem Ua(l:List (Lf×List Int)):QY l=Nd l:=by unfold QY Nd;rw [Y1]
noncomputable instance (l:List (Lf×List Int)):Mi (Nd l):=⟨QY l,by rw [Ua];exact YT _⟩
end Go.Proofs.YtekmbcbgknmhiaaGreatDoor
end
noncomputable section
namespace Go.L
section
variable {α:Type} {le:α->α->Prop}
theorem Lt[Inhabited α][DecidableEq α](hre:∀ a,le a a)(htr:∀ a b c,le a b->le b c->le a c)(has:∀ a b,le a b->le b a->a=b)(d:Array α)(hs:∀ i j,i<j->j<d.size->le d[i]! d[j]!):∀ m,m<=d.size->
  (Lib.compactUpTo d m).Pairwise (fun a b=>le a b/\a≠b)/\(∀ x,x∈Lib.compactUpTo d m↔∃ j,j<m/\x=d[j]!)
 | 0,_=>⟨by simp [Lib.compactUpTo],fun x=>by simp [Lib.compactUpTo]⟩
 | m+1,hm=>by
  obtain⟨f,h2⟩:=Lt hre htr has d hs m (by omega);rw [Lib.compactUpTo_succ]
  by_cases hk:Lib.keeps d m=true
  ·rw [if_pos hk];refine⟨List.pairwise_append.2 ⟨f,List.pairwise_singleton _ _,fun a ha b hb=>?_⟩,fun x=>?_⟩
   ·rw [List.mem_singleton] at hb;subst hb;obtain⟨j,hj,rfl⟩:=(h2 a).1 ha;refine⟨hs j m hj (by omega),fun e=>?_⟩;unfold Lib.keeps at hk;rw [decide_eq_true_eq] at hk
    rcases hk with hk | hk
    ·omega
    ·refine hk (has _ _ ?_ ?_)
     ·by_cases hjm:j=m - 1
      ·rw [<- e,hjm];exact hre _
      ·rw [<- e];exact hs j (m - 1) (by omega) (by omega)
     ·exact hs (m - 1) m (by omega) (by omega)
   ·rw [List.mem_append,h2,List.mem_singleton]
    constructor
    ·rintro(⟨j,hj,rfl⟩ | rfl)
     ·exact⟨j,by omega,rfl⟩
     ·exact⟨m,by omega,rfl⟩
    ·rintro⟨j,hj,rfl⟩
     by_cases hjm:j=m
     ·subst hjm;exact .inr rfl
     ·exact .inl ⟨j,by omega,rfl⟩
  ·have hk' : ¬ (m=0\/d[m]!≠d[m - 1]!):=by
    unfold Lib.keeps at hk
    simpa using hk
   rw [if_neg hk,List.append_nil];refine⟨f,fun x=>(h2 x).trans ?_⟩
   constructor
   ·rintro⟨j,hj,rfl⟩;exact⟨j,by omega,rfl⟩
   ·rintro⟨j,hj,rfl⟩
    by_cases hjm:j=m
    ·subst hjm;have e:d[j]! = d[j - 1]!:=Decidable.not_not.1 fun h=>hk' (.inr h);have g:j≠0:=fun h=>hk' (.inl h);exact⟨j - 1,by omega,e⟩
    ·exact⟨j,by omega,rfl⟩
theorem SS[Inhabited α][DecidableEq α](hre:∀ a,le a a)(htr:∀ a b c,le a b->le b c->le a c)(has:∀ a b,le a b->le b a->a=b){l:List α}(hs:l.Pairwise le):(Lib.compact l).Pairwise (fun a b=>le a b/\a≠b)/\∀ x,x∈Lib.compact l↔x∈l:=by
 have hget:∀ i,i<l.length->l.toArray[i]! = l.getD i default:=fun i hi=>by simp [hi]
 have:=Lt hre htr has l.toArray (fun i j hij hj=>by
  have hj':j<l.length:=by simpa using hj
  have hi':i<l.length:=by omega
  have:=List.pairwise_iff_getElem.1 hs i j hi' hj' hij
  simpa [hi',hj'] using this) l.length (by simp)
 refine⟨this.1,fun x=>(this.2 x).trans ?_⟩
 constructor
 ·rintro⟨j,hj,rfl⟩;simp [hj]
 ·intro hx;obtain⟨j,hj,rfl⟩:=List.getElem_of_mem hx;exact⟨j,hj,by simp [hj]⟩
end
theorem OT(l:List Int):(Go.E.Lh l).Perm l:=List.mergeSort_perm l _
theorem Ub(l:List Int):(Go.E.Lh l).Pairwise (fun x y=>x<=y):=by
 have:=List.pairwise_mergeSort (le:=fun x y:Int=>decide (x<=y)) (fun a b c d h2=>by simp only [decide_eq_true_eq] at *;omega) (fun a b=>by simpa using Int.le_total a b) l;exact this.imp fun h=>by simpa using h
def SU(l:List Int):List Int:=Lib.compact (Go.E.Lh l)
theorem OU(l:List Int):(SU l).Pairwise (fun a b=>a<=b/\a≠b)/\∀ x,x∈SU l↔x∈l:=by
 have:=SS (le:=fun a b:Int=>a<=b) Int.le_refl (fun _ _ _=>Int.le_trans) (fun _ _=>Int.le_antisymm) (Ub l);exact⟨this.1,fun x=>(this.2 x).trans (OT l).mem_iff⟩
end Go.L
end
noncomputable section
namespace Go.L
section
variable {κ β:Type} [DecidableEq κ]
theorem OV(d:β)(k k':κ)(y:β):∀ M:List (κ×β),Ct d k' (DY k y M)=if k'=k then y else Ct d k' M
 | []=>by simp only [DY,Ct]
 | (a,z)::M=>by
  unfold DY
  by_cases h:k=a
  ·subst h;rw [if_pos rfl];unfold Ct
   by_cases h2:k'=k
   ·rw [if_pos h2,if_pos h2]
   ·rw [if_neg h2,if_neg h2];rw [if_neg h2]
  ·rw [if_neg h];unfold Ct;rw [OV d k k' y M]
   by_cases h2:k'=a
   ·rw [if_pos h2,if_neg (fun e=>h (e.symm.trans h2)),if_pos h2]
   ·rw [if_neg h2,if_neg h2]
theorem Oo{k:κ}(y:β):∀ {M:List (κ×β)},k∈M.map Prod.fst->(DY k y M).map Prod.fst=M.map Prod.fst
 | [],h=>by cases h
 | (a,z)::M,h=>by
  unfold DY
  by_cases hk:k=a
  ·subst hk;rw [if_pos rfl];rfl
  ·rw [if_neg hk];simp only [List.map_cons,List.mem_cons] at h ⊢;rw [Oo y (h.resolve_left hk)]
theorem Oq{k:κ}(y:β):∀ {M:List (κ×β)},k∉M.map Prod.fst->DY k y M=M++[(k,y)]
 | [],_=>rfl
 | (a,z)::M,h=>by
  unfold DY;simp only [List.map_cons,List.mem_cons,not_or] at h;rw [if_neg h.1,Oq y h.2]
  rfl
end
def LU(k:Lf)(i:Int)(M:List (Lf×List Int)):List (Lf×List Int):=DY k (Ct [] k M++[i]) M
end Go.L
namespace Go.Proofs.YtekmbcbgknmhiaaGreatDoor
open Go Go.L
structure GI (n:Int) (es:List En):Prop where
 n0:0<=n
 n64:n<=64
 ev:∀ e∈es,EV n e
 sz:∀ e∈es,EnS e
 len:es.length<=1000000
 inc:es.Pairwise (fun a b=>JM a.1 b.1<0)
def QZ(M:List (Lf×List Int)):List En:=(Jx (M.map Prod.fst)).map fun k=>(k,SU (Ct [] k M))
def MS(M:List (Lf×List Int)):Prop:=M.length<=1000000/\∀ k∈M.map Prod.fst,k.1.length<=2000000/\C0 k.2.1/\C0 k.2.2.1/\k.2.2.2.length<=2000000/\(Ct [] k M).length<=1000000/\∀ z∈Ct [] k M,C0 z
theorem K7(l:List Lf):(Jx l).Perm l:=List.mergeSort_perm l _
theorem Y2(l:List Int):(SU l).length<=l.length:=Nat.le_trans (Go.E.Q8 _) (Nat.le_of_eq (OT l).length_eq)
theorem Y3{M:List (Lf×List Int)}(h:MS M):∀ e∈QZ M,EnS e:=by
 intro e he;obtain⟨k,hk,rfl⟩:=List.mem_map.1 he;obtain⟨a,h2,h3,b,c,d⟩:=h.2 k ((K7 _).mem_iff.1 hk);exact⟨a,h2,h3,b,fun z hz=>d z (((OU _).2 z).1 hz),Nat.le_trans (Y2 _) c⟩
theorem Uc(M:List (Lf×List Int)):(QZ M).length=M.length:=by unfold QZ;rw [List.length_map,MA,List.length_map]
def Y4(n:Int)(M:List (Lf×List Int)):(Int×List En)×(Int×Int):=if 16384<(Yx n (QZ M)).length then((0,[]),(14,-1)) else((n,QZ M),(0,0))
theorem Y5{n:Int}{M:List (Lf×List Int)}(hn:C0 n)(h:MS M):Fi n M=some (Y4 n M):=by
 unfold Fi Nd;have hM:=h.1;rw [Ak (by unfold Go.E.Ij;omega),Option.bind_some];unfold Ix
 have a:EP n (QZ M)=some (Y4 n M):=by
  unfold EP Fh Y4;rw [Yy hn (by rw [Uc];exact hM) (Y3 h),Option.bind_some]
  by_cases hc:16384<(Yx n (QZ M)).length
  ·rw [if_pos (by omega),if_pos hc];rfl
  ·rw [if_neg (by omega),if_neg hc]
 have hkl:(Jx (M.map Prod.fst)).length=M.length:=by rw [MA,List.length_map]
 refine Gw (fun i=>(((Jx (M.map Prod.fst)).take i).map (fun k=>(k,SU (Ct [] k M))),((i:Nat):Int))) (Jx (M.map Prod.fst)).length (fun i hi=>?_) ?_ 0 (Nat.zero_le _)
 ·obtain⟨c,h2,h3,d,e,f⟩:=h.2 _ ((K7 _).mem_iff.1 (FZ hi))
  have ht:((Jx (M.map Prod.fst)).take (i+1)).map (fun k=>(k,SU (Ct [] k M)))=((Jx (M.map Prod.fst)).take i).map (fun k=>(k,SU (Ct [] k M)))++[((Jx (M.map Prod.fst)).getD i default,SU (Ct [] ((Jx (M.map Prod.fst)).getD i default) M))]:=by
   rw [List.take_add_one,List.getElem?_eq_getElem hi,Option.toList_some,List.map_append];simp [List.getD_eq_getElem?_getD,List.getElem?_eq_getElem hi]
  rw [ht];unfold El D0;dsimp only;rw [if_pos (by omega),Ak (by omega),Int.toNat_natCast];generalize (Jx (M.map Prod.fst)).getD i default=k at *;have b:((k.1,k.2.1,k.2.2.1,k.2.2.2):Lf)=k:=rfl;simp only [b];rw [Ak (by unfold Go.E.Ij;simp only [List.length_nil];show(0+(Ct [] k M).length) * 8<=_/\_;omega),Option.bind_some]
  show Go.L.Bh (([]++Ct [] k M).length<_) _=_
  rw [List.nil_append,Ak (by omega),Ak (by rw [(OT _).length_eq];omega),Ak (by unfold Go.E.Ij;simp only [List.length_map,List.length_take,List.length_cons,List.length_nil];omega),Ak (by unfold C0;omega)]
  rfl
 ·unfold El;dsimp only;rw [if_neg (by omega),List.take_length];exact congrArg (Option.map Sum.inr) a
def Bd(N:Nat)(M:List (Lf×List Int)):Prop:=∀ k,(Ct [] k M).length<=N
end Go.Proofs.YtekmbcbgknmhiaaGreatDoor
end
noncomputable section
namespace Go.L
def jn:List (List UInt8)->List UInt8
 | []=>[]
 | x::l=>if l=[] then x else x++47::jn l
theorem Ra:∀ {l:List (List UInt8)},l≠[]->(jn l).length+1=ZY l
 | x::l,_=>by
  unfold jn ZY
  by_cases h:l=[]
  ·subst h;simp [ZY]
  ·have:=Ra h;rw [if_neg h,List.length_append,List.length_cons];omega
theorem Sh:∀ (x cur s:List UInt8),47∉x->Yj cur (x++47::s)=(cur++x)::Yj [] s
 | [],cur,s,_=>by simp [Yj]
 | c::x,cur,s,h=>by
  have hc:c≠47:=fun e=>h (by rw [e];exact .head _);simp only [List.cons_append,Yj,if_neg hc];rw [Sh x (cur++[c]) s (fun hh=>h (.tail _ hh))];simp
theorem Ud:∀ (x cur:List UInt8),47∉x->Yj cur x=[cur++x]
 | [],cur,_=>by simp [Yj]
 | c::x,cur,h=>by
  have hc:c≠47:=fun e=>h (by rw [e];exact .head _);simp only [Yj,if_neg hc];rw [Ud x (cur++[c]) (fun hh=>h (.tail _ hh))];simp
theorem Y6:∀ {l:List (List UInt8)},l≠[]->(∀ x∈l,47∉x)->Yj [] (jn l)=l
 | x::l,_,h=>by
  unfold jn
  by_cases hl:l=[]
  ·subst hl;rw [if_pos rfl,Ud x [] (h x (.head _))];simp
  ·rw [if_neg hl,Sh x [] _ (h x (.head _)),Y6 hl (fun y hy=>h y (.tail _ hy))];simp
theorem Acd{l:List (List UInt8)}(hne:∀ x∈l,x≠[])(h:∀ x∈l,47∉x):sl (jn l)=l:=by
 unfold sl
 cases l with
 | nil=>simp [jn]
 | cons x l=>
  have:jn (x::l)≠[]:=by
   unfold jn;have:=hne x (.head _)
   split
   ·exact this
   ·simp
  rw [if_neg this,Y6 (by simp) h]
def YU(x:List UInt8):Bool:=Sb x||decide (x=[35])
theorem UQ{x:List UInt8}(h:YU x=true):x≠[]/\47∉x/\x≠[42]/\x≠[42,42]:=by
 unfold YU at h;rw [Bool.or_eq_true,decide_eq_true_eq] at h
 rcases h with h | rfl
 ·unfold Sb at h;rw [Bool.and_eq_true,decide_eq_true_eq] at h;obtain⟨a,h2⟩:=h;have hall:=List.all_eq_true.1 h2;refine⟨fun e=>by subst e;simp at a,fun hh=>?_,fun e=>by subst e;simp at a,fun e=>by subst e;simp at a⟩;have:=hall 47 hh
  revert this;decide
 ·decide
theorem Ace{w:Bool}{l:List (List UInt8)}:∀ {a:Int},(∀ x∈l,(YU x||(w&&(decide (x=[42])||decide (x=[42,42]))))=true)->wr w a l = -1:=by
 induction l with
 | nil=>intro a _;rfl
 | cons y l ih=>
  intro a h;unfold wr;have:=h y (.head _);unfold YU at this;rw [if_pos this];exact ih (fun x hx=>h x (.tail _ hx))
end Go.L
end
noncomputable section
namespace Go.L
theorem Y7{α:Type}[Inhabited α](f:α->Nat){l:List α}{i:Nat}(h:i<l.length):((l.drop i).map f).sum=f (l.getD i default)+((l.drop (i+1)).map f).sum:=by rw [drop_cons h];simp
end Go.L
namespace Go.Proofs.YtekmbcbgknmhiaaGreatDoor
open Go Go.L
theorem Ue{d:Nat}{v:Pv}{a2:Int}{self:Pv->Int->Int->Option (Int×(Int×Int))}(hlen:v.f.2.2.2.2.length<=1000)(ha:C0 (a2+1))
  (hs:∀ p∈v.f.2.2.2.2,∀ m:Int,0<=m->∃ r,self p m (a2+1)=some r/\((r.2=(0,0)/\Vd d p/\r.1=m+(nodes d p:Nat)/\r.1<=600)\/r.2.1≠0)) :
  ∀ (k i:Nat) (m:Int),i+k=v.f.2.2.2.2.length->0<=m->m<=600->∃ r,Go.L.run (Ca v a2 self) (m,(i:Int))=some r/\((r.2=(0,0)/\(∀ p∈v.f.2.2.2.2.drop i,Vd d p)/\r.1=m+(((v.f.2.2.2.2.drop i).map (nodes d)).sum:Nat)/\r.1<=600)\/r.2.1≠0)
 | 0,i,m,hi,a,b=>by
  refine⟨(m,0,0),BD (m:=some (m,0,0)) ?_,.inl ⟨rfl,?_⟩⟩
  ·unfold Ca EX;dsimp only;rw [if_neg (by omega)]
  ·rw [List.drop_eq_nil_of_le (by omega)];exact⟨by simp,by simp,b⟩
 | k+1,i,m,hi,a,b=>by
  have hil:i<v.f.2.2.2.2.length:=by omega
  obtain⟨r,c,h2⟩:=hs _ (FZ hil) m a
  rcases h2 with ⟨hr,e,g,h⟩ | hr
  ·have hb:Ca v a2 self (m,(i:Int))=some (.inl (r.1,((i+1:Nat):Int))):=by
    unfold Ca;dsimp only;rw [if_pos (by omega),Ak (by omega),Ak ha,Int.toNat_natCast,c,Option.bind_some,if_pos (by rw [hr];exact⟨rfl,rfl⟩),Ak (by unfold C0;omega)]
    rfl
   obtain⟨q,j,l⟩:=Ue hlen ha hs k (i+1) r.1 (by omega) (by omega) h;refine⟨q,by rw [Cu hb,j],?_⟩
   rcases l with ⟨hq,n,o,s⟩ | hq
   rotate_left
   ·exact .inr hq
   rw [drop_cons hil];refine .inl ⟨hq,fun p hp=>?_,?_,s⟩
   ·rcases List.mem_cons.1 hp with rfl | hp
    ·exact e
    ·exact n p hp
   ·rw [List.map_cons,List.sum_cons,o,g];omega
  ·refine⟨(0,r.2.1,r.2.2),BD (m:=some (0,r.2.1,r.2.2)) ?_,.inr hr⟩;unfold Ca;dsimp only;rw [if_pos (by omega),Ak (by omega),Ak ha,Int.toNat_natCast,c,Option.bind_some,if_neg (fun hh=>hr hh.1)]
theorem Y8{B:Nat}(hB:B<=100000000000):∀ (d n:Nat) (v:Pv) (m:Int),d<n->Sm B d v->d<=10->0<=m->∃ r,D3 n v m (11 - (d:Int))=some r/\((r.2=(0,0)/\Vd d v/\r.1=m+(nodes d v:Nat)/\r.1<=600)\/r.2.1≠0)
 | _,0,_,_,h,_,_,_=>absurd h (by omega)
 | 0,n+1,v,m,_,_,_,_=>by
  refine⟨(0,2,m),?_,.inr (by simp)⟩
  show CR (D3 n) v m _=_
  unfold CR;rw [if_pos (by right;omega)]
  rfl
 | d+1,n+1,v,m,hn,hs,hd,hm=>by
  obtain⟨l,o,s,t,u,w,e⟩:=hs
  show ∃ r,CR (D3 n) v m _=some r/\_
  unfold CR
  by_cases g:(600:Int)<=m
  ·rw [if_pos (.inl g)];exact⟨(0,2,m),rfl,.inr (by simp)⟩
  ·rw [if_neg (by omega)];obtain⟨c,h2,h3⟩:=SP v (by omega);rw [h2,Option.bind_some]
   by_cases hc:c=0
   ·rw [if_pos hc,Ak (by unfold C0;omega)];have hok:=h3 hc
    obtain⟨r,i,j⟩:=Ue (d:=d) (v:=v) (a2:=11 - ((d+1:Nat):Int)) (self:=D3 n) (by have:=hok.many;omega) (by unfold C0;omega)
     (fun p hp q hq=>by
      have:=Y8 hB d n p q (by omega) (e p hp) (by omega) hq
      rwa [show(11:Int) - ((d+1:Nat):Int)+1=11 - (d:Int) by omega]) v.f.2.2.2.2.length 0 (m+1) (by omega) (by omega) (by omega)
    refine⟨r,i,?_⟩
    rcases j with ⟨hr,a,b,k⟩ | hr
    rotate_left
    ·exact .inr hr
    rw [List.drop_zero] at a b;refine .inl ⟨hr,⟨hok,a⟩,?_,k⟩;rw [b];unfold nodes;omega
   ·rw [if_neg hc];exact⟨(0,c,m),rfl,.inr hc⟩
theorem Uf{B:Nat}(hB:B<=100000000000){b:List UInt8}(h:b.length<=B):F4 b=some (Lp (zz (b.length:Int))++b):=by
 unfold F4;have:=EA (zz (b.length:Int));rw [G0 (by unfold C0;omega),Option.bind_some,Ak (by unfold Go.E.Ij;omega)]
theorem Rb{B d:Nat}(hB:B<=100000000000){v:Pv}{self:Pv->Option (List UInt8)}(hlen:v.f.2.2.2.2.length<=600)(hsame:v.f.1=4->v.f.2.2.2.1.length=v.f.2.2.2.2.length)(hnm:∀ x∈v.f.2.2.2.1,x.length<=32)
  (hnod:((v.f.2.2.2.2).map (nodes d)).sum<=600)
  (hs:∀ p∈v.f.2.2.2.2,∃ b,self p=some b/\b.length+42<=nodes d p * (B+100)) :
  ∀ (k i:Nat) (L:List UInt8) (C:Nat),i+k=v.f.2.2.2.2.length->C<=700->L.length+42+(((v.f.2.2.2.2.drop i).map (nodes d)).sum) * (B+100)<=C * (B+100)->∃ b,Go.L.run (BG v self) (L,(i:Int))=some b/\b.length+42<=C * (B+100)
 | 0,i,L,C,hi,hC,hL=>by
  refine⟨L,BD (m:=some L) ?_,by omega⟩;unfold BG E9;dsimp only;rw [if_neg (by omega)]
 | k+1,i,L,C,hi,hC,hL=>by
  have hil:i<v.f.2.2.2.2.length:=by omega
  obtain⟨b,h,h2⟩:=hs _ (FZ hil);rw [Y7 _ hil,Nat.add_mul] at hL;have hCB:C * (B+100)<=700 * (100000000000+100):=Nat.mul_le_mul hC (by omega)
  have a:∀ M:List UInt8,M.length+b.length+42+((v.f.2.2.2.2.drop (i+1)).map (nodes d)).sum * (B+100)<=C * (B+100)->CH v (i:Int) self M=some (.inl (M++b,((i+1:Nat):Int))):=by
   intro M hM;unfold CH;rw [Int.toNat_natCast,h,Option.bind_some,Ak (by unfold Go.E.Ij;omega),Ak (by unfold C0;omega)]
   rfl
  by_cases c:v.f.1=4
  ·have hin:i<v.f.2.2.2.1.length:=by rw [hsame c];exact hil
   have hx:=hnm _ (FZ hin);have hv:=EA (zz ((v.f.2.2.2.1.getD i default).length:Int))
   have hb:BG v self (L,(i:Int))=some (.inl ((L++(Lp (zz ((v.f.2.2.2.1.getD i default).length:Int))++v.f.2.2.2.1.getD i default))++b,((i+1:Nat):Int))):=by
    unfold BG;dsimp only;rw [if_pos (by omega),Ak (by omega),if_pos c,Ak (by omega),Int.toNat_natCast,Ak (by omega),Uf (B:=32) (by decide) hx,Option.bind_some,Ak (by unfold Go.E.Ij;simp only [List.length_append];omega)];exact a _ (by simp only [List.length_append];omega)
   obtain⟨q,e,g⟩:=Rb hB hlen hsame hnm hnod hs k (i+1) _ C (by omega) hC (show((L++(Lp (zz ((v.f.2.2.2.1.getD i default).length:Int))++v.f.2.2.2.1.getD i default))++b).length+42+_<=_ by simp only [List.length_append];omega);exact⟨q,by rw [Cu hb,e],g⟩
  ·have hb:BG v self (L,(i:Int))=some (.inl (L++b,((i+1:Nat):Int))):=by
    unfold BG;dsimp only;rw [if_pos (by omega),Ak (by omega),if_neg c];exact a _ (by omega)
   obtain⟨q,e,g⟩:=Rb hB hlen hsame hnm hnod hs k (i+1) _ C (by omega) hC (show(L++b).length+42+_<=_ by simp only [List.length_append];omega);exact⟨q,by rw [Cu hb,e],g⟩
theorem Aai{x:List UInt8}(h:Sb x=true):x.length<=32:=by
 unfold Sb at h;rw [Bool.and_eq_true,decide_eq_true_eq] at h;omega
theorem W7{d:Nat}{l:List Pv}{p:Pv}(h:p∈l):nodes d p<=(l.map (nodes d)).sum:=by
 induction l with
 | nil=>cases h
 | cons a l ih=>
  rw [List.map_cons,List.sum_cons]
  rcases List.mem_cons.1 h with rfl | h
  ·omega
  ·have:=ih h;omega
theorem Y9{B:Nat}(hB:B<=100000000000):∀ (d n:Nat) (v:Pv),d<=n->Sm B d v->Vd d v->nodes d v<=600->∃ b,DJ n v=some b/\b.length+42<=nodes d v * (B+100)
 | 0,_,_,_,_,h,_=>h.elim
 | d+1,0,_,h,_,_,_=>absurd h (by omega)
 | d+1,n+1,v,hn,hs,hv,hnod=>by
  obtain⟨e,l,m,o,g,i,j⟩:=hs;obtain⟨hok,hvp⟩:=hv;unfold nodes at hnod
  show ∃ b,DI (DJ n) v=some b/\_
  unfold DI;have q:=EA (zz v.f.1);have r:=EA (zz v.f.2.1);have s:=EA (zz (v.f.2.2.1.length:Int));have t:=EA (zz (v.f.2.2.2.2.length:Int));have hN:1 * (B+100)<=nodes (d+1) v * (B+100):=Nat.mul_le_mul_right _ (by unfold nodes;omega);rw [G0 g,Option.bind_some]
  by_cases a:v.f.1=1
  ·rw [if_pos a,G0 i,Option.bind_some,Ak (by unfold Go.E.Ij;omega)];exact⟨_,rfl,by simp only [List.length_append];omega⟩
  ·rw [if_neg a]
   by_cases c:v.f.1=2
   ·rw [if_pos c,Uf hB e,Option.bind_some,Ak (by unfold Go.E.Ij;simp only [List.length_append];omega)];exact⟨_,rfl,by simp only [List.length_append];omega⟩
   ·have hmany:=hok.many;rw [if_neg c,G0 (by unfold C0;omega),Option.bind_some,Ak (by unfold Go.E.Ij;omega)]
    obtain⟨b,k,h2⟩:=Rb (d:=d) hB (v:=v) (self:=DJ n) hok.many hok.same (fun x hx=>Aai (hok.Sb x hx)) (by omega)
     (fun p hp=>Y9 hB d n p (by omega) (j p hp) (hvp p hp) (by have:=W7 (d:=d) hp;omega)) v.f.2.2.2.2.length 0 (Lp (zz v.f.1)++Lp (zz (v.f.2.2.2.2.length:Int))) ((v.f.2.2.2.2.map (nodes d)).sum+1) (by omega) (by omega)
     (by rw [List.drop_zero,Nat.add_mul];simp only [List.length_append];omega)
    refine⟨b,k,?_⟩;unfold nodes
    rwa [Nat.add_comm 1]
theorem Pu{B:Nat}(hB:B<=100000000000){v:Pv}(hs:Sm B 10 v):∃ f,Dj v=some f/\((f=(0,0)/\Vd 10 v/\nodes 10 v<=600)\/f.1≠0):=by
 obtain⟨r,d,h2⟩:=Y8 hB 10 1000 v 0 (by omega) hs (by omega) (Int.le_refl _);have h1':JT v 0 1=some r:=d;unfold Dj Jf;rw [h1',Option.bind_some]
 rcases h2 with ⟨hr,a,e,g⟩ | hr
 ·rw [if_pos (by rw [hr];exact⟨rfl,rfl⟩)];obtain⟨b,h3,i⟩:=Y9 hB 10 1000 v (by omega) hs a (by omega);have h3':Je v=some b:=h3;rw [h3',Option.bind_some]
  by_cases c:(4000:Int)<(b.length:Int)
  ·rw [if_pos c];exact⟨(14,-1),rfl,.inr (by simp)⟩
  ·rw [if_neg c];exact⟨(0,0),rfl,.inl ⟨rfl,a,by omega⟩⟩
 ·rw [if_neg (fun h=>hr h.1)];exact⟨r.2,rfl,.inr hr⟩
end Go.Proofs.YtekmbcbgknmhiaaGreatDoor
end
noncomputable section
namespace Go.L
def MJ{σ α:Type}(step:σ->α->Option σ):σ->List α->Option σ
 | s,[]=>some s
 | s,x::l=>(step s x).bind fun s'=>MJ step s' l
theorem Ot{σ α:Type}{step:σ->α->Option σ}:∀ (l m:List α) (s:σ),MJ step s (l++m)=(MJ step s l).bind fun s'=>MJ step s' m
 | [],_,_=>rfl
 | x::l,m,s=>by
  simp only [List.cons_append,MJ]
  cases step s x with
  | none=>rfl
  | some s'=>exact Ot l m s'
def WJ(v:Pv)(i:Nat):List UInt8:=if v.f.1=4 then v.f.2.2.2.1.getD i default else[35]
def VJ:Nat->Pv->List (List UInt8)->List Lf
 | 0,_,_=>[]
 | d+1,v,p=>(jn p,v.f.1,v.f.2.1,v.f.2.2.1)::(List.range' 0 v.f.2.2.2.2.length).flatMap fun i=>VJ d (v.f.2.2.2.2.getD i default) (p++[WJ v i])
theorem YA{α:Type}[Inhabited α](l:List α):(List.range' 0 l.length).map (fun i=>l.getD i default)=l:=by
 rw [<- List.range_eq_range'];apply List.ext_getElem
 ·simp
 ·intro i a h2;simp [List.getD_eq_getElem?_getD,h2]
theorem SV:∀ (d:Nat) (v:Pv) (p:List (List UInt8)),(VJ d v p).length=nodes d v
 | 0,_,_=>rfl
 | d+1,v,p=>by
  unfold VJ nodes;rw [List.length_cons,List.length_flatMap,Nat.add_comm]
  congr 2
  conv=>rhs;rw [<- YA v.f.2.2.2.2]
  rw [List.map_map];apply List.map_congr_left;intro i _;exact SV d _ _
theorem Aaj:∀ p:List (List UInt8),Lib.join p [47]=jn p
 | []=>rfl
 | x::l=>by
  have key:∀ (l:List (List UInt8)) (x:List UInt8),jn (x::l)=x++Lib.joinTail [47] l:=by
   intro l
   induction l with
   | nil=>intro x;simp [jn,Lib.joinTail]
   | cons y l ih=>
    intro x;unfold jn;rw [if_neg (by simp),ih y];simp [Lib.joinTail]
  rw [Lib.join_cons,key]
def WK(p:List (List UInt8)):Prop:=∀ x∈p,YU x=true
theorem Aak{x:List UInt8}(h:YU x=true):x.length<=32:=by
 unfold YU at h;rw [Bool.or_eq_true,decide_eq_true_eq] at h
 rcases h with h | rfl
 ·unfold Sb at h;rw [Bool.and_eq_true,decide_eq_true_eq] at h;omega
 ·decide
theorem WK.ZY{p:List (List UInt8)}(h:WK p):ZY p<=33 * p.length:=by
 induction p with
 | nil=>simp [Go.L.ZY]
 | cons x p ih=>
  have:=Aak (h x (.head _));have:=ih fun y hy=>h y (.tail _ hy);unfold Go.L.ZY;simp only [List.length_cons];omega
theorem WK.Ra{p:List (List UInt8)}(h:WK p):(jn p).length<=33 * p.length:=by
 by_cases a:p=[]
 ·subst a;simp [jn]
 ·have:=Go.L.Ra a;have:=h.ZY;omega
theorem WK.snoc{p:List (List UInt8)}(h:WK p){x:List UInt8}(hx:YU x=true):WK (p++[x]):=fun y hy=>by
 rcases List.mem_append.1 hy with hy | hy
 ·exact h y hy
 ·rw [List.mem_singleton] at hy;subst hy;exact hx
theorem YB{v:Pv}(h:OR v){i:Nat}(hi:i<v.f.2.2.2.2.length):YU (WJ v i)=true:=by
 unfold WJ
 by_cases a:v.f.1=4
 ·rw [if_pos a];have:=h.Sb _ (FZ (by rw [h.same a];exact hi));unfold YU;rw [this];rfl
 ·rw [if_neg a];decide
theorem WK.nil{p:List (List UInt8)}(h:WK p):jn p=[]↔p=[]:=by
 constructor
 ·intro hj
  cases p with
  | nil=>rfl
  | cons x p=>
   have:=(UQ (h x (.head _))).1;unfold jn at hj
   split at hj
   ·exact absurd hj this
   ·simp at hj
 ·rintro rfl;rfl
end Go.L
namespace Go.Proofs.YtekmbcbgknmhiaaGreatDoor
open Go Go.L
section
variable {σ:Type} {step:σ->Lf->Option σ}
theorem VK{v:Pv}{p:List (List UInt8)}{self:Pv->List (List UInt8)->σ->Option σ}{d:Nat}(hv:OR v)(hp:p.length<=20)(hs:∀ i s,i<v.f.2.2.2.2.length->self (v.f.2.2.2.2.getD i default) (p++[WJ v i]) s=MJ step s (VJ d (v.f.2.2.2.2.getD i default) (p++[WJ v i]))):
  ∀ (k i:Nat) (s:σ),i+k=v.f.2.2.2.2.length->Go.L.run (Cc v p self) ((i:Int),s)=MJ step s ((List.range' i k).flatMap fun i=>VJ d (v.f.2.2.2.2.getD i default) (p++[WJ v i]))
 | 0,i,s,hi=>by
  refine BD (m:=some s) ?_;unfold Cc;dsimp only;rw [if_neg (by omega)]
 | k+1,i,s,hi=>by
  have hil:i<v.f.2.2.2.2.length:=by omega
  have hmany:=hv.many;rw [List.range'_succ,List.flatMap_cons,Ot,<- hs i s hil]
  have hk:∀ x,x=WJ v i->C6 v p (i:Int) self x s=(self (v.f.2.2.2.2.getD i default) (p++[WJ v i]) s).bind fun s'=>some (.inl (((i+1:Nat):Int),s')):=by
   rintro x rfl;unfold C6 Cn;rw [Ak (by unfold Go.E.Ij;simp;omega),Option.bind_some,Ak (by unfold Go.E.Ij;simp;omega),Int.toNat_natCast,List.nil_append];refine congrArg (Option.bind _) (funext fun x=>?_);rw [Ak (by unfold C0;omega)]
   rfl
  have hb:Cc v p self ((i:Int),s)=(self (v.f.2.2.2.2.getD i default) (p++[WJ v i]) s).bind fun s'=>some (.inl (((i+1:Nat):Int),s')):=by
   unfold Cc;dsimp only;rw [if_pos (by omega),Ak (by omega)]
   by_cases a:v.f.1=4
   ·have:=hv.same a;rw [if_pos a,Ak (by omega),Int.toNat_natCast];exact hk _ (by unfold WJ;rw [if_pos a])
   ·rw [if_neg a];exact hk _ (by unfold WJ;rw [if_neg a])
  cases hc:self (v.f.2.2.2.2.getD i default) (p++[WJ v i]) s with
  | none=>
   rw [hc] at hb;exact BD (m:=none) hb
  | some s'=>
   rw [hc] at hb;rw [Cu hb];exact VK hv hp hs k (i+1) s' (by omega)
theorem Acf:∀ (d n:Nat) (v:Pv) (p:List (List UInt8)) (s:σ),d<=n->Vd d v->WK p->p.length+d<=20->DV step n v p s=MJ step s (VJ d v p)
 | 0,_,_,_,_,_,h,_,_=>h.elim
 | d+1,0,_,_,_,h,_,_,_=>absurd h (by omega)
 | d+1,n+1,v,p,s,hn,hv,hp,hl=>by
  obtain⟨hok,hvp⟩:=hv
  show Dw step (DV step n) v p s=_
  unfold Dw TU VJ;have:=hp.Ra;rw [Aaj,Ak (by omega),Option.bind_some]
  show(step s (jn p,v.f.1,v.f.2.1,v.f.2.2.1)).bind _=(step s (jn p,v.f.1,v.f.2.1,v.f.2.2.1)).bind _
  congr 1
  funext s'
  exact VK hok (by omega) (fun i s hi=>Acf d n _ _ s (by omega) (hvp _ (FZ hi)) (hp.snoc (YB hok hi)) (by simp;omega)) v.f.2.2.2.2.length 0 s' (by omega)
theorem W8{v:Pv}(hv:Vd 10 v)(s:σ):Hg step v [] s=MJ step s (VJ 10 v []):=Acf 10 1000 v [] s (by omega) hv (fun x hx=>by cases hx) (by simp)
end
end Go.Proofs.YtekmbcbgknmhiaaGreatDoor
end
noncomputable section
namespace Go.L
def HW(P:List (Lf×Int))(M:List (Lf×List Int)):List (Lf×List Int):=P.foldl (fun M p=>LU p.1 p.2 M) M
theorem Ug(P Q:List (Lf×Int))(M:List (Lf×List Int)):HW (P++Q) M=HW Q (HW P M):=List.foldl_append
theorem YC(k k':Lf)(i z:Int)(M:List (Lf×List Int)):z∈Ct [] k' (LU k i M)↔z∈Ct [] k' M\/(k'=k/\z=i):=by
 unfold LU;rw [OV]
 by_cases h:k'=k
 ·subst h;simp
 ·simp [h]
theorem W9(k k':Lf)(i:Int)(M:List (Lf×List Int)):k'∈(LU k i M).map Prod.fst↔k'=k\/k'∈M.map Prod.fst:=by
 unfold LU
 by_cases h:k∈M.map Prod.fst
 ·rw [Oo _ h];exact⟨.inr,fun hh=>by rcases hh with rfl | hh;exact h;exact hh⟩
 ·rw [Oq _ h];simp only [List.map_append,List.map_cons,List.map_nil,List.mem_append,List.mem_singleton];exact⟨fun hh=>hh.symm,fun hh=>hh.symm⟩
theorem UR(k:Lf)(i:Int){M:List (Lf×List Int)}(h:(M.map Prod.fst).Nodup):((LU k i M).map Prod.fst).Nodup:=by
 unfold LU
 by_cases hk:k∈M.map Prod.fst
 ·rw [Oo _ hk];exact h
 ·rw [Oq _ hk,List.map_append]
  exact List.nodup_append.2 ⟨h,List.pairwise_singleton _ _,fun a ha b hb e=>by
   simp only [List.map_cons,List.map_nil,List.mem_singleton] at hb;subst hb;subst e;exact hk ha⟩
theorem Rc(k:Lf)(z:Int):∀ (P:List (Lf×Int)) (M:List (Lf×List Int)),z∈Ct [] k (HW P M)↔z∈Ct [] k M\/(k,z)∈P
 | [],M=>by simp [HW]
 | p::P,M=>by
  show z∈Ct [] k (HW P (LU p.1 p.2 M))↔_
  rw [Rc k z P,YC,List.mem_cons,or_assoc];have:(k=p.1/\z=p.2)↔(k,z)=p:=⟨fun h=>Prod.ext h.1 h.2,fun h=>by rw [<- h];exact⟨rfl,rfl⟩⟩;rw [this]
theorem Ng(k:Lf):∀ (P:List (Lf×Int)) (M:List (Lf×List Int)),k∈(HW P M).map Prod.fst↔k∈M.map Prod.fst\/∃ z,(k,z)∈P
 | [],M=>by simp [HW]
 | p::P,M=>by
  show k∈(HW P (LU p.1 p.2 M)).map Prod.fst↔_
  rw [Ng k P,W9]
  constructor
  ·rintro((rfl | h) | ⟨z,h⟩)
   ·exact .inr ⟨p.2,.head _⟩
   ·exact .inl h
   ·exact .inr ⟨z,.tail _ h⟩
  ·rintro(h | ⟨z,h⟩)
   ·exact .inl (.inr h)
   ·rcases List.mem_cons.1 h with rfl | h
    ·exact .inl (.inl rfl)
    ·exact .inr ⟨z,h⟩
theorem Re:∀ (P:List (Lf×Int)) {M:List (Lf×List Int)},(M.map Prod.fst).Nodup->((HW P M).map Prod.fst).Nodup
 | [],_,h=>h
 | p::P,_,h=>Re P (UR p.1 p.2 h)
theorem Uh(k:Lf)(i:Int)(M:List (Lf×List Int))(k':Lf):(Ct [] k' (LU k i M)).length<=(Ct [] k' M).length+1:=by
 unfold LU;rw [OV]
 split
 ·rename_i h;subst h;simp
 ·omega
theorem US(k:Lf)(i:Int)(M:List (Lf×List Int)):(LU k i M).length<=M.length+1:=by
 unfold LU
 by_cases h:k∈M.map Prod.fst
 ·have:=congrArg List.length (Oo (Ct [] k M++[i]) h);rw [List.length_map,List.length_map] at this;omega
 ·rw [Oq _ h];simp
theorem Ui(k:Lf):∀ (P:List (Lf×Int)) (M:List (Lf×List Int)),(Ct [] k (HW P M)).length<=(Ct [] k M).length+P.length
 | [],M=>by simp [HW]
 | p::P,M=>by
  have a:=Ui k P (LU p.1 p.2 M);have h2:=Uh p.1 p.2 M k
  show(Ct [] k (HW P (LU p.1 p.2 M))).length<=_
  rw [List.length_cons];omega
theorem Rf:∀ (P:List (Lf×Int)) (M:List (Lf×List Int)),(HW P M).length<=M.length+P.length
 | [],M=>by simp [HW]
 | p::P,M=>by
  have a:=Rf P (LU p.1 p.2 M);have h2:=US p.1 p.2 M
  show(HW P (LU p.1 p.2 M)).length<=_
  rw [List.length_cons];omega
end Go.L
namespace Go.Proofs.YtekmbcbgknmhiaaGreatDoor
open Go Go.L
theorem YD{P:List (Lf×Int)}{e:En}:e∈QZ (HW P [])↔(∃ z,(e.1,z)∈P)/\e.2=SU (Ct [] e.1 (HW P [])):=by
 unfold QZ;rw [List.mem_map]
 constructor
 ·rintro⟨k,hk,rfl⟩;have:=(Ng k P []).1 ((K7 _).mem_iff.1 hk);simp only [List.map_nil,List.not_mem_nil,false_or] at this;exact⟨this,rfl⟩
 ·rintro⟨a,h2⟩;exact⟨e.1,(K7 _).mem_iff.2 ((Ng e.1 P []).2 (.inr a)),Prod.ext rfl h2.symm⟩
def NM:Int->List Pv->List (Lf×Int)
 | _,[]=>[]
 | i,v::l=>((VJ 10 v []).map fun x=>(x,i))++NM (i+1) l
theorem Rg:∀ (i:Int) (a b:List Pv),NM i (a++b)=NM i a++NM (i+a.length) b
 | i,[],b=>by simp [NM]
 | i,v::a,b=>by
  simp only [List.cons_append,NM,List.append_assoc];rw [Rg (i+1) a b];simp only [List.length_cons];rw [show i+1+(a.length:Int)=i+((a.length+1:Nat):Int) by omega]
theorem VL:∀ {i:Int} {a:List Pv} {p:Lf×Int},p∈NM i a↔∃ j:Nat,j<a.length/\p.2=i+j/\p.1∈VJ 10 (a.getD j default) []
 | _,[],p=>by simp [NM]
 | i,v::a,p=>by
  simp only [NM,List.mem_append,List.mem_map];rw [VL]
  constructor
  ·rintro(⟨x,hx,rfl⟩ | ⟨j,b,h2,h3⟩)
   ·exact⟨0,by simp,by simp,hx⟩
   ·exact⟨j+1,by simp;omega,by omega,h3⟩
  ·rintro⟨j,b,h2,h3⟩
   cases j with
   | zero=>exact .inl ⟨p.1,h3,Prod.ext rfl (by simpa using h2.symm)⟩
   | succ j=>exact .inr ⟨j,by simpa using b,by omega,h3⟩
theorem SX:∀ (i:Int) {a:List Pv},(∀ v∈a,nodes 10 v<=600)->(NM i a).length<=600 * a.length
 | _,[],_=>by simp [NM]
 | i,v::a,h=>by
  simp only [NM,List.length_append,List.length_map,List.length_cons];have b:=SX (i+1) fun v hv=>h v (.tail _ hv);have h2:=h v (.head _);rw [SV];omega
theorem Rh(i:Int):∀ (l:List Lf) (M:List (Lf×List Int)) (N:Nat),Bd N M->N+l.length<=1000000000->MJ (HT i) M l=some (HW (l.map fun x=>(x,i)) M)
 | [],_,_,_,_=>rfl
 | x::l,M,N,hM,hN=>by
  rw [List.length_cons] at hN;unfold MJ;have hx:=hM x
  have e:HT i M x=some (LU x i M):=by
   unfold HT;rw [Ak (by unfold Go.E.Ij;omega)]
   rfl
  rw [e,Option.bind_some,Rh i l (LU x i M) (N+1) (fun k=>by have:=Uh x i M k;have:=hM k;omega) (by omega)]
  rfl
def WA(a:List Pv):Prop:=∀ v∈a,Dj v=some (0,0)/\Vd 10 v/\nodes 10 v<=600
theorem VM(P:List (Lf×Int)):Bd P.length (HW P []):=fun k=>by have:=Ui k P [];simpa [Ct] using this
theorem Si{B:Nat}(hB:B<=100000000000){a:List Pv}(hl:a.length<=64)(hs:∀ v∈a,Sm B 10 v):∀ (k i:Nat),i+k=a.length->WA (a.take i)->
  (∃ j f,j<a.length/\Dj (a.getD j default)=some f/\f.1≠0/\WA (a.take j)/\Go.L.run (Cr a) (HW (NM 0 (a.take i)) [],(i:Int))=some ((0,[]),(f.1,(j:Int))))\/
  (WA a/\Go.L.run (Cr a) (HW (NM 0 (a.take i)) [],(i:Int))=Fi (a.length:Int) (HW (NM 0 a) []))
 | 0,i,hi,hv=>by
  right
  rw [List.take_of_length_le (by omega)] at hv ⊢;refine⟨hv,?_⟩
  have e:Cr a (HW (NM 0 a) [],(i:Int))=(Fi (a.length:Int) (HW (NM 0 a) [])).map Sum.inr:=by
   unfold Cr GW;dsimp only;rw [if_neg (by omega)]
   cases Fi (a.length:Int) (HW (NM 0 a) []) <;> rfl
  exact BD e
 | k+1,i,hi,hv=>by
  have hil:i<a.length:=by omega
  obtain⟨f,b,h2⟩:=Pu hB (hs _ (FZ hil))
  have htk:a.take (i+1)=a.take i++[a.getD i default]:=by
   rw [List.take_add_one,List.getElem?_eq_getElem hil];simp [List.getD_eq_getElem?_getD,List.getElem?_eq_getElem hil]
  rcases h2 with ⟨rfl,h3,c⟩ | hf
  ·have hlen:=SX 0 fun v hvm=>(hv v hvm).2.2;rw [List.length_take] at hlen
   have hadd:NM 0 (a.take (i+1))=NM 0 (a.take i)++(VJ 10 (a.getD i default) []).map fun x=>(x,(i:Int)):=by
    rw [htk,Rg];simp only [NM,List.append_nil,List.length_take];rw [show(0:Int)+((min i a.length:Nat):Int)=(i:Int) by omega]
   have hb:Cr a (HW (NM 0 (a.take i)) [],(i:Int))=some (.inl (HW (NM 0 (a.take (i+1))) [],((i+1:Nat):Int))):=by
    unfold Cr;dsimp only;rw [if_pos (by omega),Ak (by omega),Int.toNat_natCast,b,Option.bind_some,if_pos ⟨rfl,rfl⟩,W8 h3,Rh (i:Int) _ _ _ (VM _) (by rw [SV];omega),Option.bind_some,Ak (by unfold C0;omega),hadd,Ug]
    rfl
   rw [Cu hb];refine Si hB hl hs k (i+1) (by omega) ?_;rw [htk];intro v hvm
   rcases List.mem_append.1 hvm with h | h
   ·exact hv v h
   ·rw [List.mem_singleton] at h;subst h;exact⟨b,h3,c⟩
  ·left
   refine⟨i,f,hil,b,hf,hv,BD (m:=some ((0,[]),(f.1,(i:Int)))) ?_⟩;unfold Cr Fh;dsimp only;rw [if_pos (by omega),Ak (by omega),Int.toNat_natCast,b,Option.bind_some,if_neg (fun h=>hf h.1)]
   rfl
theorem VN:∀ (d:Nat) (v:Pv) (p:List (List UInt8)) {x:Lf},Vd d v->WK p->x∈VJ d v p->∃ (q:List (List UInt8)) (u:Pv),x=(jn q,u.f.1,u.f.2.1,u.f.2.2.1)/\WK q/\q.length+1<=p.length+d/\OR u/\∀ B,Sm B d v->C0 u.f.1/\C0 u.f.2.1/\u.f.2.2.1.length<=B
 | 0,_,_,_,h,_,_=>h.elim
 | d+1,v,p,x,hv,hp,hx=>by
  obtain⟨hok,hvp⟩:=hv;unfold VJ at hx
  rcases List.mem_cons.1 hx with rfl | hx
  ·exact⟨p,v,rfl,hp,by omega,hok,fun B hB=>⟨hB.2.2.2.2.1,hB.2.2.2.2.2.1,hB.1⟩⟩
  ·obtain⟨i,hi,hxi⟩:=List.mem_flatMap.1 hx
   have hil:i<v.f.2.2.2.2.length:=by
    have:=List.mem_range'_1.1 hi;omega
   obtain⟨q,u,a,h2,h3,b,c⟩:=VN d _ _ (hvp _ (FZ hil)) (hp.snoc (YB hok hil)) hxi;refine⟨q,u,a,h2,by simp at h3;omega,b,fun B hB=>c B (hB.2.2.2.2.2.2 _ (FZ hil))⟩
theorem Aal{v:Pv}{x:Lf}(hv:Vd 10 v)(hs:Sm 1048576 10 v)(hx:x∈VJ 10 v []):(x.1.length<=330/\¬ 0<=wr false 0 (sl x.1))/\(1<=x.2.1/\x.2.1<=4)/\(x.2.2.1=0\/x.2.1=1)/\(x.2.2.2=[]\/x.2.1=2)/\C0 x.2.2.1/\x.2.2.2.length<=1048576:=by
 obtain⟨q,u,rfl,h2,h3,a,b⟩:=VN 10 v [] hv (fun y hy=>by cases hy) hx;obtain⟨e,c,d⟩:=b _ hs;have hj:=h2.Ra;simp only [List.length_nil] at h3;refine⟨⟨by show(jn q).length<=330;omega,?_⟩,?_,?_,?_,c,d⟩
 ·show ¬ 0<=wr false 0 (sl (jn q))
  rw [Acd (fun y hy=>(UQ (h2 y hy)).1) (fun y hy=>(UQ (h2 y hy)).2.1),Ace (fun y hy=>by rw [h2 y hy];rfl)]
  decide
 ·show 1<=u.f.1/\u.f.1<=4
  rcases a.kind with h | h | h | h <;> omega
 ·show u.f.2.1=0\/u.f.1=1
  exact a.num.symm
 ·show u.f.2.2.1=[]\/u.f.1=2
  exact a.bytes.symm
theorem Aam{P:List (Lf×Int)}(hP:P.length<=1000000)(h:∀ p∈P,p.1.1.length<=2000000/\C0 p.1.2.1/\C0 p.1.2.2.1/\p.1.2.2.2.length<=2000000/\C0 p.2):MS (HW P []):=by
 refine⟨by have:=Rf P [];simp at this;omega,fun k hk=>?_⟩
 rcases(Ng k P []).1 hk with a | ⟨z,hz⟩
 ·cases a
 ·obtain⟨b,h2,h3,c,_⟩:=h _ hz;refine⟨b,h2,h3,c,by have:=VM P k;omega,fun y hy=>?_⟩
  rcases(Rc k y P []).1 hy with a | hy
  ·simp [Ct] at a
  ·exact(h _ hy).2.2.2.2
theorem Uj{l:List Lf}(h:l.Nodup):(Jx l).Pairwise (fun a b=>JM a b<0):=by
 have hsorted:(Jx l).Pairwise fun x y=>(!(Go.Proofs.ltOf JM) y x)=true:=by
  rw [<- Y1];have hlt:∀ a b,(!(Go.Proofs.ltOf JM) b a)=true↔¬ JM b a<0:=fun a b=>by simp [Go.Proofs.ltOf]
  refine NF (fun a b c f h2=>?_) (fun a b=>?_) l
  ·rw [hlt] at *;intro h3;have g:=KF.swap a b
   rcases Int.lt_trichotomy (JM a b) 0 with d | d | d
   ·exact h2 (KF.trans c a b h3 d)
   ·rw [KF.zero a b d] at h3;exact h2 h3
   ·omega
  ·rw [hlt,hlt];have g:=KF.swap a b;omega
 have hn:(Jx l).Nodup:=(K7 l).nodup_iff.2 h;refine(List.pairwise_and_iff.2 ⟨hsorted,hn⟩).imp fun {a b} hab=>?_;obtain⟨f,h2⟩:=hab;have h1' : ¬ JM b a<0:=by simpa [Go.Proofs.ltOf] using f
 have g:=KF.swap a b;have:JM a b≠0:=fun e=>h2 (KF.zero a b e);omega
theorem YE{a:List Pv}(hl:a.length<=64)(hv:WA a)(hs:∀ v∈a,Sm 1048576 10 v):GI (a.length:Int) (QZ (HW (NM 0 a) []))/\MS (HW (NM 0 a) []):=by
 have hlen:=SX 0 fun v hvm=>(hv v hvm).2.2
 have hp:∀ p∈NM 0 a,((p.1.1.length<=330/\¬ 0<=wr false 0 (sl p.1.1))/\(1<=p.1.2.1/\p.1.2.1<=4)/\(p.1.2.2.1=0\/p.1.2.1=1)/\(p.1.2.2.2=[]\/p.1.2.1=2)/\C0 p.1.2.2.1/\p.1.2.2.2.length<=1048576)/\0<=p.2/\p.2<a.length:=fun p hpm=>by
  obtain⟨j,c,h2,h3⟩:=VL.1 hpm;exact⟨Aal (hv _ (FZ c)).2.1 (hs _ (FZ c)) h3,by omega,by omega⟩
 have hMS:MS (HW (NM 0 a) []):=Aam (by omega) fun p hpm=>by
  obtain⟨⟨c,h2,h3,m,d,n⟩,o,q⟩:=hp p hpm;exact⟨by omega,by unfold C0;omega,d,by omega,by unfold C0;omega⟩
 refine⟨⟨by omega,by omega,fun e he=>?_,Y3 hMS,by rw [Uc];exact hMS.1,?_⟩,hMS⟩
 ·obtain⟨⟨z,hz⟩,h2⟩:=YD.1 he;obtain⟨⟨f,g,i,k,r,s⟩,t,u⟩:=hp _ hz
  have hm:∀ y,y∈e.2↔(e.1,y)∈NM 0 a:=fun y=>by
   rw [h2,(OU _).2,Rc];simp [Ct]
  refine⟨f,g,i,k,fun l=>?_,fun y hy=>?_,?_⟩
  ·have:=(hm z).2 hz;rw [l] at this
   cases this
  ·exact(hp _ ((hm y).1 hy)).2
  ·rw [h2];exact(OU _).1.imp fun {a b} h=>by omega
 ·unfold QZ;rw [List.pairwise_map];exact Uj (Re _ (by simp))
theorem YF{a:List Pv}(hs:∀ v∈a,Sm 1048576 10 v):∃ r,HV a=some r/\((64<a.length/\r=((0,[]),(2,-1)))\/
  (a.length<=64/\∃ j f,j<a.length/\Dj (a.getD j default)=some f/\f.1≠0/\WA (a.take j)/\r=((0,[]),(f.1,(j:Int))))\/
  (a.length<=64/\WA a/\r=Y4 (a.length:Int) (HW (NM 0 a) []))):=by
 unfold HV Fh
 by_cases h:64<a.length
 ·rw [if_pos (by omega)];exact⟨_,rfl,.inl ⟨h,rfl⟩⟩
 ·rw [if_neg (by omega)];unfold Iy
  rcases Si (B:=1048576) (by omega) (by omega) hs a.length 0 (by omega) (fun v hv=>by simp at hv) with ⟨j,f,b,h2,h3,c,d⟩ | ⟨b,h2⟩
  ·exact⟨_,d,.inr (.inl ⟨by omega,j,f,b,h2,h3,c,rfl⟩)⟩
  ·refine⟨Y4 (a.length:Int) (HW (NM 0 a) []),?_,.inr (.inr ⟨by omega,b,rfl⟩)⟩;have:=h2.trans (Y5 (by unfold C0;omega) (YE (by omega) b hs).2);exact this
end Go.Proofs.YtekmbcbgknmhiaaGreatDoor
end
noncomputable section
namespace Go.Proofs.YtekmbcbgknmhiaaGreatDoor
open Go Go.E Go.RowKit Go.Shelf
def Acg(n:Int):Option (List UInt8):=Go.L.Bh (-9223372036854775808<=n/\n<=9223372036854775807) (some (Lib.itoa n))
theorem YG(w:World)(H:PH)(_hH:Le H (hp w)){a:Int}:Ok Tryz.prog 220 [.int .i64 a] w (fun v w'=>Ext w w'/\v=.bool (decide ((8:Int)<a))):=by
 refine⟨⟨Tryz.f220,_,Tryz.func220,rfl,rfl⟩,(Any.strings_shouldUseASCIISet (ρ:=Tryz.OK) {Tryz.XH with} a w).mono fun e w' he=>?_⟩;obtain⟨rfl,rfl⟩:=he;exact⟨_,rfl,Ext.refl _,rfl⟩
def Ach(l:List UInt8):Option (Int×Bool):=Go.L.Bh (l.length<=281474976710656) (some (match Lib.atoiAll l with
 | .ok v=>(v,true)
 | .range=>(Lib.atoiSat l,false)
 | _=>(0,false)))
end Go.Proofs.YtekmbcbgknmhiaaGreatDoor
end
noncomputable section
namespace Go.Proofs.YtekmbcbgknmhiaaGreatDoor
open Go Go.E Go.RowKit Go.L
set_option maxHeartbeats 1000000
set_option maxRecDepth 10000
open _root_.Go.Proofs.Tryz
def HX(a0:Int×Adt)(a1:Aaz):Option (Adw×(Int×Int)):=
 Option.bind (JR a1) (fun a=>if a.1=0/\a.2=0 then Option.bind (HQ (a0.1,a0.2) a1) (fun b=>Option.bind (Dm b) (fun c=>some (c,(0,0)))) else none)
theorem Kc(w:World)(H:PH)(hH:Le H (hp w))(hU:EE H){a0:Int×Adt}{a1:Aaz}{b:Value}(p:AA (.pair .st (.vec Ad4)) H b (a0.2)){r:Adw×(Int×Int)}(h:HX a0 a1=some r):
  Ok prog 144 [.agg #[No a0.1,b],Aat a1] w (fun v w'=>Ext w w'/\∃ y,v=.tuple #[y,.agg #[No r.2.1,No r.2.2]]/\Ck 137 Ad4 H w w' y (r.1)):=by
 refine Aw (n:=18) [(0,.agg #[No a0.1,b]),(1,(Aat a1))] func144 rfl fun hL=>Ai<|Dq (t:=46) rfl rfl rfl hL fun w1 b1 z ah _=>As 1 rfl<|A3 AI rfl rfl z fun w2 b2 o ai _=>Ac<|A9<|Bs 1 rfl<|Aq h fun x3 aa h=>A8 rfl rfl o (MC _ _ (Al hH o) (hU.mono (Ae hH)) aa) fun w4 an ab aj=>A3 AI rfl rfl ab fun w5 b5 ac ak _=>Ad 0 rfl AI ac rfl (AT rfl) fun w6 a al=>Ac<|Ai<|Ah (A5 0 rfl AcP rfl AI a rfl) rfl<|Ah (AN rfl (fun _=>BL _)) rfl<|Ah (JJ rfl rfl ID (Ld _ _ _ _)) rfl<|Ac<|Cf rfl h (fun ad h=>?_) (fun ad h=>?_)
 ·cases h
 refine Au<|Ar<|Ai<|Ah (A5 2 rfl AcY rfl KN a rfl) rfl<|As 1 rfl<|Aq h fun ao q h=>Bf rfl rfl a (Nh (a0:=(a0.1,a0.2)) _ _ (Al hH a) (p.mono (Ae hH)) q) ?_;rintro ae ap ⟨_,rfl,f⟩ s c af;have g:=f.mono (Ds hH a s);refine Aq h fun aq u h=>Bf rfl rfl c (Jp _ _ (Al hH c) g u) ?_;rintro ag ar ⟨_,rfl,j⟩ x k l;obtain⟨am,k,l,d⟩:=j.take hH c x;refine Ah (AN rfl (fun _=>BL _)) rfl<|As 1 rfl<|Ad 2 rfl AI k rfl (AT rfl) fun au e m=>Ac<|Ax ?_
 cases h
 refine B0 rfl (.tmp rfl) (.cell rfl AcP rfl AI (AG (i:=2) e rfl)) ?_;have d:=d.mono (Aa hH m);exact⟨e.ext,_,rfl,(e.GS hH (i:=0) rfl d)⟩
end Go.Proofs.YtekmbcbgknmhiaaGreatDoor
end
noncomputable section
namespace Go.Proofs.YtekmbcbgknmhiaaGreatDoor
open Go Go.E Go.RowKit
theorem Abs(w:World)(H:PH)(hH:Le H (hp w)){a b c:Int}:Ok Tryz.prog 30 [.int .i64 a,.int .i64 b,.int .i64 c] w (fun v w'=>Ext w w'/\v=.bool (decide (b<=a/\a<=c))):=by
 refine U9 w H hH ?_
 first
  | rfl
  | (unfold V6;congr 1;by_cases d:b<=a <;> by_cases h2:a<=c <;> simp [d,h2])
end Go.Proofs.YtekmbcbgknmhiaaGreatDoor
end
