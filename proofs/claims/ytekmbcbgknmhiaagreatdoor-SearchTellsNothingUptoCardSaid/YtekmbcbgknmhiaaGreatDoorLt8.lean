/- Texts of a claim, merged. -/
import Derived.Test.YtekmbcbgknmhiaaGreatDoorLt7
import Derived.KernelRfl
import Derived.ProofKit
import Derived.OpenShut
import Derived.Carry
import Derived.Deep.Slices
import Derived.Test.YtekmbcbgknmhiaaGreatDoorRows
import Derived.Lib.LaidU8T
import Derived.Lib.LaidTab
import Derived.Stop.LaidErr
import Derived.LaidMore
import Derived.MakeChecks
import Derived.LaidHandle
open _root_.Go.Proofs.Tryz renaming underlying42→AjA,underlying28→Aje
open Option renaming bind->Qq4,bind_some->Qq6,map->Qq7
open List renaming getD_eq_getElem?_getD->Qq9,getElem?_eq_getElem->Qzj,length_map->Qzk,length_cons->Qzw,range->Qzv,getElem?_eq_some_iff->QzD,length_nil->Qzd,mem_append->QzQ,mem_range->QzX,getElem_mem->Qz9,length_range->QxQ,exists_cons_of_ne_nil->Qk2,mem_map_of_mem->QkB,getElem?_append_left->QkZ,getElem?_append_right->Qk6
open Nat renaming le_refl->Qzx,lt_or_ge->Qxx
set_option linter.unusedVariables false
set_option linter.unusedSimpArgs false
set_option linter.unusedSectionVars false
noncomputable section
namespace Go.Proofs.YtekmbcbgknmhiaaGreatDoor
open Go Go.E Go.RowKit Go.L
noncomputable section
instance (a b c d):Mi (QX a b c d):=⟨_,apR _⟩
instance (a b):Mi (WL a b):=⟨_,apR _⟩
instance (a b):Mi (Sr a b):=⟨_,apR _⟩
instance (a):Mi (Vm a):=⟨_,apR _⟩
instance (a):Mi (AbT a):=⟨_,apR _⟩
instance (a):Mi (Sp a):=⟨_,apR _⟩
instance (a):Mi (AiD a):=⟨_,apR _⟩
instance (a0):Mi (QY a0):=by delta QY;infer_instance
instance (a0) (a1):Mi (Cx a0 a1):=by delta Cx;infer_instance
instance (a0) (a1):Mi (Jz a0 a1):=by delta Jz;infer_instance
instance (a) (b) (c) (d) (e) (f) (g):Mi (C6 a b c d e f g):=by delta C6;infer_instance
instance (a0) (s):Mi (Bi a0 s):=by obtain⟨b,c,d,e,f,g,h,a⟩:=s;delta Bi;dsimp only;infer_instance
instance (a0) (s):Mi (C7 a0 s):=by delta C7;infer_instance
instance (a0) (a1_c0):Mi (Cf a0 a1_c0):=by delta Cf;infer_instance
instance (a0) (a1_c0):Mi (AV a0 a1_c0):=by delta AV;infer_instance
instance (a0) (d) (e) (f) (g) (a) (b) (c):Mi (Cr a0 d e f g a b c):=by delta Cr;repeat' first | (show Mi _;infer_instance) | refine @iB _ _ _ _ ?_ (fun _=>?_) | refine @iC _ _ _ _ ?_ | refine @iI _ _ _ _ _ ?_ ?_
instance (a0):Mi (J7 a0):=by delta J7;repeat' first | (show Mi _;infer_instance) | refine @iB _ _ _ _ ?_ (fun _=>?_) | refine @iC _ _ _ _ ?_ | refine @iI _ _ _ _ _ ?_ ?_
instance (a0) (a1):Mi (DV a0 a1):=by delta DV;infer_instance
instance (a0):Mi (Ko a0):=by delta Ko;repeat' first | (show Mi _;infer_instance) | refine @iB _ _ _ _ ?_ (fun _=>?_) | refine @iC _ _ _ _ ?_ | refine @iI _ _ _ _ _ ?_ ?_
instance (b) (c) (d) (a):Mi (H3 b c d a):=by delta H3;infer_instance
instance (a1) (b) (a) (s):Mi (CI a1 b a s):=by obtain⟨d,c⟩:=s;delta CI;dsimp only;infer_instance
instance (a1) (b) (a) (s):Mi (M3 a1 b a s):=by delta M3;infer_instance
instance (a1) (s):Mi (CJ a1 s):=by obtain⟨b,a⟩:=s;delta CJ;dsimp only;infer_instance
instance (a1) (s):Mi (M4 a1 s):=by delta M4;infer_instance
instance (a0) (a1):Mi (KJ a0 a1):=by delta KJ;infer_instance
instance (l):Mi (OV l):=by delta OV;infer_instance
instance (a0):Mi (Kp a0):=by delta Kp;infer_instance
instance (a0):Mi (Hv a0):=by delta Hv;infer_instance
instance (a0) (a1):Mi (DH a0 a1):=by delta DH;infer_instance
instance (a0) (a1):Mi (strings_Split a0 a1):=by delta strings_Split;infer_instance
instance (a0):Mi (Ir a0):=by delta Ir;infer_instance
instance (a0):Mi (Ld a0):=by delta Ld;infer_instance
instance:Mi (KQ):=by delta KQ;infer_instance
instance (b) (s):Mi (Ek b s):=by obtain⟨c,a⟩:=s;delta Ek;dsimp only;repeat' first | (show Mi _;infer_instance) | refine @iB _ _ _ _ ?_ (fun _=>?_) | refine @iC _ _ _ _ ?_ | refine @iI _ _ _ _ _ ?_ ?_
instance (a) (s):Mi (Nd a s):=by delta Nd;infer_instance
instance (a0):Mi (Hi a0):=by delta Hi;infer_instance
instance (a0) (a):Mi (FK a0 a):=by delta FK;infer_instance
instance (a0):Mi (FL a0):=by delta FL;infer_instance
instance (a0) (s):Mi (Ef a0 s):=by delta Ef;infer_instance
instance (a0) (s):Mi (II a0 s):=by delta II;infer_instance
instance (a0):Mi (H4 a0):=by delta H4;infer_instance
instance (a):Mi (Iw a):=by delta Iw;infer_instance
instance (a0) (a2) (self) [∀ c d e,Mi (self c d e)] (s):Mi (E3 a0 a2 self s):=by obtain⟨b,a⟩:=s;delta E3;dsimp only;infer_instance
instance (a0) (a2) (self) [∀ a b c,Mi (self a b c)] (s):Mi (Kc a0 a2 self s):=by delta Kc;infer_instance
instance (self) [∀ a b c,Mi (self a b c)] (a0) (a1) (a2):Mi (Fx self a0 a1 a2):=by delta Fx;infer_instance
instance T8:∀ (n:Nat) (y0) (y1) (y2),Mi (Fy n y0 y1 y2)
 | 0,_,_,_=>⟨none,fun _ h=>by cases h⟩
 | n+1,y0,y1,y2=>by
  haveI:=T8 n
  show Mi (Fx (Fy n) y0 y1 y2)
  infer_instance
instance (y0) (y1) (y2):Mi (LN y0 y1 y2):=by delta LN;infer_instance
instance (a):Mi (IX a):=by delta IX;infer_instance
instance (a0) (s):Mi (E0 a0 s):=by obtain⟨b,a⟩:=s;delta E0;dsimp only;repeat' first | (show Mi _;infer_instance) | refine @iB _ _ _ _ ?_ (fun _=>?_) | refine @iC _ _ _ _ ?_ | refine @iI _ _ _ _ _ ?_ ?_
instance (a0) (s):Mi (Kq a0 s):=by delta Kq;infer_instance
instance (a0):Mi (IC a0):=by delta IC;infer_instance
instance (_self1) (self2) [∀ a b c,Mi (self2 a b c)] (a0):Mi (Gq _self1 self2 a0):=by delta Gq;repeat' first | (show Mi _;infer_instance) | refine @iB _ _ _ _ ?_ (fun _=>?_) | refine @iC _ _ _ _ ?_ | refine @iI _ _ _ _ _ ?_ ?_
instance:Mi (Da):=by delta Da;infer_instance
instance (a0) (a1) (s):Mi (Bc a0 a1 s):=by delta Bc;infer_instance
instance (a0) (a1) (s):Mi (DK a0 a1 s):=by delta DK;infer_instance
instance (a0) (a1):Mi (DW a0 a1):=by delta DW;infer_instance
instance (a0) (a1):Mi (BC a0 a1):=by delta BC;infer_instance
instance (c) (a) (b):Mi (EX c a b):=by delta EX;infer_instance
instance (a1) (a):Mi (GD a1 a):=by delta GD;infer_instance
instance (a0) (a1) (a2) (self1) [∀ b,Mi (self1 b)] (s):Mi (CW a0 a1 a2 self1 s):=by obtain⟨c,a⟩:=s;delta CW;dsimp only;infer_instance
instance (a0) (a1) (a2) (self1) [∀ a,Mi (self1 a)] (s):Mi (Iz a0 a1 a2 self1 s):=by delta Iz;infer_instance
instance (self1) [∀ a,Mi (self1 a)] (_self2) (a0) (a1) (a2):Mi (Fz self1 _self2 a0 a1 a2):=by delta Fz;infer_instance
def I9:(n:Nat)->(∀ a,Mi ((BL n).1 a))×(∀ y0 y1 y2,Mi ((BL n).2 y0 y1 y2))
 | 0=>(fun _=>⟨none,fun _ h=>(by cases h)⟩,fun _ _ _=>⟨none,fun _ h=>(by cases h)⟩)
 | n+1=>(fun a=>by
  haveI:=(I9 n).1
  haveI:=(I9 n).2
  show Mi (Gq ((BL n).1) ((BL n).2) a)
  infer_instance,fun y0 y1 y2=>by
  haveI:=(I9 n).1
  haveI:=(I9 n).2
  show Mi (Fz ((BL n).1) ((BL n).2) y0 y1 y2)
  infer_instance)
instance (y0):Mi (Ol y0):=(I9 1000).1 y0
instance (a0):Mi (Ho a0):=by delta Ho;infer_instance
instance (a0) (a1):Mi (Ep a0 a1):=by delta Ep;infer_instance
instance (a0) (a1):Mi (Er a0 a1):=by delta Er;infer_instance
instance (a0) (a1):Mi (JD a0 a1):=by delta JD;infer_instance
instance (a0) (a1):Mi (BP a0 a1):=by delta BP;infer_instance
instance (a1) (y8) (a) (b) (c):Mi (FE a1 y8 a b c):=by delta FE;infer_instance
instance (a1) (a2) (self) [∀ a,Mi (self a)] (y8) (s):Mi (Fc a1 a2 self y8 s):=by obtain⟨b,c,d⟩:=s;delta Fc;dsimp only;infer_instance
instance (a1) (a2) (self) [∀ a,Mi (self a)] (y8) (s):Mi (HO a1 a2 self y8 s):=by delta HO;infer_instance
instance (self) [∀ a,Mi (self a)] (a0) (a1) (a2):Mi (GN self a0 a1 a2):=by delta GN;infer_instance
instance (self) [∀ a,Mi (self a)] (a0_0):Mi (Gd self a0_0):=by delta Gd;infer_instance
instance (a1) (y8) (a) (b) (c):Mi (GO a1 y8 a b c):=by delta GO;infer_instance
instance (a1) (a2) (self) [∀ a,Mi (self a)] (y8) (s):Mi (Gz a1 a2 self y8 s):=by obtain⟨b,c,d⟩:=s;delta Gz;dsimp only;infer_instance
instance (a1) (a2) (self) [∀ a,Mi (self a)] (y8) (s):Mi (Je a1 a2 self y8 s):=by delta Je;infer_instance
instance (self) [∀ a,Mi (self a)] (a0) (a1) (a2):Mi (I7 self a0 a1 a2):=by delta I7;infer_instance
instance (self) [∀ a,Mi (self a)] (a0):Mi (Hg self a0):=by delta Hg;infer_instance
instance (a0) (a1):Mi (I8 a0 a1):=by delta I8;infer_instance
instance:Mi (Is):=by delta Is;infer_instance
instance (a0) (s):Mi (CU a0 s):=by delta CU;infer_instance
instance (a0) (s):Mi (G5 a0 s):=by delta G5;infer_instance
instance (a0):Mi (CF a0):=by delta CF;infer_instance
instance (a1) (a):Mi (It a1 a):=by delta It;infer_instance
instance (a0) (a1) (a) (s):Mi (HT a0 a1 a s):=by delta HT;repeat' first | (show Mi _;infer_instance) | refine @iB _ _ _ _ ?_ (fun _=>?_) | refine @iC _ _ _ _ ?_ | refine @iI _ _ _ _ _ ?_ ?_
instance (a0) (a1) (a) (s):Mi (JN a0 a1 a s):=by delta JN;infer_instance
instance (a0) (a1) (a):Mi (G6 a0 a1 a):=by delta G6;infer_instance
instance:Mi (Iu):=by delta Iu;infer_instance
instance (a0) (a1) (s):Mi (FU a0 a1 s):=by delta FU;repeat' first | (show Mi _;infer_instance) | refine @iB _ _ _ _ ?_ (fun _=>?_) | refine @iC _ _ _ _ ?_ | refine @iI _ _ _ _ _ ?_ ?_
instance (a0) (a1) (s):Mi (JO a0 a1 s):=by delta JO;infer_instance
instance (a0) (a1):Mi (Ey a0 a1):=by delta Ey;infer_instance
instance (a0) (a):Mi (Hf a0 a):=by delta Hf;infer_instance
instance:Mi (IJ):=by delta IJ;infer_instance
instance (a0) (a1) (s):Mi (I6 a0 a1 s):=by delta I6;infer_instance
instance (a0) (a1) (s):Mi (K5 a0 a1 s):=by delta K5;infer_instance
instance (a0) (a1):Mi (IK a0 a1):=by delta IK;infer_instance
instance (a0) (a1):Mi (strings_IndexAny a0 a1):=by delta strings_IndexAny;infer_instance
instance (s) (c):Mi (SN s c):=by delta SN;infer_instance
instance (a0) (a):Mi (FF a0 a):=by delta FF;infer_instance
instance (a0) (a1):Mi (IL a0 a1):=by delta IL;infer_instance
instance (self) [∀ a,Mi (self a)] (a0):Mi (FG self a0):=by delta FG;repeat' first | (show Mi _;infer_instance) | refine @iB _ _ _ _ ?_ (fun _=>?_) | refine @iC _ _ _ _ ?_ | refine @iI _ _ _ _ _ ?_ ?_
instance Qd:∀ (n:Nat) (y0),Mi (FM n y0)
 | 0,_=>⟨none,fun _ h=>by cases h⟩
 | n+1,y0=>by
  haveI:=Qd n
  show Mi (FG (FM n) y0)
  infer_instance
instance (y0):Mi (JE y0):=by delta JE;infer_instance
instance (_a0) (_a1):Mi (Jv _a0 _a1):=by delta Jv;infer_instance
instance (_a0) (_a1):Mi (Ig _a0 _a1):=by delta Ig;infer_instance
instance (a0) (a1):Mi (JF a0 a1):=by delta JF;infer_instance
instance (y22):Mi (KX y22):=by delta KX;infer_instance
instance (a0):Mi (Mf a0):=by delta Mf;repeat' first | (show Mi _;infer_instance) | refine @iB _ _ _ _ ?_ (fun _=>?_) | refine @iC _ _ _ _ ?_ | refine @iI _ _ _ _ _ ?_ ?_
instance (a0):Mi (MT a0):=by delta MT;infer_instance
instance (a0) (a1):Mi (Nx a0 a1):=by delta Nx;infer_instance
def Gr(a0:List UInt8)(a:List Int):Option ((List Int)):=
 Go.L.AN (a=Go.L.iota a0.length/\a0.length<4611686018427387904) (some ((Go.L.Afc a0)))
theorem Rt:@Gr = @Io:=by
 unfold Gr Io;simp only [VO,VN,QN]
instance (a0) (a):Mi (Gr a0 a):=by delta Gr;infer_instance
instance (a0) (a):Mi (Io a0 a):=⟨(inferInstance:Mi (Gr a0 a)).c,by rw [<- Rt];exact(inferInstance:Mi (Gr a0 a)).h⟩
instance (a0) (s):Mi (Eo a0 s):=by obtain⟨b,a⟩:=s;delta Eo;dsimp only;infer_instance
instance (a0) (s):Mi (KV a0 s):=by delta KV;infer_instance
instance (a0):Mi (Kr a0):=by delta Kr;infer_instance
instance (a0):Mi (Ks a0):=by delta Ks;infer_instance
instance (a1):Mi (F7 a1):=by delta F7;infer_instance
instance (_a0) (a1):Mi (Hc _a0 a1):=by delta Hc;infer_instance
instance (a):Mi (Gx a):=by delta Gx;infer_instance
instance (a0) (s):Mi (B9 a0 s):=by obtain⟨b,a⟩:=s;delta B9;dsimp only;infer_instance
instance (a0) (s):Mi (ED a0 s):=by delta ED;infer_instance
instance (a0) (a):Mi (EE a0 a):=by delta EE;infer_instance
instance (a0) (s):Mi (BA a0 s):=by obtain⟨b,a⟩:=s;delta BA;dsimp only;infer_instance
instance (a0) (s):Mi (Gy a0 s):=by delta Gy;infer_instance
instance (a0):Mi (E5 a0):=by delta E5;infer_instance
instance (a) (c) (b):Mi (F1 a c b):=by delta F1;infer_instance
instance (a0) (a) (s):Mi (Dg a0 a s):=by obtain⟨d,c,b⟩:=s;delta Dg;dsimp only;infer_instance
instance (a0) (a) (s):Mi (Hq a0 a s):=by delta Hq;infer_instance
instance (c) (d) (a) (e) (b):Mi (F2 c d a e b):=by delta F2;infer_instance
instance (a0) (d) (b) (c) (a):Mi (F3 a0 d b c a):=by delta F3;infer_instance
instance (a0) (d) (a) (s):Mi (C2 a0 d a s):=by obtain⟨e,b,c⟩:=s;delta C2;dsimp only;infer_instance
instance (a0) (b) (a) (s):Mi (F4 a0 b a s):=by delta F4;infer_instance
instance (a0) (b) (c) (a):Mi (F5 a0 b c a):=by delta F5;infer_instance
instance (a0) (b) (c) (s):Mi (Dh a0 b c s):=by obtain⟨e,d,a⟩:=s;delta Dh;dsimp only;infer_instance
instance (a0) (a) (b) (s):Mi (Jp a0 a b s):=by delta Jp;infer_instance
instance (a0) (a) (b) (c):Mi (F6 a0 a b c):=by delta F6;infer_instance
instance (a0):Mi (Ex a0):=by delta Ex;repeat' first | (show Mi _;infer_instance) | refine @iB _ _ _ _ ?_ (fun _=>?_) | refine @iC _ _ _ _ ?_ | refine @iI _ _ _ _ _ ?_ ?_
instance (a):Mi (IZ a):=by delta IZ;infer_instance
instance (a0) (b) (s):Mi (F8 a0 b s):=by obtain⟨c,a⟩:=s;delta F8;dsimp only;repeat' first | (show Mi _;infer_instance) | refine @iB _ _ _ _ ?_ (fun _=>?_) | refine @iC _ _ _ _ ?_ | refine @iI _ _ _ _ _ ?_ ?_
instance (a0) (a) (s):Mi (M7 a0 a s):=by delta M7;infer_instance
instance (a) (b):Mi (Kt a b):=by delta Kt;infer_instance
instance (a0):Mi (J8 a0):=by delta J8;infer_instance
instance (a0) (a1):Mi (Lp a0 a1):=by delta Lp;infer_instance
instance (a0) (a1):Mi (Ct a0 a1):=by delta Ct;infer_instance
instance (a0):Mi (Iv a0):=by delta Iv;infer_instance
instance:Mi (GW):=by delta GW;infer_instance
instance (a0) (s):Mi (Dq a0 s):=by delta Dq;infer_instance
instance (a0) (s):Mi (IH a0 s):=by delta IH;infer_instance
instance (a0):Mi (IT a0):=by delta IT;infer_instance
instance (a0):Mi (Hz a0):=by delta Hz;infer_instance
instance:Mi (Ds):=by delta Ds;infer_instance
instance (a0) (a1) (s):Mi (BK a0 a1 s):=by delta BK;infer_instance
instance (a0) (a1) (s):Mi (Ez a0 a1 s):=by delta Ez;infer_instance
instance (a0) (a1):Mi (DX a0 a1):=by delta DX;infer_instance
instance (a0) (a1):Mi (Cz a0 a1):=by delta Cz;infer_instance
instance:Mi (HG):=by delta HG;infer_instance
instance (a) (s):Mi (DA a s):=by delta DA;infer_instance
instance (a) (s):Mi (Lh a s):=by delta Lh;infer_instance
instance (_c84) (_c85) (_c86) (b) (c) (a):Mi (BO _c84 _c85 _c86 b c a):=by delta BO;infer_instance
instance (b) (c) (d) (e) (f) (a):Mi (Gi b c d e f a):=by delta Gi;repeat' first | (show Mi _;infer_instance) | refine @iB _ _ _ _ ?_ (fun _=>?_) | refine @iC _ _ _ _ ?_ | refine @iI _ _ _ _ _ ?_ ?_
instance (b) (c) (d) (e) (f) (a):Mi (Gj b c d e f a):=by delta Gj;infer_instance
instance (b) (c) (d) (e) (f) (a):Mi (Gk b c d e f a):=by delta Gk;infer_instance
instance (a0):Mi (GQ a0):=by delta GQ;infer_instance
instance (a):Mi (GX a):=by delta GX;infer_instance
instance (a0) (a2) (self) [∀ c d e,Mi (self c d e)] (s):Mi (CG a0 a2 self s):=by obtain⟨b,a⟩:=s;delta CG;dsimp only;infer_instance
instance (a0) (a2) (self) [∀ a b c,Mi (self a b c)] (s):Mi (K0 a0 a2 self s):=by delta K0;infer_instance
instance (self) [∀ a b c,Mi (self a b c)] (a0) (a1) (a2):Mi (El self a0 a1 a2):=by delta El;infer_instance
instance Ul:∀ (n:Nat) (y0) (y1) (y2),Mi (Fg n y0 y1 y2)
 | 0,_,_,_=>⟨none,fun _ h=>by cases h⟩
 | n+1,y0,y1,y2=>by
  haveI:=Ul n
  show Mi (El (Fg n) y0 y1 y2)
  infer_instance
instance (y0) (y1) (y2):Mi (MV y0 y1 y2):=by delta MV;infer_instance
instance (b) (a):Mi (JS b a):=by delta JS;infer_instance
instance (s):Mi (FO s):=by obtain⟨b,a⟩:=s;delta FO;dsimp only;infer_instance
instance (s):Mi (LH s):=by delta LH;infer_instance
instance (a0):Mi (Ea a0):=by delta Ea;infer_instance
instance (a0):Mi (HH a0):=by delta HH;infer_instance
instance (a0) (a) (self) [∀ c,Mi (self c)] (b):Mi (Eb a0 a self b):=by delta Eb;infer_instance
instance (a):Mi (GC a):=by delta GC;infer_instance
instance (a0) (self) [∀ b,Mi (self b)] (s):Mi (Cc a0 self s):=by obtain⟨c,a⟩:=s;delta Cc;dsimp only;infer_instance
instance (a0) (self) [∀ a,Mi (self a)] (s):Mi (JT a0 self s):=by delta JT;infer_instance
instance (self) [∀ a,Mi (self a)] (a0):Mi (Fl self a0):=by delta Fl;infer_instance
instance T9:∀ (n:Nat) (y0),Mi (Fm n y0)
 | 0,_=>⟨none,fun _ h=>by cases h⟩
 | n+1,y0=>by
  haveI:=T9 n
  show Mi (Fl (Fm n) y0)
  infer_instance
instance (y0):Mi (LI y0):=by delta LI;infer_instance
instance (a0):Mi (LJ a0):=by delta LJ;infer_instance
instance (a0):Mi (EA a0):=by delta EA;infer_instance
instance (a) (b) (c) (d):Mi (J1 a b c d):=by delta J1;infer_instance
instance (a0):Mi (Jh a0):=by delta Jh;infer_instance
instance (a) (b):Mi (JZ a b):=by delta JZ;infer_instance
instance (a) (b) (s):Mi (GU a b s):=by obtain⟨d,c⟩:=s;delta GU;dsimp only;infer_instance
instance (a) (b) (s):Mi (Ka a b s):=by delta Ka;infer_instance
instance (a) (b):Mi (DY a b):=by delta DY;repeat' first | (show Mi _;infer_instance) | refine @iB _ _ _ _ ?_ (fun _=>?_) | refine @iC _ _ _ _ ?_ | refine @iI _ _ _ _ _ ?_ ?_
instance (a) (b):Mi (Gg a b):=by delta Gg;infer_instance
instance (a) (b):Mi (Gh a b):=by delta Gh;infer_instance
instance (a0):Mi (Ik a0):=by delta Ik;infer_instance
instance (a0):Mi (KG a0):=by delta KG;infer_instance
instance (a0):Mi (GB a0):=by delta GB;infer_instance
instance (a0) (a1):Mi (AZ a0 a1):=by delta AZ;infer_instance
instance (a) (b):Mi (Fv a b):=by delta Fv;infer_instance
instance (a0) (a) (s):Mi (BQ a0 a s):=by obtain⟨c,d,e,b⟩:=s;delta BQ;dsimp only;repeat' first | (show Mi _;infer_instance) | refine @iB _ _ _ _ ?_ (fun _=>?_) | refine @iC _ _ _ _ ?_ | refine @iI _ _ _ _ _ ?_ ?_
instance (a0) (a) (s):Mi (Hk a0 a s):=by delta Hk;infer_instance
instance (a0) (a) (b):Mi (Fw a0 a b):=by delta Fw;infer_instance
instance (a0) (a) (s):Mi (C0 a0 a s):=by obtain⟨c,b⟩:=s;delta C0;dsimp only;infer_instance
instance (a0) (a) (s):Mi (Hl a0 a s):=by delta Hl;infer_instance
instance (a0) (s):Mi (C1 a0 s):=by obtain⟨b,a⟩:=s;delta C1;dsimp only;infer_instance
instance (a0) (s):Mi (Hm a0 s):=by delta Hm;infer_instance
instance (a0) (a1_c0):Mi (FJ a0 a1_c0):=by delta FJ;infer_instance
instance (a0) (a):Mi (HI a0 a):=by delta HI;infer_instance
instance (a0) (a1) (a) (s):Mi (GS a0 a1 a s):=by obtain⟨c,b⟩:=s;delta GS;dsimp only;infer_instance
instance (a0) (a1) (a) (s):Mi (LM a0 a1 a s):=by delta LM;infer_instance
instance (a0) (a1):Mi (Lu a0 a1):=by delta Lu;infer_instance
instance (a0) (a):Mi (HJ a0 a):=by delta HJ;infer_instance
instance (a0) (s):Mi (EH a0 s):=by obtain⟨b,a⟩:=s;delta EH;dsimp only;infer_instance
instance (a0) (s):Mi (NN a0 s):=by delta NN;infer_instance
instance (a0):Mi (Ji a0):=by delta Ji;infer_instance
instance (a0):Mi (Db a0):=by delta Db;infer_instance
instance {σ:Type} (a0:Pv) (a1:List (List UInt8)) (a:Int) (self:Pv->(List (List UInt8))->σ->Option σ) [∀ c d e,Mi (self c d e)] (b:List UInt8) (sJ72:σ):Mi (DD a0 a1 a self b sJ72):=by delta DD;infer_instance
instance {σ:Type} (a0:Pv) (a1:List (List UInt8)) (self:Pv->(List (List UInt8))->σ->Option σ) [∀ b c d,Mi (self b c d)] (s:Int×σ):Mi (CH a0 a1 self s):=by obtain⟨a,sJ55⟩:=s;delta CH;dsimp only;infer_instance
instance {σ:Type} (a0:Pv) (a1:List (List UInt8)) (self:Pv->(List (List UInt8))->σ->Option σ) [∀ a b c,Mi (self a b c)] (s:Int×σ):Mi (J9 a0 a1 self s):=by delta J9;infer_instance
instance {σ:Type} (step:σ->((List UInt8)×Int×Int×(List UInt8))->Option σ) [∀ a b,Mi (step a b)] (self:Pv->(List (List UInt8))->σ->Option σ) [∀ a b c,Mi (self a b c)] (a0:Pv) (a1:List (List UInt8)) (s:σ):Mi (EM step self a0 a1 s):=by delta EM;infer_instance
instance SO {σ:Type} (step:σ->((List UInt8)×Int×Int×(List UInt8))->Option σ) [∀ a b,Mi (step a b)]:∀ (n:Nat) (y0) (y1) (y2),Mi (FP step n y0 y1 y2)
 | 0,_,_,_=>⟨none,fun _ h=>by cases h⟩
 | n+1,y0,y1,y2=>by
  haveI:=SO step n
  show Mi (EM step (FP step n) y0 y1 y2)
  infer_instance
instance {σ:Type} (step:σ->((List UInt8)×Int×Int×(List UInt8))->Option σ) [∀ a b,Mi (step a b)] (y0) (y1) (y2):Mi (J5 step y0 y1 y2):=by delta J5;infer_instance
instance (i) (l) (x):Mi (Kl i l x):=by delta Kl;infer_instance
instance (a0):Mi (ET a0):=by delta ET;infer_instance
instance (a):Mi (IV a):=by delta IV;infer_instance
instance (a0) (s):Mi (GH a0 s):=by obtain⟨b,a⟩:=s;delta GH;dsimp only;infer_instance
instance (a0) (s):Mi (Km a0 s):=by delta Km;infer_instance
instance (a0):Mi (J6 a0):=by delta J6;infer_instance
instance (a1):Mi (EC a1):=by delta EC;infer_instance
instance (_a0) (a1):Mi (E1 _a0 a1):=by delta E1;infer_instance
instance (a):Mi (Ec a):=by delta Ec;infer_instance
instance (a0) (s):Mi (CP a0 s):=by obtain⟨b,a⟩:=s;delta CP;dsimp only;infer_instance
instance (a0) (s):Mi (Fo a0 s):=by delta Fo;infer_instance
instance (a0) (a):Mi (Dc a0 a):=by delta Dc;infer_instance
instance (a0) (s):Mi (CQ a0 s):=by obtain⟨b,a⟩:=s;delta CQ;dsimp only;infer_instance
instance (a0) (s):Mi (Fp a0 s):=by delta Fp;infer_instance
instance (a0):Mi (DL a0):=by delta DL;infer_instance
instance (a):Mi (LK a):=by delta LK;infer_instance
instance (a0):Mi (JW a0):=by delta JW;infer_instance
instance (a):Mi (JX a):=by delta JX;infer_instance
instance (a0) (s):Mi (Il a0 s):=by obtain⟨b,a⟩:=s;delta Il;dsimp only;infer_instance
instance (a0) (s):Mi (LL a0 s):=by delta LL;infer_instance
instance (a0):Mi (Lt a0):=by delta Lt;infer_instance
instance (a0):Mi (Gl a0):=by delta Gl;infer_instance
instance (a0) (a):Mi (GR a0 a):=by delta GR;infer_instance
def FN(a0:Int)(a1:List (((List UInt8)×Int×Int×(List UInt8))×(List Int)))(b:(List ((List UInt8)×Int×Int×(List UInt8)))):(List (((List UInt8)×Int×Int×(List UInt8))×(List Int)))×Int->Option (((List (((List UInt8)×Int×Int×(List UInt8))×(List Int)))×Int) ⊕ ((Int×(List (((List UInt8)×Int×Int×(List UInt8))×(List Int))))×(Int×Int))):=fun⟨d,a⟩=>
 if a<(b.length:Int) then Go.L.AN (0<=a/\a<(b.length:Int)) (Qq4 (ET (Go.L.BT [] ((b.getD a.toNat Qq2).1,(b.getD a.toNat Qq2).2.1,(b.getD a.toNat Qq2).2.2.1,(b.getD a.toNat Qq2).2.2.2) a1)) (fun c=>Go.L.AN (c.length<4611686018427387904) (Go.L.AN ((isI c).length<=9223372036854775807) (Go.L.AN (Go.E.H7 72 (d.length+([(((b.getD a.toNat Qq2).1,(b.getD a.toNat Qq2).2.1,(b.getD a.toNat Qq2).2.2.1,(b.getD a.toNat Qq2).2.2.2),(Lib.compact (isI c)))]).length)) (Go.L.AN (Go.L.Bz (a+(1:Int))) (some (Sum.inl ((d++[(((b.getD a.toNat Qq2).1,(b.getD a.toNat Qq2).2.1,(b.getD a.toNat Qq2).2.2.1,(b.getD a.toNat Qq2).2.2.2),(Lib.compact (isI c)))]),(a+(1:Int)))))))))) else Qq7 Sum.inr ((GR a0) d)
theorem QP:@FN = @Gm:=by
 unfold FN Gm;simp only [VO,VN,QN]
instance (a0) (a1) (b) (s):Mi (FN a0 a1 b s):=by obtain⟨c,a⟩:=s;delta FN;dsimp only;infer_instance
instance (a0) (a1) (a) (s):Mi (Gm a0 a1 a s):=⟨(inferInstance:Mi (FN a0 a1 a s)).c,by rw [<- QP];exact(inferInstance:Mi (FN a0 a1 a s)).h⟩
instance (a0) (a1) (a) (s):Mi (KS a0 a1 a s):=by delta KS;infer_instance
instance (a0) (a1):Mi (Hj a0 a1):=by delta Hj;infer_instance
instance (a0) (a):Mi (Jy a0 a):=by delta Jy;infer_instance
instance (a0) (s):Mi (Dd a0 s):=by obtain⟨b,a⟩:=s;delta Dd;dsimp only;infer_instance
instance (a0) (s):Mi (KT a0 s):=by delta KT;infer_instance
instance (a0):Mi (Kn a0):=by delta Kn;infer_instance
instance (g) (a) (b) (c) (d) (e) (f):Mi (Eh g a b c d e f):=by delta Eh;infer_instance
instance (a) (b) (c):Mi (EI a b c):=by delta EI;infer_instance
instance (a0) (s):Mi (Di a0 s):=by obtain⟨b,c,d,a⟩:=s;delta Di;dsimp only;repeat' first | (show Mi _;infer_instance) | refine @iB _ _ _ _ ?_ (fun _=>?_) | refine @iC _ _ _ _ ?_ | refine @iI _ _ _ _ _ ?_ ?_
instance (a0) (s):Mi (J2 a0 s):=by delta J2;infer_instance
instance (a0):Mi (I1 a0):=by delta I1;infer_instance
instance (a0):Mi (FQ a0):=by delta FQ;infer_instance
instance (a0):Mi (BE a0):=by delta BE;infer_instance
instance (a0):Mi (IB a0):=by delta IB;infer_instance
instance (a0) (a1):Mi (Ej a0 a1):=by delta Ej;infer_instance
instance (a0) (a1):Mi (strings_Compare a0 a1):=by delta strings_Compare;infer_instance
instance (a0) (a1):Mi (Gn a0 a1):=by delta Gn;infer_instance
instance (a0) (a1) (a):Mi (Bv a0 a1 a):=by delta Bv;infer_instance
instance (a0) (a1) (s):Mi (Bs a0 a1 s):=by obtain⟨b,a⟩:=s;delta Bs;dsimp only;repeat' first | (show Mi _;infer_instance) | refine @iB _ _ _ _ ?_ (fun _=>?_) | refine @iC _ _ _ _ ?_ | refine @iI _ _ _ _ _ ?_ ?_
instance (a0) (a1) (s):Mi (BB a0 a1 s):=by delta BB;infer_instance
instance (a0) (a1):Mi (Bj a0 a1):=by delta Bj;infer_instance
instance (a0) (a1):Mi (D9 a0 a1):=by delta D9;infer_instance
instance (a0):Mi (D3 a0):=by delta D3;infer_instance
instance (a0) (a1):Mi (Gp a0 a1):=by delta Gp;infer_instance
instance (a):Mi (Ja a):=by delta Ja;infer_instance
instance (a0) (s):Mi (GL a0 s):=by obtain⟨b,a⟩:=s;delta GL;dsimp only;infer_instance
instance (a0) (s):Mi (Ku a0 s):=by delta Ku;infer_instance
instance (a0):Mi (Hw a0):=by delta Hw;infer_instance
instance (a):Mi (Bx a):=by delta Bx;infer_instance
instance (a):Mi (F9 a):=by delta F9;infer_instance
instance:Mi (CT):=by delta CT;infer_instance
instance (a0) (a1) (s):Mi (B4 a0 a1 s):=by delta B4;infer_instance
instance (a0) (a1) (s):Mi (DR a0 a1 s):=by delta DR;infer_instance
instance (a0) (a1):Mi (D2 a0 a1):=by delta D2;infer_instance
instance (a0) (a1):Mi (Cg a0 a1):=by delta Cg;infer_instance
instance (a) (b):Mi (CV a b):=by delta CV;infer_instance
instance (b) (a) (c):Mi (E2 b a c):=by delta E2;infer_instance
instance (a0) (a1) (b) (a) (c) (s):Mi (Ck a0 a1 b a c s):=by delta Ck;infer_instance
instance (a0) (a1) (b) (a) (c) (s):Mi (HU a0 a1 b a c s):=by delta HU;infer_instance
instance (a):Mi (FV a):=by delta FV;infer_instance
instance (a0) (a1) (a) (s):Mi (CK a0 a1 a s):=by obtain⟨c,b⟩:=s;delta CK;dsimp only;infer_instance
instance (a0) (a1) (a) (s):Mi (HV a0 a1 a s):=by delta HV;infer_instance
instance (a0) (a1):Mi (FW a0 a1):=by delta FW;infer_instance
instance (a0) (a1) (s):Mi (CL a0 a1 s):=by delta CL;infer_instance
instance (a0) (a1) (s):Mi (HW a0 a1 s):=by delta HW;infer_instance
instance (a0) (a1):Mi (Ee a0 a1):=by delta Ee;infer_instance
instance (a0) (a1) (a2):Mi (EN a0 a1 a2):=by delta EN;infer_instance
instance (a) (b) (c):Mi (Cq a b c):=by delta Cq;infer_instance
instance (a0) (s):Mi (Bp a0 s):=by obtain⟨b,c,d,a⟩:=s;delta Bp;dsimp only;infer_instance
instance (a0) (s):Mi (Dm a0 s):=by delta Dm;infer_instance
instance (a0) (a1_c0) (a1_c1):Mi (CM a0 a1_c0 a1_c1):=by delta CM;infer_instance
instance (a0) (a1_c0) (a1_c1):Mi (BJ a0 a1_c0 a1_c1):=by delta BJ;infer_instance
instance (a) (_c100):Mi (Hb a _c100):=by delta Hb;infer_instance
instance (a0) (a2) (a) (s):Mi (Dt a0 a2 a s):=by obtain⟨c,d,b⟩:=s;delta Dt;dsimp only;repeat' first | (show Mi _;infer_instance) | refine @iB _ _ _ _ ?_ (fun _=>?_) | refine @iC _ _ _ _ ?_ | refine @iI _ _ _ _ _ ?_ ?_
instance (a0) (a2) (a) (s):Mi (K1 a0 a2 a s):=by delta K1;infer_instance
instance (a0) (a1) (a2) (a3):Mi (EW a0 a1 a2 a3):=by delta EW;infer_instance
instance (a0) (a1):Mi (KL a0 a1):=by delta KL;infer_instance
instance (a0):Mi (Dw a0):=by delta Dw;infer_instance
instance (a0) (a1) (a3) (c) (d) (a) (b):Mi (BR a0 a1 a3 c d a b):=by delta BR;infer_instance
instance (a) (b) (c):Mi (Es a b c):=by delta Es;infer_instance
instance (a0) (a1) (a2) (a3) (s):Mi (Cu a0 a1 a2 a3 s):=by obtain⟨a,b,c,d⟩:=s;delta Cu;dsimp only;repeat' first | (show Mi _;infer_instance) | refine @iB _ _ _ _ ?_ (fun _=>?_) | refine @iC _ _ _ _ ?_ | refine @iI _ _ _ _ _ ?_ ?_
instance (a0) (a1) (a2) (a3) (s):Mi (Ij a0 a1 a2 a3 s):=by delta Ij;infer_instance
instance (a0) (a1) (a2) (a3):Mi (F0 a0 a1 a2 a3):=by delta F0;infer_instance
instance (a) (b):Mi (E4 a b):=by delta E4;infer_instance
instance (a0) (a1) (s):Mi (BV a0 a1 s):=by obtain⟨a,b,c⟩:=s;delta BV;dsimp only;infer_instance
instance (a0) (a1) (s):Mi (FY a0 a1 s):=by delta FY;infer_instance
instance (a0) (a1):Mi (EO a0 a1):=by delta EO;infer_instance
instance (a0) (a1):Mi (DB a0 a1):=by delta DB;infer_instance
instance (a0) (a1) (s):Mi (DP a0 a1 s):=by obtain⟨b,a⟩:=s;delta DP;dsimp only;infer_instance
instance (a0) (a1) (s):Mi (FA a0 a1 s):=by delta FA;infer_instance
instance (_a0):Mi (GY _a0):=by delta GY;infer_instance
instance (a0) (a1):Mi (Gf a0 a1):=by delta Gf;infer_instance
instance (b) (a):Mi (Cm b a):=by delta Cm;infer_instance
instance (a) (s):Mi (BD a s):=by obtain⟨d,b,c⟩:=s;delta BD;dsimp only;repeat' first | (show Mi _;infer_instance) | refine @iB _ _ _ _ ?_ (fun _=>?_) | refine @iC _ _ _ _ ?_ | refine @iI _ _ _ _ _ ?_ ?_
instance (a) (s):Mi (Cn a s):=by delta Cn;infer_instance
instance (b) (a):Mi (Co b a):=by delta Co;infer_instance
instance (a):Mi (Cp a):=by delta Cp;infer_instance
instance (s):Mi (Bo s):=by obtain⟨b,a⟩:=s;delta Bo;dsimp only;infer_instance
instance (s):Mi (E9 s):=by delta E9;infer_instance
instance (a0):Mi (BZ a0):=by delta BZ;infer_instance
instance:Mi (G8):=by delta G8;infer_instance
instance (a0) (a1) (self) [∀ a b,Mi (self a b)] (s):Mi (Cw a0 a1 self s):=by delta Cw;infer_instance
instance (a0) (a1) (self) [∀ a b,Mi (self a b)] (s):Mi (JQ a0 a1 self s):=by delta JQ;infer_instance
instance (a0) (a1) (self) [∀ a b,Mi (self a b)]:Mi (G9 a0 a1 self):=by delta G9;repeat' first | (show Mi _;infer_instance) | refine @iB _ _ _ _ ?_ (fun _=>?_) | refine @iC _ _ _ _ ?_ | refine @iI _ _ _ _ _ ?_ ?_
instance (self) [∀ a b,Mi (self a b)] (a0) (a1):Mi (DI self a0 a1):=by delta DI;infer_instance
instance TA:∀ (n:Nat) (y0) (y1),Mi (E8 n y0 y1)
 | 0,_,_=>⟨none,fun _ h=>by cases h⟩
 | n+1,y0,y1=>by
  haveI:=TA n
  show Mi (DI (E8 n) y0 y1)
  infer_instance
instance (y0) (y1):Mi (LD y0 y1):=by delta LD;infer_instance
instance (a0) (a1):Mi (DU a0 a1):=by delta DU;infer_instance
def Dk(a:List Int):Option ((List Int)):=
 Go.L.AN (a.length<4611686018427387904) (Go.L.AN ((isI a).length<=9223372036854775807) (some ((Lib.compact (isI a)))))
theorem N3:@Dk = @DM:=by
 unfold Dk DM;simp only [VO,VN,QN]
instance (a):Mi (Dk a):=by delta Dk;infer_instance
instance (a):Mi (DM a):=⟨(inferInstance:Mi (Dk a)).c,by rw [<- N3];exact(inferInstance:Mi (Dk a)).h⟩
instance (a0) (a1) (s):Mi (D8 a0 a1 s):=by obtain⟨b,a⟩:=s;delta D8;dsimp only;repeat' first | (show Mi _;infer_instance) | refine @iB _ _ _ _ ?_ (fun _=>?_) | refine @iC _ _ _ _ ?_ | refine @iI _ _ _ _ _ ?_ ?_
instance (a0) (a1) (s):Mi (GJ a0 a1 s):=by delta GJ;infer_instance
instance (a0) (a1):Mi (EU a0 a1):=by delta EU;infer_instance
instance (a0) (a1):Mi (Fq a0 a1):=by delta Fq;infer_instance
instance (a0) (a1) (a2):Mi (DE a0 a1 a2):=by delta DE;infer_instance
def C3(a:List Int)(b:Int)(c:Int):Option ((List Int)×Int×Int):=
 Go.L.AN (a.length<4611686018427387904) (Go.L.AN ((isI a).length<=9223372036854775807) (some ((Lib.compact (isI a)),b,c)))
theorem MB:@C3 = @De:=by
 unfold C3 De;simp only [VO,VN,QN]
instance (a) (b) (c):Mi (C3 a b c):=by delta C3;infer_instance
instance (a) (b) (d):Mi (De a b d):=⟨(inferInstance:Mi (C3 a b d)).c,by rw [<- MB];exact(inferInstance:Mi (C3 a b d)).h⟩
instance (a0) (a1) (s):Mi (CR a0 a1 s):=by obtain⟨b,c,d,a⟩:=s;delta CR;dsimp only;repeat' first | (show Mi _;infer_instance) | refine @iB _ _ _ _ ?_ (fun _=>?_) | refine @iC _ _ _ _ ?_ | refine @iI _ _ _ _ _ ?_ ?_
instance (a0) (a1) (s):Mi (Fs a0 a1 s):=by delta Fs;infer_instance
instance (a0) (a1) (a2_c0) (a2_c1):Mi (DN a0 a1 a2_c0 a2_c1):=by delta DN;infer_instance
instance (a0) (a1) (a2) (a3):Mi (Ev a0 a1 a2 a3):=by delta Ev;infer_instance
instance (a0) (a1):Mi (Ew a0 a1):=by delta Ew;infer_instance
def C4(a:List Int)(b:List UInt8):Option ((List Int)×(List UInt8)):=
 Go.L.AN (a.length<4611686018427387904) (Go.L.AN ((isI a).length<=9223372036854775807) (some ((Lib.compact (isI a)),b)))
theorem MC:@C4 = @Df:=by
 unfold C4 Df;simp only [VO,VN,QN]
instance (a) (b):Mi (C4 a b):=by delta C4;infer_instance
instance (a) (b):Mi (Df a b):=⟨(inferInstance:Mi (C4 a b)).c,by rw [<- MC];exact(inferInstance:Mi (C4 a b)).h⟩
instance (a0) (a1) (s):Mi (CS a0 a1 s):=by obtain⟨b,c,a⟩:=s;delta CS;dsimp only;repeat' first | (show Mi _;infer_instance) | refine @iB _ _ _ _ ?_ (fun _=>?_) | refine @iC _ _ _ _ ?_ | refine @iI _ _ _ _ _ ?_ ?_
instance (a0) (a1) (s):Mi (Ft a0 a1 s):=by delta Ft;infer_instance
instance (a0) (a1) (a2_c0):Mi (DO a0 a1 a2_c0):=by delta DO;infer_instance
instance (a0) (a1) (a2):Mi (Fu a0 a1 a2):=by delta Fu;infer_instance
instance (a0) (a1):Mi (DC a0 a1):=by delta DC;repeat' first | (show Mi _;infer_instance) | refine @iB _ _ _ _ ?_ (fun _=>?_) | refine @iC _ _ _ _ ?_ | refine @iI _ _ _ _ _ ?_ ?_
instance (a):Mi (FZ a):=by delta FZ;infer_instance
instance (a1) (s):Mi (Dx a1 s):=by obtain⟨b,a⟩:=s;delta Dx;dsimp only;infer_instance
instance (a1) (s):Mi (Ga a1 s):=by delta Ga;infer_instance
instance (a0) (a1):Mi (EP a0 a1):=by delta EP;infer_instance
instance (a) (b):Mi (CB a b):=by delta CB;infer_instance
instance (a1) (a) (b) (s):Mi (BX a1 a b s):=by obtain⟨d,c⟩:=s;delta BX;dsimp only;repeat' first | (show Mi _;infer_instance) | refine @iB _ _ _ _ ?_ (fun _=>?_) | refine @iC _ _ _ _ ?_ | refine @iI _ _ _ _ _ ?_ ?_
instance (a1) (a) (b) (s):Mi (D4 a1 a b s):=by delta D4;infer_instance
instance (a):Mi (CA a):=by delta CA;infer_instance
instance (a0) (a1) (self) [∀ b c,Mi (self b c)] (s):Mi (BF a0 a1 self s):=by obtain⟨d,a⟩:=s;delta BF;dsimp only;infer_instance
instance (a0) (a1) (self) [∀ a b,Mi (self a b)] (s):Mi (CC a0 a1 self s):=by delta CC;infer_instance
instance (a0) (a1) (self) [∀ b c,Mi (self b c)] (a):Mi (Cd a0 a1 self a):=by delta Cd;infer_instance
instance (a0) (a1) (self) [∀ c d,Mi (self c d)] (a) (s):Mi (BY a0 a1 self a s):=by obtain⟨e,b⟩:=s;delta BY;dsimp only;infer_instance
instance (a0) (a1) (self) [∀ b c,Mi (self b c)] (a) (s):Mi (D5 a0 a1 self a s):=by delta D5;infer_instance
instance (self) [∀ a b,Mi (self a b)] (a0) (a1):Mi (C8 self a0 a1):=by delta C8;infer_instance
instance OC:∀ (n:Nat) (y0) (y1),Mi (Bq n y0 y1)
 | 0,_,_=>⟨none,fun _ h=>by cases h⟩
 | n+1,y0,y1=>by
  haveI:=OC n
  show Mi (C8 (Bq n) y0 y1)
  infer_instance
instance (y0) (y1):Mi (EY y0 y1):=by delta EY;infer_instance
instance (a):Mi (Gb a):=by delta Gb;infer_instance
instance (a2) (a) (s):Mi (Dy a2 a s):=by obtain⟨c,b⟩:=s;delta Dy;dsimp only;infer_instance
instance (a2) (a) (s):Mi (Gc a2 a s):=by delta Gc;infer_instance
instance (a0) (a1) (a2):Mi (Cv a0 a1 a2):=by delta Cv;infer_instance
instance (a0):Mi (Eg a0):=by delta Eg;infer_instance
instance (a):Mi (HZ a):=by delta HZ;infer_instance
instance (a0) (s):Mi (Hp a0 s):=by obtain⟨c,a,b⟩:=s;delta Hp;dsimp only;infer_instance
instance (a0) (s):Mi (JB a0 s):=by delta JB;infer_instance
instance (a0):Mi (Jo a0):=by delta Jo;infer_instance
instance (a0):Mi (Fk a0):=by delta Fk;infer_instance
instance (a0) (a1) (a2):Mi (Ia a0 a1 a2):=by delta Ia;infer_instance
instance (a0):Mi (Ic a0):=by delta Ic;infer_instance
instance (a0) (a1) (a2) (a3):Mi (Hr a0 a1 a2 a3):=by delta Hr;infer_instance
instance (a0) (a1) (a2) (a3) (a4):Mi (Hd a0 a1 a2 a3 a4):=by delta Hd;infer_instance
instance (a0) (a) (b):Mi (Ix a0 a b):=by delta Ix;infer_instance
instance (a0) (a) (b) (s):Mi (HX a0 a b s):=by delta HX;infer_instance
instance (a0) (a) (b) (s):Mi (Ke a0 a b s):=by delta Ke;infer_instance
instance (_self) (a0):Mi (Iy _self a0):=by delta Iy;infer_instance
instance TB:∀ (n:Nat) (y0),Mi (IY n y0)
 | 0,_=>⟨none,fun _ h=>by cases h⟩
 | n+1,y0=>by
  haveI:=TB n
  show Mi (Iy (IY n) y0)
  infer_instance
instance (y0):Mi (LP y0):=by delta LP;infer_instance
instance (a) (b):Mi (HY a b):=by delta HY;infer_instance
instance (a0) (a1) (b) (self) [∀ c d,Mi (self c d)] (s):Mi (Hn a0 a1 b self s):=by obtain⟨e,a⟩:=s;delta Hn;dsimp only;infer_instance
instance (a0) (a1) (a) (self) [∀ b c,Mi (self b c)] (s):Mi (JA a0 a1 a self s):=by delta JA;infer_instance
instance (a0) (a1) (self) [∀ b c,Mi (self b c)] (a):Mi (FX a0 a1 self a):=by delta FX;infer_instance
instance (self) [∀ a b,Mi (self a b)] (a0) (a1):Mi (HK self a0 a1):=by delta HK;repeat' first | (show Mi _;infer_instance) | refine @iB _ _ _ _ ?_ (fun _=>?_) | refine @iC _ _ _ _ ?_ | refine @iI _ _ _ _ _ ?_ ?_
instance SP:∀ (n:Nat) (y0) (y1),Mi (Im n y0 y1)
 | 0,_,_=>⟨none,fun _ h=>by cases h⟩
 | n+1,y0,y1=>by
  haveI:=SP n
  show Mi (HK (Im n) y0 y1)
  infer_instance
instance (y0) (y1):Mi (MG y0 y1):=by delta MG;infer_instance
instance (a0):Mi (MH a0):=by delta MH;infer_instance
instance (a0) (a1):Mi (JM a0 a1):=by delta JM;infer_instance
instance:Mi (MF):=by delta MF;infer_instance
instance (a0) (a1) (s):Mi (LC a0 a1 s):=by delta LC;infer_instance
instance (a0) (a1) (s):Mi (O3 a0 a1 s):=by delta O3;infer_instance
instance (a0) (a1):Mi (Pz a0 a1):=by delta Pz;infer_instance
instance:Mi (Hs):=by delta Hs;infer_instance
instance (a0) (a1) (self) [∀ a b,Mi (self a b)] (s):Mi (GM a0 a1 self s):=by delta GM;infer_instance
instance (a0) (a1) (self) [∀ a b,Mi (self a b)] (s):Mi (Jt a0 a1 self s):=by delta Jt;infer_instance
instance (a0) (a1) (self) [∀ a b,Mi (self a b)]:Mi (Ht a0 a1 self):=by delta Ht;infer_instance
instance (self) [∀ a b,Mi (self a b)] (a0) (a1):Mi (He self a0 a1):=by delta He;infer_instance
instance RU:∀ (n:Nat) (y0) (y1),Mi (H6 n y0 y1)
 | 0,_,_=>⟨none,fun _ h=>by cases h⟩
 | n+1,y0,y1=>by
  haveI:=RU n
  show Mi (He (H6 n) y0 y1)
  infer_instance
instance (y0) (y1):Mi (LY y0 y1):=by delta LY;infer_instance
instance:Mi (L9):=by delta L9;infer_instance
instance (a0) (a1) (s):Mi (J4 a0 a1 s):=by delta J4;infer_instance
instance (a0) (a1) (s):Mi (Nv a0 a1 s):=by delta Nv;infer_instance
instance (a0) (a1):Mi (My a0 a1):=by delta My;infer_instance
instance (a0) (a1):Mi (L8 a0 a1):=by delta L8;infer_instance
instance (a):Mi (G0 a):=by delta G0;infer_instance
instance:Mi (N7):=by delta N7;repeat' first | (show Mi _;infer_instance) | refine @iB _ _ _ _ ?_ (fun _=>?_) | refine @iC _ _ _ _ ?_ | refine @iI _ _ _ _ _ ?_ ?_
theorem Ac9:N7=some true:=(inferInstance:Mi N7).h true Qqb
end
end Go.Proofs.YtekmbcbgknmhiaaGreatDoor
end
noncomputable section
namespace Go.Proofs.YtekmbcbgknmhiaaGreatDoor
open Go Go.E Go.RowKit Go.L
set_option maxHeartbeats 1000000
set_option maxRecDepth 10000
open _root_.Go.Proofs.Tryz
def Dl(a2:Qv)(a3:List Bool)(b:AjN×(Int×Int))(a:AjN×(Int×Int))(e:Bool):Option Bool:=
 if e then(if b.2.1=0 then if a.2.1=0 then some true else Qq4 (BE ((a.1.1.1,a.1.1.2),(a.1.2.1.1,a.1.2.1.2),a.1.2.2)) (fun f=>some (decide (f=0))) else Qq4 (BE ((b.1.1.1,b.1.1.2),(b.1.2.1.1,b.1.2.1.2),b.1.2.2)) (fun g=>if g=0 then if a.2.1=0 then some true else Qq4 (BE ((a.1.1.1,a.1.1.2),(a.1.2.1.1,a.1.2.1.2),a.1.2.2)) (fun h=>some (decide (h=0))) else some false)) else Qq4 (Cv ((b.1.1.1,b.1.1.2),(b.1.2.1.1,b.1.2.1.2),b.1.2.2) a2 a3) (fun c=>Qq4 (Cv ((a.1.1.1,a.1.1.2),(a.1.2.1.1,a.1.2.1.2),a.1.2.2) a2 a3) (fun d=>if c.2.1=d.2.1/\c.2.2=d.2.2 then Qq4 (My c.1 d.1) (fun i=>some i) else some false))
def FH(a0:List (AcC×Pv))(a2:Qv)(a3:List Bool)(c:List (AcC×Pv)):Option Bool:=
 Qq4 (I1 a0) (fun a=>Qq4 (I1 c) (fun b=>if a.2.1=0 then(Dl a2 a3 a b) (!decide (b.2.1=0)) else(Dl a2 a3 a b) true))
def Fe(a0:List (AcC×Pv))(a1:List (AcC×Pv))(a2:Qv)(a3:List Bool):(List (AcC×Pv))×Int->Option (((List (AcC×Pv))×Int) ⊕ (Bool)):=fun⟨b,a⟩=>
 if a<(a0.length:Int) then AN (0<=a/\a<(a3.length:Int)) (if a3.getD a.toNat Qq2 then AN (0<=a/\a<(a0.length:Int)) (AN (Go.E.H7 112 (b.length+([((a0.getD a.toNat Qq2).1,((a0.getD a.toNat Qq2).2))]).length)) (AN (Bz (a+1)) (some (Sum.inl ((b++[((a0.getD a.toNat Qq2).1,((a0.getD a.toNat Qq2).2))]),(a+1)))))) else AN (0<=a/\a<(a1.length:Int)) (AN (Go.E.H7 112 (b.length+([((a1.getD a.toNat Qq2).1,((a1.getD a.toNat Qq2).2))]).length)) (AN (Bz (a+1)) (some (Sum.inl ((b++[((a1.getD a.toNat Qq2).1,((a1.getD a.toNat Qq2).2))]),(a+1))))))) else Qq7 Sum.inr ((FH a0 a2 a3) b)
def HP(a0:List (AcC×Pv))(a1:List (AcC×Pv))(a2:Qv)(a3:List Bool)(s:(List (AcC×Pv))×Int):Option Bool:=Go.L.run (Fe a0 a1 a2 a3) s
def HQ(a0:List (AcC×Pv))(a1:List (AcC×Pv))(a2:Qv)(a3:List Bool):Option Bool:=
 (HP a0 a1 a2 a3) (([]:List (AcC×Pv)),0)
def Jf(a0:List (AcC×Pv))(a1:List (AcC×Pv))(a2:Qv)(a3:List Bool):Option Bool:=
 Qq4 N7 (fun a=>if !a then some false else(if(a1.length:Int)<(a0.length:Int) then some true else if(a3.length:Int)=(a0.length:Int) then(HQ a0 a1 a2 a3) else some true))
section
variable(w:World)(H:PH)(hH:Le H (hp w)) include hH
theorem NZ(hU:Ge H){a0 a1:List (AcC×Pv)}{a2:Qv}{a3:List Bool}{a6 bf au av aw ax:Value}(bg:AJ (.pair (.vec .byte) .tree) H a6 a0)(ck:AJ (.pair (.vec .byte) .tree) H bf a1)(cl:AJ .st H au (a2.f.2.1))(cm:AJ .byte H av (a2.f.2.2.2.1))(cn:AJ .B1 H aw (a2.f.2.2.2.2.2.2))(bl:AJ .bool H ax a3){r:Bool}(h:Jf a0 a1 a2 a3=some r):
  Qqv 6 [a6,bf,.agg #[No a2.f.1,au,AcB a2.f.2.2.1,av,No a2.f.2.2.2.2.1,No a2.f.2.2.2.2.2.1,aw],ax] w (fun v w'=>v=.bool r):=by
 refine Az 115 [(0,a6),(1,bf),(2,.agg #[No a2.f.1,au,AcB a2.f.2.2.1,av,No a2.f.2.2.2.2.1,No a2.f.2.2.2.2.2.1,aw]),(3,ax)] func6 Z fun hL=>Aj<|C9 (t:=26) Z Z hL fun w1 b1 d8 ey _=>A7 1 Z<|AB<|Aj<|Aw h fun x2 eh h=>AE d8 (Yk _ _ (An d8) (hU.mono  Ah) eh) fun w3 f3 b7 ez=>A7 1 Z<|B3 h ?_ ?_<;>intro ei h
 ·refine AI 1 Z<|Ay<|Ao ?_
  cases h
  refine Al Z ⟨b7.ext,Z⟩
 refine Av<|Ar<|By Unit (fun(_:Unit)=>[(0,a6),(1,bf),(3,ax),(6,(Acy b1))]) (fun(_:Unit) wr=>Bb w [.box b1 [No a2.f.1,au,AcB a2.f.2.2.1,av,No a2.f.2.2.2.2.1,No a2.f.2.2.2.2.2.1,aw] 26] wr/\(HQ a0 a1 a2 a3)=some r) ?_ ?_
 ·refine Bt 1 Z<|Ai (Bk ck)<|Aq 1 Z<|Ai (Bk bg)<|Aq 2 Z<|CE 26 h ?_ ?_<;>intro ah h
  ·iterate 5 refine Au ah ?_
   refine Ai (AK ah Z)<|Ac<|Ff<|AI 1 Z<|Ay<|BI ?_
   cases h
   refine Al Z ⟨b7.ext,Z⟩
  refine Ab ah<|Ai (Am Z)<|Ab ah<|Ai (Bk bl)<|Ab ah<|Ai (Am Z)<|Ab ah<|Ai (Bk bg)<|Ab ah<|Ai (Am Z)<|Ai (AS ah Z)<|Ac<|CN h ?_ ?_<;>intro d9 h
  ·refine AI 1 Z<|Ay<|BI ?_
   cases h
   refine Al Z ⟨b7.ext,Z⟩
  refine Av<|AA () ⟨b7,h⟩
 rintro _ e0 ⟨ea,h⟩;refine Bt 1 Z ?_;obtain⟨eb,eq,ec⟩:=DG (.pair (.vec .byte) .tree) H 66 ea;refine Ac<|By ((List (AcC×Pv))×Value×(List Value)) (fun⟨bs,bm,be⟩=>[(0,a6),(3,ax),(6,(Acy b1)),(9,bm)]) (fun⟨bs,bm,be⟩ wr=>FI w [.row bm 66 6 (bs).length be,.box b1 [No a2.f.1,au,AcB a2.f.2.2.1,av,No a2.f.2.2.2.2.1,No a2.f.2.2.2.2.2.1,aw] 26] wr fun Oz=>AG (.pair (.vec .byte) .tree) (gz H w wr Oz) bs be/\(FH a0 a2 a3) bs=some r) ?_ ?_
 ·refine AI 1 Z<|A3 ?_;obtain⟨b8,h⟩:=Ba h;refine B5 ((List (AcC×Pv))×Int×Value×(List Value)×Nat) (fun⟨ao,a,a7,ap,n⟩=>[(0,a6),(1,bf),(3,ax),(6,(Acy b1)),(9,a7),(10,No a)]) (fun⟨ao,a,a7,ap,n⟩ wr=>FI w [.row a7 66 6 (ao).length ap,.box b1 [No a2.f.1,au,AcB a2.f.2.2.1,av,No a2.f.2.2.2.2.1,No a2.f.2.2.2.2.2.1,aw] 26] wr fun Oz=>AG (.pair (.vec .byte) .tree) (gz H w wr Oz) ao ap/\H8 (Fe a0 a1 a2 a3) n (ao,a)=some r) (fun⟨ao,a,a7,ap,n⟩=>n) (([]:List (AcC×Pv)),0,AaB,[],b8) Z ⟨eb,ec,h⟩ ?_;rintro⟨ao,a,a7,ap,nn95⟩ e1 ⟨a8,ai,h⟩;obtain⟨b8,f4,rfl,h,b6⟩:=AY h;refine AB<|Bt 2 Z<|Ai (Bk bg)<|A7 1 Z<|AO h ?_ ?_<;>intro ed h
  ·refine Av<|Ar<|AB<|A3<|Bt 2 Z<|A1 h fun b9 h=>Be bl a.toNat (G1 b9) (AX b9) ?_;rintro f5 _ rfl ee;refine Ai (Bl ee (hH.trans a8.arg))<|Ac<|B3 h ?_ ?_<;>intro cy h
   ·refine As<|Aq 3 Z<|A1 h fun ca h=>Be bg a.toNat (G1 ca) (AX ca) ?_;rintro e2 _ ⟨_,_,rfl,⟨e103v0,rfl,e103h0⟩,e103t1⟩ cz;obtain⟨_,_,rfl,rfl,⟨_,_,rfl,rfl,⟨_,_,rfl,⟨e103v3,rfl,e103h3⟩,⟨_,_,rfl,⟨e103v4,rfl,e103h4⟩,⟨e103v5,rfl,e103h5⟩⟩⟩⟩⟩:=Go.E.Rp.Mu e103t1;refine Ai (Cj cz (hH.trans a8.arg))<|B6 [((a0.getD a.toNat Qq2).1,((a0.getD a.toNat Qq2).2))] (r:=(.pair (.vec .byte) .tree)) (fun _=>Abh _ _ _ _ _ _ _) a8 (.c6 ⟨_,_,Z,⟨_,Z,(e103h0.mono  Ah)⟩,(Go.E.Rp.DT ⟨_,_,Z,Z,⟨_,_,Z,Z,⟨_,_,Z,⟨_,Z,(e103h3.mono  Ah)⟩,⟨_,_,Z,⟨_,Z,(e103h4.mono  Ah)⟩,⟨_,Z,(e103h5.mono  Ah)⟩⟩⟩⟩⟩)⟩ .nil) fun e3 e4 er c0 co c1=>A1 h fun c2 h=>?_;have ai:=ai.mono (Aa co);refine Br (r:=(.pair (.vec .byte) .tree)) 0 ao [((a0.getD a.toNat Qq2).1,((a0.getD a.toNat Qq2).2))] Z AjA c0 Z ai c1 c2 fun ef e5 c3 c4 ej c5=>Aq 1 Z<|AL<|A2<|Ar<|As<|Aq 1 Z<|A1 h fun c7 h=>?_
    refine Ai (A6 c7)<|Aq 1 Z<|AL ?_;have h:=Ce.again h b6;refine AM (_,_,_,_,_) Z ⟨c4,c5,h⟩
   refine As<|Aq 3 Z<|A1 h fun cb h=>Be ck a.toNat (G1 cb) (AX cb) ?_;rintro e6 _ ⟨_,_,rfl,⟨e110v0,rfl,e110h0⟩,e110t1⟩ c8;obtain⟨_,_,rfl,rfl,⟨_,_,rfl,rfl,⟨_,_,rfl,⟨e110v3,rfl,e110h3⟩,⟨_,_,rfl,⟨e110v4,rfl,e110h4⟩,⟨e110v5,rfl,e110h5⟩⟩⟩⟩⟩:=Go.E.Rp.Mu e110t1;refine Ai (Cj c8 (hH.trans a8.arg))<|B6 [((a1.getD a.toNat Qq2).1,((a1.getD a.toNat Qq2).2))] (r:=(.pair (.vec .byte) .tree)) (fun _=>Abh _ _ _ _ _ _ _) a8 (.c6 ⟨_,_,Z,⟨_,Z,(e110h0.mono  Ah)⟩,(Go.E.Rp.DT ⟨_,_,Z,Z,⟨_,_,Z,Z,⟨_,_,Z,⟨_,Z,(e110h3.mono  Ah)⟩,⟨_,_,Z,⟨_,Z,(e110h4.mono  Ah)⟩,⟨_,Z,(e110h5.mono  Ah)⟩⟩⟩⟩⟩)⟩ .nil) fun e7 e8 es c9 cp da=>A1 h fun db h=>?_;have ai:=ai.mono (Aa cp);refine Br (r:=(.pair (.vec .byte) .tree)) 0 ao [((a1.getD a.toNat Qq2).1,((a1.getD a.toNat Qq2).2))] Z AjA c9 Z ai da db fun eg e9 dc dd ek de=>Aq 1 Z<|AL<|A2<|Ar<|As<|Aq 1 Z<|A1 h fun df h=>?_
   refine Ai (A6 df)<|Aq 1 Z<|AL ?_;have h:=Ce.again h b6;refine AM (_,_,_,_,_) Z ⟨dd,de,h⟩
  refine B2<|AD<|A5 ?_;have h:=Ce.out h b6;refine Bf<|AA (_,_,_) ⟨a8,ai,h⟩
 rintro⟨bs,bm,be⟩ fa ⟨bh,bn,h⟩;refine Bt 1 Z<|Aw h fun d dg h=>Bh bh (Nf _ _ (An bh) (hU.mono  Ah) (bg.mono  Ah) dg) ?_;rintro _ fb ⟨bt,bu,bv,rfl,cc,cd,ce⟩ bo dh cq;have o:=cc.mono (DS bh bo);have p:=cd.mono (DS bh bo);have q:=ce.Dn hH bh bo;refine Aq 3 Z<|A9 JK.e Z dh fun fc cr di ac _=>A9 AF.e Z di fun fd cs dj ad _=>Af 1 Z dj Z (a:=(Bn Z (Bn o.one (Bn Z (Bn p.one (Bn q.one Ky)))))) fun fe dk ae=>Af 0 Z dk Z fun ff bp af=>Ac ?_;have j:=bp.rG H;refine Bt 1 Z ?_;have bn:=bn.mono (Aa (cq.trans (ac.trans (ad.trans (ae.trans af)))));have dl:=bp.Dn hH (i:=2) Z (bn.mono j);have ay:=bp.AQ (i:=2) Z;refine Aw h fun b dm h=>Bh ay (Nf _ _ (An ay) (hU.mono  Ah) dl dm) ?_;rintro _ fg ⟨bw,bx,bz,rfl,cf,cg,ch⟩ bq dn b0;have s:=cf.mono (DS ay bq);have u:=cg.mono (DS ay bq)
 have x:=ch.Dn hH ay bq;refine Aq 3 Z<|A9 JK.e Z dn fun fh ct dp y _=>A9 AF.e Z dp fun fi cu dq z _=>Af 1 Z dq Z (a:=(Bn Z (Bn s.one (Bn Z (Bn u.one (Bn x.one Ky)))))) fun fj dr aa=>Af 0 Z dr Z fun fk az ab=>Ac<|AB ?_
 refine By Bool (fun aq=>[(3,ax),(6,(Acy b1)),(11,(Acy cr)),(12,(Acy cs)),(13,(Acy ct)),(14,(Acy cu)),(74,.bool aq)]) (fun aq wr=>FI w [.box cu [No b.2.1,No b.2.2] 28,.box ct [No b.1.1.1,bw,No b.1.2.1.1,bx,bz] 52,.box cs [No d.2.1,No d.2.2] 28,.box cr [No d.1.1.1,bt,No d.1.2.1.1,bu,bv] 52,.box b1 [No a2.f.1,au,AcB a2.f.2.2.1,av,No a2.f.2.2.2.2.1,No a2.f.2.2.2.2.2.1,aw] 26] wr fun Oz=>AJ (.pair .st (.vec AjW)) (gz H w wr Oz) bw (b.1.1.2)/\AJ AjU (gz H w wr Oz) bx (b.1.2.1.2)/\AJ AjV (gz H w wr Oz) bz (b.1.2.2)/\AJ (.pair .st (.vec AjW)) (gz H w wr Oz) bt (d.1.1.2)/\AJ AjU (gz H w wr Oz) bu (d.1.2.1.2)/\AJ AjV (gz H w wr Oz) bv (d.1.2.2)/\(Dl a2 a3 d b) aq=some r) ?_ ?_
 ·have e:=az.rG H;refine As<|Ai (Ae Z Aje Z CO.e)<|Ai (Ag 2 Z az Z)<|Aq 2 Z<|IN 70 h ?_ ?_<;>intro aj h
  ·iterate 3 refine Au aj ?_
   refine Ai (AK aj Z)<|AL ?_;have o:=o.mono (Aa (ac.trans (ad.trans (ae.trans af))));have p:=p.mono (Aa (ac.trans (ad.trans (ae.trans af))));have q:=q.mono (Aa (ac.trans (ad.trans (ae.trans af))));have j:=j.trans (Aa ((Ak (i:=2) Z).trans (b0.trans (y.trans (z.trans (aa.trans ab))))));have s:=s.mono (Aa (y.trans (z.trans (aa.trans ab))));have u:=u.mono (Aa (y.trans (z.trans (aa.trans ab))));have x:=x.mono (Aa (y.trans (z.trans (aa.trans ab))));refine AA _ ⟨az,(s.mono e),(u.mono e),(x.mono e),((o.mono j).mono e),((p.mono j).mono e),((q.mono j).mono e),h⟩
  refine Ab aj<|Ai (Ae Z Aje Z CO.e)<|Ab aj<|Ai (Ag 0 Z az Z)<|Ab aj<|Ai (Am Z)<|Ai (AS aj Z)<|AL ?_;have o:=o.mono (Aa (ac.trans (ad.trans (ae.trans af))));have p:=p.mono (Aa (ac.trans (ad.trans (ae.trans af))));have q:=q.mono (Aa (ac.trans (ad.trans (ae.trans af))));have j:=j.trans (Aa ((Ak (i:=2) Z).trans (b0.trans (y.trans (z.trans (aa.trans ab))))));have s:=s.mono (Aa (y.trans (z.trans (aa.trans ab))));have u:=u.mono (Aa (y.trans (z.trans (aa.trans ab))));have x:=x.mono (Aa (y.trans (z.trans (aa.trans ab))));refine AA _ ⟨az,(s.mono e),(u.mono e),(x.mono e),((o.mono j).mono e),((p.mono j).mono e),((q.mono j).mono e),h⟩
 rintro aq et ⟨c,a9,ba,bb,bi,bj,bk,h⟩;refine B3 h ?_ ?_<;>intro ds h
 ·have k:=c.rG H;refine Aj<|Ai (Ae Z Aje Z CO.e)<|Ai (Ag 2 Z c Z)<|Aq 2 Z<|CE 78 h ?_ ?_<;>intro ak h
  ·iterate 3 refine Au ak ?_
   refine Ai (AK ak Z)<|Aq 1 Z<|Ab Z<|Ai (Ae Z Aje Z CO.e)<|Ab Z<|Ai (Ag 0 Z c Z)<|Ab Z<|Ai (Am Z)<|Ab Z<|Ai (Am Z)<|CE 87 h ?_ ?_<;>intro al h
   ·iterate 3 refine Au al ?_
    refine Ab Z<|Ai (AK al Z)<|Ai (AK Z Z)<|A7 1 Z<|Ay<|Ao ?_
    cases h
    refine Al Z ⟨c.ext,Z⟩
   refine Ab al<|Ai (A4 1 Z JK.e c Z)<|Ab al<|Aw h fun fl dt h=>AE c (Dj _ _ (An c) (((b.1.1.1,b.1.1.2),(b.1.2.1.1,b.1.2.1.2),b.1.2.2)) (a9.mono k) (ba.mono k) (bb.mono k) dt) fun fm eu du el=>Ab al<|Ai (Am Z)<|Ab Z<|Ai (AS al Z)<|Ai (AK Z Z)<|A7 1 Z<|Ay<|Ao ?_
   cases h
   refine Al Z ⟨du.ext,Z⟩
  refine Ab ak<|Ai (A4 3 Z JK.e c Z)<|Ab ak<|Aw h fun fn dv h=>AE c (Dj _ _ (An c) (((d.1.1.1,d.1.1.2),(d.1.2.1.1,d.1.2.1.2),d.1.2.2)) (bi.mono k) (bj.mono k) (bk.mono k) dv) fun fo ev ar cv=>Ab ak<|Ai (Am Z)<|Ai (AS ak Z)<|Aq 1 Z<|CE 83 h ?_ ?_<;>intro g h
  ·refine Ab g<|Ai (Ae Z Aje Z CO.e)<|Ab g<|Ai (Ag 0 Z ar Z)<|Ab g<|Ai (Am Z)<|Ab g<|Ai (Am Z)<|CE 87 h ?_ ?_<;>intro am h
   ·iterate 3 refine Au am ?_
    refine Ab g<|Ai (AK am Z)<|Ai (AK g Z)<|A7 1 Z<|Ay<|Ao ?_
    cases h
    refine Al Z ⟨ar.ext,Z⟩
   refine Ab am<|Ai (A4 1 Z JK.e ar Z)<|Ab am<|Aw h fun fp dw h=>?_;have k:=k.trans (Aa cv);refine AE ar (Dj _ _ (An ar) (((b.1.1.1,b.1.1.2),(b.1.2.1.1,b.1.2.1.2),b.1.2.2)) (a9.mono k) (ba.mono k) (bb.mono k) dw) fun fq ew dx em=>Ab am<|Ai (Am Z)<|Ab g<|Ai (AS am Z)<|Ai (AK g Z)<|A7 1 Z<|Ay<|Ao ?_
   cases h
   refine Al Z ⟨dx.ext,Z⟩
  iterate 4 refine Au g ?_
  iterate 3 refine Of ?_
  refine Au g<|Ai (AS g Z)<|A7 1 Z<|Ay<|Ao ?_
  cases h
  refine Al Z ⟨ar.ext,Z⟩
 refine Av<|Ar ?_;have ag:=c.rG H;refine Aj<|Ai (A4 3 Z JK.e c Z)<|Ai (A4 4 Z B7.e c Z)<|Aq 1 Z<|Aw h fun fr dy h=>Bh c (Ib _ _ (An c) (hU.mono  Ah) (((d.1.1.1,d.1.1.2),(d.1.2.1.1,d.1.2.1.2),d.1.2.2)) a2 (bi.mono ag) (bj.mono ag) (bk.mono ag) (cl.mono  Ah) (cm.mono  Ah) (cn.mono  Ah) (bl.mono  Ah) dy) ?_;rintro _ fs ⟨en,rfl,ci⟩ dz d0 cw;have bc:=ci.Dn hH c dz;refine Aq 3 Z<|A9 AF.e Z d0 fun ft fu d1 b2 _=>Aq 1 Z<|Af 0 Z d1 Z fun fv a4 b3=>Ac<|Aj<|Ai (A4 2 Z JK.e a4 Z)<|Ai (A4 5 Z B7.e a4 Z)<|Aq 1 Z<|Aw h fun fw d2 h=>?_;have ag:=ag.trans (Aa (cw.trans (b2.trans b3)))
 refine Bh a4 (Ib _ _ (An a4) (hU.mono  Ah) (((b.1.1.1,b.1.1.2),(b.1.2.1.1,b.1.2.1.2),b.1.2.2)) a2 (a9.mono ag) (ba.mono ag) (bb.mono ag) (cl.mono  Ah) (cm.mono  Ah) (cn.mono  Ah) (bl.mono  Ah) d2) ?_;rintro _ fx ⟨eo,rfl,cj⟩ d3 d4 cx;have bd:=cj.Dn hH a4 d3;refine Aq 3 Z<|A9 AF.e Z d4 fun fy fz d5 b4 _=>Aq 1 Z<|Af 0 Z d5 Z fun f0 a5 b5=>Ac<|Aj<|Ai (A4 1 Z AF.e a5 Z)<|Ai (A4 0 Z AF.e a5 Z)<|Ai (AaK Jg (MR _ _ _ _))<|Aq 1 Z<|CE 110 h ?_ ?_<;>intro an h
 ·refine Ab an<|Ai (Am Z)<|Ab an<|Ai (Am Z)<|Ab an<|Aw h fun f1 d6 h=>?_;have bc:=bc.mono (Aa (b2.trans (b3.trans (cx.trans (b4.trans b5)))));have bd:=bd.mono (Aa (b4.trans b5));refine AE a5 (Su _ _ (An a5) bc bd d6) fun f2 ex d7 ep=>Ai (AK an Z)<|A7 1 Z<|Ay ?_
  cases h
  refine Al Z ⟨d7.ext,Z⟩
 iterate 3 refine Au an ?_
 refine Ai (AS an Z)<|A7 1 Z<|Ay ?_
 cases h
 refine Al Z ⟨a5.ext,Z⟩
end
end Go.Proofs.YtekmbcbgknmhiaaGreatDoor
end
noncomputable section
namespace Go.L
open Go
theorem Afd{f g:Qv->Nat->Bool}{i:Nat}(h:∀ q,f q i=g q i):∀ (d:Nat) (q:Qv),IE f d q i=IE g d q i
 | 0,_=>rfl
 | d+1,q=>by
  rw [Ahu,Ahu,h q];simp only [Afd h d]
theorem Aio{n:Nat}{f g v:Nat->Bool}(h:∀ i,i<n->v i=true->f i=g i):its n f v=its n g v:=by
 unfold its;rw [List.filter_congr fun i hi=>?_]
 by_cases hv:v i=true
 ·rw [h i (QzX.1 hi) hv]
 ·rw [Bool.not_eq_true] at hv;rw [hv,Bool.and_false,Bool.and_false]
def mix{α:Type}[Inhabited α](l o:List α)(vis:List Bool)(n:Nat):List α:=(Qzv n).map fun i=>if vis.getD i Qq2 then l.getD i Qq2 else o.getD i Qq2
theorem Yl{α:Type}[Inhabited α](l o:List α)(vis:List Bool)(n:Nat):(mix l o vis n).length=n:=by simp [mix]
theorem AgU{α:Type}[Inhabited α]{l o:List α}{vis:List Bool}{n i:Nat}(h:i<n):(mix l o vis n).getD i Qq2=if vis.getD i Qq2 then l.getD i Qq2 else o.getD i Qq2:=by
 unfold mix;rw [Qq9,List.getElem?_map,List.getElem?_range h]
 rfl
theorem Afe{α:Type}[Inhabited α](l o:List α)(vis:List Bool)(n:Nat):mix l o vis (n+1)=mix l o vis n++[if vis.getD n Qq2 then l.getD n Qq2 else o.getD n Qq2]:=by
 unfold mix;rw [List.range_succ,List.map_append]
 rfl
theorem Ah2{α:Type}[Inhabited α]{l:List α}{i:Nat}(h:i<l.length):l.getD i Qq2∈l:=by
 rw [Qq9,Qzj h];exact Qz9 h
end Go.L
namespace Go.Proofs.YtekmbcbgknmhiaaGreatDoor
open Go Go.L
theorem Aff(l:List Int)(h:l.length<=1000000):My l l=some true:=by
 unfold My Nv;rw [if_pos Z];refine DJ (fun i=>(i:Int)) l.length (fun i hi=>?_) ?_ 0 (hi:=(by omega))
 ·unfold J4;rw [if_pos U,Ad U,Ad U,if_pos Z,Ad (by unfold Bz;omega)]
  rfl
 ·unfold J4 L9;rw [if_neg U]
theorem Afg{l o:List (List UInt8×Pv)}{q:Qv}{vis:List Bool}(hn:l.length<=1048576)(ho:l.length<=o.length)(hv:vis.length=l.length):HP l o q vis ([],0)=FH l q vis (mix l o vis l.length):=by
 unfold HP;refine DJ (fun i=>(mix l o vis i,(i:Int))) l.length (fun i hi=>?_) ?_ 0
 ·unfold Fe;simp only;rw [if_pos U,Ad U,Int.toNat_natCast,Afe]
  by_cases h:vis.getD i Qq2=true
  ·rw [if_pos h,if_pos h,Ad U,Ad (by unfold Go.E.H7;simp only [Yl,Qzw,Qzd];omega),Ad (by unfold Bz;omega)]
   rfl
  ·rw [if_neg h,if_neg h,Ad U,Ad (by unfold Go.E.H7;simp only [Yl,Qzw,Qzd];omega),Ad (by unfold Bz;omega)]
   rfl
 ·unfold Fe;simp only;rw [if_neg U]
theorem ZB{q:Qv}{vis:List Bool}{x y:LIB×(Int×Int)}(hx:x.2.1=0\/x.1=OA)(hy:y.2.1=0\/y.1=OA):Dl q vis x y true=some true:=by
 unfold Dl
 have a:BE ((OA.1.1,OA.1.2),(OA.2.1.1,OA.2.1.2),OA.2.2)=some 0:=by
  unfold BE OA
  rfl
 rw [if_pos Z]
 by_cases b:x.2.1=0
 ·rw [if_pos b]
  by_cases h2:y.2.1=0
  ·rw [if_pos h2]
  ·rw [if_neg h2,hy.resolve_left h2,a]
   rfl
 ·rw [if_neg b,hx.resolve_left b,a,Qq6,if_pos Z]
  by_cases h2:y.2.1=0
  ·rw [if_pos h2]
  ·rw [if_neg h2,hy.resolve_left h2,a]
   rfl
theorem AcA{l o:List (List UInt8×Pv)}(hn:l.length<=1048576)(hs:∀ d∈l,Sd d)(hso:∀ d∈o,Sd d){q:Qv}(hq:Sq q){vis:List Bool}:Jf l o q vis=some true:=by
 unfold Jf;rw [Ac9];simp only [Qq6,Bool.not_true,Bool.false_eq_true,if_false]
 by_cases b:(o.length:Int)<(l.length:Int)
 ·rw [if_pos b]
 rw [if_neg b]
 by_cases h2:(vis.length:Int)=(l.length:Int)
 ·rw [if_pos h2];unfold HQ;rw [Afg hn U U]
  have hmx:∀ d∈mix l o vis l.length,Sd d:=fun d hd=>by
   obtain⟨i,hi,rfl⟩:=List.mem_map.1 hd;have hi:=QzX.1 hi
   split
   ·exact hs _ (Ah2 hi)
   ·exact hso _ (Ah2 U)
  obtain⟨⟨L,e⟩,hb,hr⟩:=TT hs;obtain⟨⟨L',e'⟩,hb',hr'⟩:=TT hmx;unfold FH;rw [hb,Qq6,hb',Qq6];simp only at hr hr' ⊢
  by_cases he:e.1=0
  ·rw [if_pos he]
   by_cases he':e'.1=0
   ·rw [decide_eq_true he']
    rcases hr with ⟨_,hl,ht,hv,rfl⟩ | ⟨a,_⟩
    rotate_left
    ·exact absurd he a
    rcases hr' with ⟨_,hl',ht',hv',rfl⟩ | ⟨a,_⟩
    rotate_left
    ·exact absurd he' a
    have f1:=Afa hl hs ht hv;have f2:=Afa hl' hmx ht' hv';have g:(NW l).2.2.length=l.length:=Qzk ..;have k:(NW (mix l o vis l.length)).2.2.length=l.length:=(Qzk ..).trans (Yl ..);unfold Dl;rw [if_neg Qqd]
    show Qq4 (Cv (NW l) q vis) (fun x=>Qq4 (Cv (NW (mix l o vis l.length)) q vis) _)=_
    have c:(NW l).2.2.length<=64:=by omega
    have f:(NW (mix l o vis l.length)).2.2.length<=64:=by omega
    rw [Abr c f1 hq,Qq6,Abr f f2 hq,Qq6,g,k]
    have hr:Aao l.length (lfb (mix l o vis l.length)) vis q=Aao l.length (lfb l) vis q:=by
     unfold Aao
     have:its l.length (IE (lfb (mix l o vis l.length)) 8 q) (fun j=>vis.getD j Qq2)=its l.length (IE (lfb l) 8 q) fun j=>vis.getD j Qq2:=Aio fun i hi hv=>Afd (fun q=>by
      unfold lfb;rw [AgU hi,if_pos hv]) 8 q
     rw [this]
    rw [hr,if_pos ⟨Z,Z⟩]
    have hlen:(Aao l.length (lfb l) vis q).1.length<=1000000:=by
     unfold Aao
     split
     ·split
      ·have:=Aia l.length (IE (lfb l) 8 q) fun j=>vis.getD j Qq2;simp only;omega
      ·simp
     ·simp
    rw [Aff _ hlen]
    rfl
   ·rw [decide_eq_false he'];exact ZB (.inl he) (.inr (hr'.resolve_left fun h=>he' h.1).2)
  ·rw [if_neg he];exact ZB (.inr (hr.resolve_left fun h=>he h.1).2) (hr'.imp (fun h=>h.1) fun h=>h.2)
 ·rw [if_neg h2]
end Go.Proofs.YtekmbcbgknmhiaaGreatDoor
end
noncomputable section
namespace Go.E
open Go Go.RowKit Go.ChangeShapes Go.WideShapes
section
variable {H:Type} {enc:TypeId×Value->H} {P:Program} {w:World} {base:Nat} {spare:Nat->Bool} {held:Bool}
theorem wf_u8{n:Int}(h:(Lit.int .u8 n).wf=true):0<=n/\n<=255:=by
 simpa [Lit.wf,IntKind.min,IntKind.max,IntKind.signed,IntKind.bits] using h
theorem wf_i64{n:Int}(h:(Lit.int .i64 n).wf=true): -9223372036854775808<=n/\n<=9223372036854775807:=by
 simpa [Lit.wf,IntKind.min,IntKind.max,IntKind.signed,IntKind.bits] using h
theorem RC(hl:laidOutB P=true){W W':World}(hb:Below W.heap.size W W'):∀ {ts:List TypeId} {vs:List Value} {ds:List (DataW H)} {ps:List MemPlace},(∀ t∈ts,P.readableRec t=true/\t<P.types.size)->
  DataW.TrodAll enc P W 0 (fun _=>true) true ts vs ds ps->(∀ x∈ps,x.block<W.heap.size)->DataW.TrodAll enc P W' 0 (fun b=>decide (b<W.heap.size)) true ts vs ds ps
 | [],[],[],ps,_,h,_=>h
 | t::ts,v::vs,d::ds,ps,ht,h,hlt=>by
  obtain⟨p,q,c,h2,rfl⟩:=h;have a:=ht t (.head _);exact⟨p,q,Below.trod hl a.1 a.2 c hb (fun x hx=>hlt x (QzQ.2 (.inl hx))),RC hl hb (fun t' h'=>ht t' (.tail _ h')) h2 (fun x hx=>hlt x (QzQ.2 (.inr hx))),Z⟩
 | [],[],_::_,_,_,h,_=>by cases h
 | [],_::_,_,_,_,h,_=>by cases h
 | _::_,[],_,_,_,h,_=>by cases h
 | _::_,_::_,[],_,_,h,_=>by cases h
end
end Go.E
namespace Go.E
open Go Go.RowKit Go.ChangeShapes Go.WideShapes Go.Deep
def Reads(P:Program)(t:TypeId){α:Type}(r:Rp α)(ok:α->Prop):Prop:=
 ∀
  {H:Type} {enc:TypeId×Value->H} {w:World} {base:Nat} {spare:Nat->Bool} {held:Bool} {fuel:Nat} {cs:List Value} {x:DataW H×List MemPlace},
  DataW.trod enc P w base spare held fuel t cs=some x->∃ a,r.rel (hp w) a cs/\ok a
section
variable {P:Program} {t e:TypeId}
theorem Pk(ht:P.underlying t=some (.int .i64)):Reads P t (.int .i64) (fun n=>Go.L.Bz n):=fun h=>by
 obtain⟨n,rfl,_,hw⟩:=DataW.trod_int ht h;exact⟨n,Z,wf_i64 hw⟩
theorem RV(ht:P.underlying t=some (.int .u8)):Reads P t .byte (fun _=>True):=fun h=>by
 obtain⟨n,rfl,_,hw⟩:=DataW.trod_int ht h;have hw':=wf_u8 hw;refine⟨Go.L.u8 n,?_,trivial⟩
 show[_]=[_]
 rw [Go.L.Y5,Int.emod_eq_of_lt U U]
theorem Aa5(ht:P.underlying t=some .bool):Reads P t .bool (fun _=>True):=fun h=>by
 obtain⟨n,rfl,_⟩:=DataW.trod_bool ht h;exact⟨n,Z,trivial⟩
theorem ZC[Dr]{α:Type}{r:Rp α}{ok:α->Prop}(ht:P.underlying t=some (.slice e))(hc:P.cellsOf e=r.sz)(hsz:0<r.sz)(hr:Reads P e r ok):Reads P t (.vec r) (fun l=>l.length<=9223372036854775807/\∀ x∈l,ok x):=fun {H enc w base spare held fuel cs x} h=>by
 rcases open_slice ht h with ⟨rfl,_⟩ | ⟨a,len,cap,m,n,D,Pl,rfl,hb,hl,hm,rfl,_,hel⟩
 ·exact⟨[],⟨_,Z,AJ.nil _ _⟩,by simp,by simp⟩
 ·have q:len<=(if spare a.block then cap else len):=by split <;> omega
  have hx:∀ i,i<len->∃ y,ok y/\∃ c,r.rel (hp w) y c/\w.cells? base (a.add (i * r.sz)) r.sz=some c:=fun i hi=>by
   obtain⟨cs',f,h2⟩:=hel i U;obtain⟨y,h3,b⟩:=hr h2;rw [hc] at f;exact⟨y,b,cs',h3,f⟩
  have key:∀ k,k<=len->∃ l:List α,l.length=k/\(∀ x∈l,ok x)/\∀ i y,l[i]? = some y->∃ c,r.rel (hp w) y c/\w.cells? base (a.add (i * r.sz)) r.sz=some c:=by
   intro k
   induction k with
   | zero=>intro _;exact⟨[],Z,by simp,by simp⟩
   | succ k ih=>
    intro hk;obtain⟨l,f,h2,h3⟩:=ih U;obtain⟨y,b,c,d,p⟩:=hx k U;refine⟨l++[y],by simp [f],fun z hz=>?_,fun i z hz=>?_⟩
    ·rcases QzQ.1 hz with hz | hz
     ·exact h2 z hz
     ·simp at hz;subst hz;exact b
    ·rcases Qxx i l.length with hi | hi
     ·rw [QkZ hi] at hz;exact h3 i z hz
     ·rw [Qk6 hi] at hz
      have g:i - l.length=0:=by
       have:=(QzD.1 hz).1;simp at this;omega
      rw [g] at hz;simp at hz;subst hz;obtain rfl:i=k:=by omega
      exact⟨c,d,p⟩
  obtain⟨l,f,h2,h3⟩:=key len (Qzx _);have hlm:len<=9223372036854775807:=by unfold maxLen at hm;omega
  refine⟨l,⟨_,Z,some a,cap,by rw [f],by omega,hm,(fun h=>by cases h),fun A hA hne=>?_⟩,by omega,h2⟩
  cases hA
  have cell:∀ i y,l[i]? = some y->∃ c,r.rel (hp w) y c/\∀ j u,c[j]? = some u->w.cell? ((a.add (i * r.sz)).add j)=some u:=fun i y hy=>by
   obtain⟨c,b,d⟩:=h3 i y hy;obtain⟨_,hlen,hcell⟩:=World.cells?_some d;exact⟨c,b,fun j u hu=>by rw [<- hu];exact hcell j (by rw [<- hlen];exact(QzD.1 hu).1)⟩
  have hspot:a.spot=none:=by
   obtain⟨y,l',rfl⟩:=Qk2 hne;obtain⟨c,b,d⟩:=cell 0 y Z;have o:0<c.length:=by rw [r.len b];omega
   have:=World.cell?_spot (d 0 _ (Qzj o))
   simpa [Addr.add] using this
  refine⟨hspot,fun i y hy=>?_⟩;obtain⟨c,b,d⟩:=cell i y hy;refine⟨c,b,fun j u hu=>?_⟩;rw [<- Kj hspot];exact d j u hu
end
end Go.E
end
noncomputable section
namespace Go.Proofs.YtekmbcbgknmhiaaGreatDoor.Mo
open Go Go.E
theorem one_le{H:Type}(d:DataW H):1<=Rows.uptoBulk d:=by
 cases d with
 | lit l=>cases l <;> simp [Rows.uptoBulk]
 | nil=>simp [Rows.uptoBulk]
 | ptr d=>simp [Rows.uptoBulk]
 | slice elems spare=>simp [Rows.uptoBulk]
 | agg parts=>simp [Rows.uptoBulk]
 | iface t d=>simp [Rows.uptoBulk]
 | map entries=>simp [Rows.uptoBulk]
 | held h=>simp [Rows.uptoBulk]
theorem length_le{H:Type}(l:List (DataW H)):l.length<=Rows.uptoBulkAll l:=by
 induction l with
 | nil=>simp [Rows.uptoBulkAll]
 | cons x r ih=>have:=one_le x;simp only [Rows.uptoBulkAll,Qzw];omega
theorem bound{H:Type}{l:List (DataW H)}(hk:Rows.uptoSmall H l=true):Rows.uptoBulkAll l<=1048576:=of_decide_eq_true hk
theorem Aa6{H:Type}{enc:TypeId×Value->H}{P:Program}{w:World}{base:Nat}{spare:Nat->Bool}{held:Bool}{fuel:Nat}{t e:TypeId}{b:Option Addr}{len cap:Nat}{x:DataW H×List MemPlace}
  (ht:P.underlying t=some (.slice e)) (h:DataW.trod enc P w base spare held fuel t [.slice b len cap]=some x):len+1<=Rows.uptoBulk x.1:=by
 rcases Deep.open_slice ht h with ⟨c,rfl⟩ | ⟨a,len',cap',m,n,D,Pl,c,_,_,_,_,rfl,_⟩
 ·simp only [List.cons.injEq,Value.slice.injEq,and_true] at c;obtain⟨_,rfl,_⟩:=c;exact Qzx _
 ·simp only [List.cons.injEq,Value.slice.injEq,and_true] at c;obtain⟨_,rfl,_⟩:=c;have h2:=length_le ((Qzv len).map D);rw [Qzk,QxQ] at h2;simp only [Rows.uptoBulk];omega
theorem AgV{α:Type}{r:Rp α}{H:PH}{b:Option Addr}{len cap:Nat}{l:List α}(h:AJ r H (.slice b len cap) l):l.length=len:=by
 obtain⟨_,_,a,_⟩:=h.ex;simp only [Value.slice.injEq] at a;exact a.2.1.symm
end Go.Proofs.YtekmbcbgknmhiaaGreatDoor.Mo
namespace Go.Proofs.YtekmbcbgknmhiaaGreatDoor.Mo
open Go Go.E Go.RowKit Go.ChangeShapes Go.WideShapes Go.Deep Go.L
theorem U3{H:Type}{l:List (DataW H)}{x:DataW H}(h:x∈l):Rows.uptoBulk x<=Rows.uptoBulkAll l:=by
 induction l with
 | nil=>cases h
 | cons y l ih=>
  simp only [Rows.uptoBulkAll]
  rcases List.mem_cons.1 h with rfl | h
  ·omega
  ·have:=ih h;omega
def RB(P:Program)(t:TypeId){α:Type}(r:Rp α)(ok:α->Prop)(k:Nat):Prop:=
 ∀
  {H:Type} {enc:TypeId×Value->H} {w:World} {base:Nat} {spare:Nat->Bool} {held:Bool} {fuel:Nat} {cs:List Value} {x:DataW H×List MemPlace},
  Rows.uptoBulk x.1<=k->DataW.trod enc P w base spare held fuel t cs=some x->∃ a,r.rel (hp w) a cs/\ok a
section
variable {P:Program} {t e:TypeId} {k:Nat}
theorem RB.use{α:Type}{r:Rp α}{ok:α->Prop}(h:RB P t r ok k){H:Type}{enc:TypeId×Value->H}{w:World}{base:Nat}{spare:Nat->Bool}{held:Bool}{fuel:Nat}{cs:List Value}{d:DataW H}{p:List MemPlace}
  (hk:Rows.uptoBulk d<=k) (hx:DataW.trod enc P w base spare held fuel t cs=some (d,p)):∃ a,r.rel (hp w) a cs/\ok a:=@h H enc w base spare held fuel cs (d,p) hk hx
theorem TU{α:Type}{r:Rp α}{ok:α->Prop}(h:Reads P t r ok):RB P t r ok k:=fun _ hx=>h hx
theorem Aa7(ht:P.underlying t=some .string):RB P t .st (fun l=>l.length<=k) k:=fun hk h=>by
 obtain⟨s,rfl,rfl,hs⟩:=DataW.trod_string ht h;simp only [Rows.uptoBulk] at hk;exact⟨s.data.toList,by show[_]=[_];simp,by omega⟩
theorem Mg{α:Type}{r:Rp α}{ok:α->Prop}(ht:P.underlying t=some (.slice e))(hc:P.cellsOf e=r.sz)(hsz:0<r.sz)(hr:RB P e r ok k):RB P t (.vec r) (fun l=>l.length<=k/\∀ x∈l,ok x) k:=fun {H enc w base spare held fuel cs x} hk h=>by
 rcases open_slice ht h with ⟨rfl,_⟩ | ⟨a,len,cap,m,n,D,Pl,rfl,hb,hl,hm,rfl,rfl,hel⟩
 ·exact⟨[],⟨_,Z,AJ.nil _ _⟩,by simp,by simp⟩
 ·have s:len<=(if spare a.block then cap else len):=by split <;> omega
  simp only [Rows.uptoBulk] at hk;have hlk:=length_le ((Qzv len).map D);rw [Qzk,QxQ] at hlk
  have hx:∀ i,i<len->∃ y,ok y/\∃ c,r.rel (hp w) y c/\w.cells? base (a.add (i * r.sz)) r.sz=some c:=fun i hi=>by
   obtain⟨cs',g,h2⟩:=hel i U;have hDi:=U3 (QkB (f:=D) (QzX.2 hi));obtain⟨y,h3,b⟩:=hr (x:=(D i,Pl i)) (by show Rows.uptoBulk (D i)<=k;omega) h2;rw [hc] at g;exact⟨y,b,cs',h3,g⟩
  have key:∀ k,k<=len->∃ l:List α,l.length=k/\(∀ x∈l,ok x)/\∀ i y,l[i]? = some y->∃ c,r.rel (hp w) y c/\w.cells? base (a.add (i * r.sz)) r.sz=some c:=by
   intro k
   induction k with
   | zero=>intro _;exact⟨[],Z,by simp,by simp⟩
   | succ k ih=>
    intro hk;obtain⟨l,g,h2,h3⟩:=ih U;obtain⟨y,b,c,d,q⟩:=hx k U;refine⟨l++[y],by simp [g],fun z hz=>?_,fun i z hz=>?_⟩
    ·rcases QzQ.1 hz with hz | hz
     ·exact h2 z hz
     ·simp at hz;subst hz;exact b
    ·rcases Qxx i l.length with hi | hi
     ·rw [QkZ hi] at hz;exact h3 i z hz
     ·rw [Qk6 hi] at hz
      have o:i - l.length=0:=by
       have:=(QzD.1 hz).1;simp at this;omega
      rw [o] at hz;simp at hz;subst hz;obtain rfl:i=k:=by omega
      exact⟨c,d,q⟩
  obtain⟨l,g,h2,h3⟩:=key len (Qzx _);refine⟨l,⟨_,Z,some a,cap,by rw [g],by omega,hm,(fun h=>by cases h),fun A hA hne=>?_⟩,by omega,h2⟩
  cases hA
  have cell:∀ i y,l[i]? = some y->∃ c,r.rel (hp w) y c/\∀ j u,c[j]? = some u->w.cell? ((a.add (i * r.sz)).add j)=some u:=fun i y hy=>by
   obtain⟨c,b,d⟩:=h3 i y hy;obtain⟨_,hlen,hcell⟩:=World.cells?_some d;exact⟨c,b,fun j u hu=>by rw [<- hu];exact hcell j (by rw [<- hlen];exact(QzD.1 hu).1)⟩
  have hspot:a.spot=none:=by
   obtain⟨y,l',rfl⟩:=Qk2 hne;obtain⟨c,b,d⟩:=cell 0 y Z;have p:0<c.length:=by rw [r.len b];omega
   have:=World.cell?_spot (d 0 _ (Qzj p))
   simpa [Addr.add] using this
  refine⟨hspot,fun i y hy=>?_⟩;obtain⟨c,b,d⟩:=cell i y hy;refine⟨c,b,fun j u hu=>?_⟩;rw [<- Kj hspot];exact d j u hu
theorem Afh{f0 f1 f2 f3 f4 f5 f6:Field}{tw tb tp te tg:TypeId}(ht:P.underlying t=some (.struct #[f0,f1,f2,f3,f4,f5,f6]))(hc:P.cellsOf t=7)
  (b:f0.offset=0) (c:f1.offset=1) (e:f2.offset=2) (g:f3.offset=3) (j:f4.offset=4) (l:f5.offset=5) (m:f6.offset=6)
  (o:P.underlying f0.type=some (.int .i64)) (q:f1.type=tw) (s:P.underlying f2.type=some .string) (u:f3.type=tb) (u4:P.underlying f4.type=some (.int .i64)) (u5:P.underlying f5.type=some (.int .i64)) (e6:f6.type=tp)
  (c0:P.cellsOf f0.type=1) (c1:P.cellsOf tw=1) (c2:P.cellsOf f2.type=1) (c3:P.cellsOf tb=1) (c4:P.cellsOf f4.type=1) (c5:P.cellsOf f5.type=1) (c6:P.cellsOf tp=1)
  (uw:P.underlying tw=some (.slice tg)) (ug:P.underlying tg=some .string) (cg:P.cellsOf tg=1) (ub:P.underlying tb=some (.slice te)) (ue:P.underlying te=some (.int .u8)) (ce:P.cellsOf te=1) (up:P.underlying tp=some (.slice t)) (B:Nat) (k:Nat) (hB:k<=B):RB P t .B1 (fun v=>∀ d,Smq B d v) k:=by
 induction k with
 | zero=>
  intro H enc w base spare held fuel cs x hk h;have:=one_le x.1;omega
 | succ k ih0=>
  intro H enc w base spare held fuel cs x hk h;subst q;subst u;subst e6;obtain⟨xs,n,rfl,rfl,hl,hlen,hfs⟩:=DataW.trod_struct ht h;have ih:RB P t .B1 (fun v=>∀ d,Smq B d v) k:=@ih0 U;simp only [Rows.uptoBulk] at hk
  have hb:∀ y∈xs,Rows.uptoBulk y.1<=k:=fun y hy=>by
   have:=U3 (QkB (f:=fun z:DataW H×List MemPlace=>z.1) hy);omega
  have ax:xs.length=7:=by simpa using hlen
  have get:∀ (i:Nat) (f:Field),(#[f0,f1,f2,f3,f4,f5,f6]:Array Field)[i]? = some f->i<7->P.cellsOf f.type=1->f.offset=i->∃ y:DataW H×List MemPlace,Rows.uptoBulk y.1<=k/\DataW.trod enc P w base spare held n f.type ((cs.drop i).take 1)=some y:=fun i f hf hi hcf hof=>by
   have a:=hfs i f hf;rw [hcf,hof,Qzj (by omega:i<xs.length)] at a;exact⟨_,hb _ (Qz9 _),a⟩
  obtain⟨y0,b0,t0⟩:=get 0 f0 Z U c0 b;obtain⟨y1,b1,t1⟩:=get 1 f1 Z U c1 c;obtain⟨y2,b2,t2⟩:=get 2 f2 Z U c2 e;obtain⟨y3,b3,t3⟩:=get 3 f3 Z U c3 g;obtain⟨y4,b4,t4⟩:=get 4 f4 Z U c4 j;obtain⟨y5,b5,t5⟩:=get 5 f5 Z U c5 l;obtain⟨y6,b6,t6⟩:=get 6 f6 Z U c6 m;obtain⟨a0,r0,_⟩:=TU (k:=k) (Pk o) b0 t0;obtain⟨a1,r1,q1,q1'⟩:=Mg uw cg Qqc (Aa7 (k:=k) ug) b1 t1;obtain⟨a2,r2,q2⟩:=Aa7 (k:=k) s b2 t2;obtain⟨a3,r3,q3,_⟩:=Mg ub ce Qqc (TU (k:=k) (RV ue)) b3 t3;obtain⟨a4,r4,q4⟩:=TU (k:=k) (Pk u4) b4 t4;obtain⟨a5,r5,q5⟩:=TU (k:=k) (Pk u5) b5 t5;obtain⟨a6,r6,q6,q6'⟩:=Mg up (r:=.B1) hc Qqc ih b6 t6;refine⟨.mk a0 a1 a2 a3 a4 a5 a6,Rp.Iq ?_,fun d=>?_⟩
  ·have hcs:cs=(cs.drop 0).take 1++((cs.drop 1).take 1++((cs.drop 2).take 1++((cs.drop 3).take 1++((cs.drop 4).take 1++((cs.drop 5).take 1++(cs.drop 6).take 1))))):=by
    have h7:cs.length=7:=by rw [hl,hc]
    match cs,h7 with
    | [_,_,_,_,_,_,_],_=>rfl
   exact⟨_,_,hcs,r0,_,_,Z,r1,_,_,Z,r2,_,_,Z,r3,_,_,Z,r4,_,_,Z,r5,r6⟩
  ·cases d with
   | zero=>exact trivial
   | succ d=>exact⟨by show a1.length<=B;omega,by show a2.length<=B;omega,by show a3.length<=B;omega,by show a6.length<=B;omega,fun x hx=>by have:=q1' x hx;omega,q4,q5,fun p hp=>q6' p hp d⟩
end
end Go.Proofs.YtekmbcbgknmhiaaGreatDoor.Mo
end
noncomputable section
namespace Go.Proofs.YtekmbcbgknmhiaaGreatDoor.Mo
open Go Go.E Go.RowKit Go.ChangeShapes Go.WideShapes Go.Deep Go.L
section
variable {P:Program} {t e:TypeId} {k:Nat}
theorem AbA{f0 f1 f2 f3 f4:Field}{tb ts tp te:TypeId}(ht:P.underlying t=some (.struct #[f0,f1,f2,f3,f4]))(hc:P.cellsOf t=5)
  (b:f0.offset=0) (c:f1.offset=1) (e:f2.offset=2) (g:f3.offset=3) (j:f4.offset=4)
  (l:P.underlying f0.type=some (.int .i64)) (m:P.underlying f1.type=some (.int .i64)) (o:f2.type=tb) (q:f3.type=ts) (s:f4.type=tp)
  (u:P.cellsOf f0.type=1) (c1:P.cellsOf f1.type=1) (c2:P.cellsOf tb=1) (c3:P.cellsOf ts=1) (c4:P.cellsOf tp=1)
  (ub:P.underlying tb=some (.slice te)) (ue:P.underlying te=some (.int .u8)) (ce:P.cellsOf te=1) {tg:TypeId} (us:P.underlying ts=some (.slice tg)) (ug:P.underlying tg=some .string) (cg:P.cellsOf tg=1) (up:P.underlying tp=some (.slice t)) (B:Nat) (k:Nat) (hB:k<=B):RB P t .tree (fun v=>∀ d,Sm B d v) k:=by
 induction k with
 | zero=>
  intro H enc w base spare held fuel cs x hk h;have:=one_le x.1;omega
 | succ k ih0=>
  intro H enc w base spare held fuel cs x hk h;subst o;subst q;subst s;obtain⟨xs,n,rfl,rfl,hl,hlen,hfs⟩:=DataW.trod_struct ht h;have ih:RB P t .tree (fun v=>∀ d,Sm B d v) k:=@ih0 U;simp only [Rows.uptoBulk] at hk
  have hb:∀ y∈xs,Rows.uptoBulk y.1<=k:=fun y hy=>by
   have:=U3 (QkB (f:=fun z:DataW H×List MemPlace=>z.1) hy);omega
  have an:xs.length=5:=by simpa using hlen
  have get:∀ (i:Nat) (f:Field),(#[f0,f1,f2,f3,f4]:Array Field)[i]? = some f->i<5->P.cellsOf f.type=1->f.offset=i->∃ y:DataW H×List MemPlace,Rows.uptoBulk y.1<=k/\DataW.trod enc P w base spare held n f.type ((cs.drop i).take 1)=some y:=fun i f hf hi hcf hof=>by
   have a:=hfs i f hf;rw [hcf,hof,Qzj (by omega:i<xs.length)] at a;exact⟨_,hb _ (Qz9 _),a⟩
  obtain⟨y0,b0,t0⟩:=get 0 f0 Z U u b;obtain⟨y1,b1,t1⟩:=get 1 f1 Z U c1 c;obtain⟨y2,b2,t2⟩:=get 2 f2 Z U c2 e;obtain⟨y3,b3,t3⟩:=get 3 f3 Z U c3 g;obtain⟨y4,b4,t4⟩:=get 4 f4 Z U c4 j;obtain⟨a0,r0,q0⟩:=TU (k:=k) (Pk l) b0 t0;obtain⟨a1,r1,q1⟩:=TU (k:=k) (Pk m) b1 t1;obtain⟨a2,r2,q2,_⟩:=Mg ub ce Qqc (TU (k:=k) (RV ue)) b2 t2;obtain⟨a3,r3,q3,q3'⟩:=Mg us cg Qqc (Aa7 (k:=k) ug) b3 t3;obtain⟨a4,r4,q4,q4'⟩:=Mg up (r:=.tree) hc Qqc ih b4 t4;refine⟨.mk a0 a1 a2 a3 a4,Rp.DT ?_,fun d=>?_⟩
  ·have hcs:cs=(cs.drop 0).take 1++((cs.drop 1).take 1++((cs.drop 2).take 1++((cs.drop 3).take 1++(cs.drop 4).take 1))):=by
    have h5:cs.length=5:=by rw [hl,hc]
    match cs,h5 with
    | [_,_,_,_,_],_=>rfl
   exact⟨_,_,hcs,r0,_,_,Z,r1,_,_,Z,r2,_,_,Z,r3,r4⟩
  ·cases d with
   | zero=>exact trivial
   | succ d=>exact⟨by show a2.length<=B;omega,by show a3.length<=B;omega,by show a4.length<=B;omega,fun x hx=>by have:=q3' x hx;omega,q0,q1,fun p hp=>q4' p hp d⟩
theorem Afi{f0 f1:Field}{tb tv te:TypeId}{ok:Pv->Prop}(ht:P.underlying t=some (.struct #[f0,f1]))(hc:P.cellsOf t=6)(c:f0.offset=0)(e:f1.offset=1)(g:f0.type=tb)(i:f1.type=tv)(j:P.cellsOf tb=1)(c1:P.cellsOf tv=5)
  (ub:P.underlying tb=some (.slice te)) (ue:P.underlying te=some (.int .u8)) (ce:P.cellsOf te=1) (hv:RB P tv .tree ok k):RB P t (.pair (.vec .byte) .tree) (fun d=>d.1.length<=k/\ok d.2) k:=fun {H enc w base spare held fuel cs x} hk h=>by
 subst g;subst i;obtain⟨xs,n,rfl,rfl,hl,hlen,hfs⟩:=DataW.trod_struct ht h;simp only [Rows.uptoBulk] at hk
 have hb:∀ y∈xs,Rows.uptoBulk y.1<=k:=fun y hy=>by
  have:=U3 (QkB (f:=fun z:DataW H×List MemPlace=>z.1) hy);omega
 have p:xs.length=2:=by simpa using hlen
 have a:=hfs 0 f0 Z;have b:=hfs 1 f1 Z;rw [j,c,Qzj (by omega:0<xs.length)] at a;rw [c1,e,Qzj (by omega:1<xs.length)] at b;obtain⟨a0,r0,l,_⟩:=Mg ub ce Qqc (TU (k:=k) (RV ue)) (hb _ (Qz9 _)) a;obtain⟨a1,r1,m⟩:=hv (hb _ (Qz9 _)) b;refine⟨(a0,a1),⟨(cs.drop 0).take 1,(cs.drop 1).take 5,?_,r0,r1⟩,l,m⟩;have o:cs.length=6:=by rw [hl,hc]
 match cs,o with
 | [_,_,_,_,_,_],_=>rfl
end
end Go.Proofs.YtekmbcbgknmhiaaGreatDoor.Mo
end
noncomputable section
namespace Go.Proofs.YtekmbcbgknmhiaaGreatDoor
open Go Go.E Go.Shelf Go.Lib
def u8ren:Ren:=⟨fun n=>n,fun | 119=>349 | 138=>351 | 139=>352 | n=>n,fun | 3=>4 | 4=>5 | n=>n⟩
theorem u8types:U8Types Tryz.prog u8ren:=⟨Tryz.underlying5,Tryz.underlying349,Tryz.underlying351,Tryz.underlying352⟩
def laidU : List (String × DataW Unit) := [("math/bits.deBruijn32tab", Rows.laid_math_bits_deBruijn32tab), ("math/bits.deBruijn64tab", Rows.laid_math_bits_deBruijn64tab), ("internal/strconv.uint64pow10", Rows.laid_internal_strconv_uint64pow10), ("unicode/utf8.acceptRanges", Rows.laid_unicode_utf8_acceptRanges), ("strconv.ErrRange", Rows.laid_strconv_ErrRange), ("strconv.ErrSyntax", Rows.laid_strconv_ErrSyntax), ("unicode/utf8.first", Rows.laid_unicode_utf8_first)]
theorem star : "*" ++ "errors.errorString" = "*errors.errorString" := by decide
theorem row364 (u : TypeId) (h : Tryz.prog.typeName? 3 u = some "*errors.errorString") : u = 364 :=
 typeName_ptr_named (nm := "errors.errorString") (by rw [star]; kernel_rfl) (by kernel_rfl) (by decide) u (by rw [star]; exact h)
theorem var_le{W w:World}{n:String}{cs:Array Value}(hs:Le (hp W) (hp w))(h:W.var? Tryz.prog n=some cs):w.var? Tryz.prog n=some cs:=by
 unfold World.var? at h ⊢
 cases hg:Tryz.prog.globalNamed n with
 | none=>rw [hg] at h;cases h
 | some g=>
  rw [hg] at h;simp only [Qq6] at h ⊢
  cases ho:W.heap[g]? with
  | none=>rw [ho] at h;cases h
  | some o=>rw [ho] at h;rw [show w.heap[g]? = some o from hs g o ho];exact h
theorem cell_of_var{W:World}{n:String}{g:Nat}{v:Value}(hg:Tryz.prog.globalNamed n=some g)(h:W.var? Tryz.prog n=some #[v]):ID (hp W) ⟨g,0,none⟩=some v:=by
 rw [Ys,World.var?_cell hg h 0]
 rfl
theorem utab_of_laid{W:World}(h:laidMetH Tryz.prog laidU W):Ge (hp W):=by
 rw [MakeChecks.laidMetH_plain _ _ _ Qqb] at h;have i:Rows.laid_unicode_utf8_first=firstData:=by kernel_rfl
 have j:(Rows.laid_unicode_utf8_acceptRanges:DataW Unit)=acceptData:=by kernel_rfl
 have k:(Rows.laid_internal_strconv_uint64pow10:DataW Unit)=tabData .u64 pow10Tab:=by kernel_rfl
 have b := laidMet.reads h (n := "unicode/utf8.acceptRanges") (d := Rows.laid_unicode_utf8_acceptRanges) (by simp [laidU])
 have h2 := laidMet.reads h (n := "unicode/utf8.first") (d := Rows.laid_unicode_utf8_first) (by simp [laidU])
 rw [j] at b;rw [i] at h2;have ht := utf8Tabs_of_readsT u8types ⟨by kernel_rfl, by kernel_rfl, by kernel_rfl, by kernel_rfl, by kernel_rfl, by kernel_rfl, by kernel_rfl⟩ h2 b;have hT : laidMet Tryz.prog (("internal/strconv.uint64pow10", tabData .u64 pow10Tab) :: _) W := k ▸ h.tail.tail
 have a : TabIs Tryz.prog W "internal/strconv.uint64pow10" .u64 pow10Tab := tabIs_of_head (g := 1) (t := 305) (e := 205) (n := 20) (by kernel_rfl) (by kernel_rfl) Tryz.underlying305 Tryz.underlying205 (by kernel_rfl) (by kernel_rfl) hT
 obtain⟨a1,l,c,_⟩:=laid_sentinel (g:=3) h.tail.tail.tail.tail Qqb Qqb Tryz.underlying167 row364 Tryz.underlying364 Tryz.underlying366 Z Z Tryz.underlying9 Qqb Qqb;obtain⟨a2,m,f,_⟩:=laid_sentinel (g:=2) h.tail.tail.tail.tail.tail Qqb Qqb Tryz.underlying167 row364 Tryz.underlying364 Tryz.underlying366 Z Z Tryz.underlying9 Qqb Qqb;exact⟨⟨ht.1,ht.2⟩,fun w hw=>var_le hw a,⟨_,_,cell_of_var Qqb f⟩,⟨_,_,cell_of_var Qqb c⟩⟩
def laidWorld(os:Os):World:=
 let N:=(World.settled Tryz.prog os).heap.size
 let a:=World.holding Tryz.prog os ⟨#[.cells #[.string ⟨#[118,97,108,117,101,32,111,117,116,32,111,102,32,114,97,110,103,101]⟩] 366,.cells #[.string ⟨#[105,110,118,97,108,105,100,32,115,121,110,116,97,120]⟩] 366],#[],[]⟩
 let put (h:Array Obj) (g:Nat) (cs:Array Value):Array Obj:=h.modify g fun
  | .cells _ t frozen=>.cells cs t frozen
  | o=>o
 let b:=put (put a.heap 3 #[.iface 364 (.pointer (some ⟨N,0,none⟩))]) 2 #[.iface 364 (.pointer (some ⟨N+1,0,none⟩))]
 let c:=put (put b 4 (Lib.firstTab.map fun z=>Value.int .u8 z).toArray) 5 ((Qzv 16).flatMap fun i=>[Value.int .u8 (Lib.accLo i),Value.int .u8 (Lib.accHi i)]).toArray
 let h2:=put c 1 (pow10Tab.map (Value.int .u64)).toArray
 let nums (d:DataW Unit):Array Value:=match d with
  | .agg l=>(l.map fun | .lit (.int k z)=>Value.int k z | _=>.int .u8 0).toArray
  | _=>#[]
 let h3:=put (put h2 6 (nums Rows.laid_math_bits_deBruijn32tab)) 7 (nums Rows.laid_math_bits_deBruijn64tab)
 {a with heap:=h3}
set_option maxRecDepth 100000 in
theorem door_met(os:Os)(args:Array Value):laidMetH Tryz.prog laidU ((laidWorld os).forCall (fun _ _=>0) ⟨#[],args,[]⟩).memory:=
 laidMetH_of_parts3 (fuel:=12) (laidMet_of_run' 12 Qqb Qqb) Qqb Qqb
end Go.Proofs.YtekmbcbgknmhiaaGreatDoor
end
