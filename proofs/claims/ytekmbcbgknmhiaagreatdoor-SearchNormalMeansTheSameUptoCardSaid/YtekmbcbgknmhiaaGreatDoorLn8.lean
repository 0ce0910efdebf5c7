/- Texts of a claim, merged. -/
import Derived.Test.YtekmbcbgknmhiaaGreatDoorLn7
import Derived.KernelRfl
import Derived.ProofKit
import Derived.OpenShut
import Derived.Carry
import Derived.Deep.Slices
import Derived.Test.YtekmbcbgknmhiaaGreatDoorRows
import Derived.Lib.LaidU8T
import Derived.Lib.LaidTab
import Derived.Stop.LaidErr
import Derived.LaidMore
import Derived.MakeChecks
import Derived.LaidHandle
open _root_.Go.Proofs.Tryz renaming underlying28→Ajx
open Option renaming bind->Qq4,bind_some->Qq5
open List renaming getElem?_eq_getElem->Qzw,length_map->Qzk,range->Qzv,getElem?_eq_some_iff->QzD,mem_append->QzQ,getElem_mem->Qxj,length_range->QxA,exists_cons_of_ne_nil->QkC,mem_map_of_mem->QkB,getElem?_append_left->QkZ,getElem?_append_right->Qjq
open Nat renaming le_refl->Qzx,lt_or_ge->Qxw
open Bool renaming false_eq_true->QzB
set_option linter.unusedVariables false
set_option linter.unusedSimpArgs false
set_option linter.unusedSectionVars false
noncomputable section
namespace Go.Proofs.YtekmbcbgknmhiaaGreatDoor
open Go Go.E Go.RowKit Go.L
noncomputable section
instance (a b c d):Mi (Rj a b c d):=⟨_,apR _⟩
instance (a b):Mi (WX a b):=⟨_,apR _⟩
instance (a b):Mi (S5 a b):=⟨_,apR _⟩
instance (a):Mi (Vx a):=⟨_,apR _⟩
instance (a):Mi (Aco a):=⟨_,apR _⟩
instance (a):Mi (S4 a):=⟨_,apR _⟩
instance (a):Mi (AiV a):=⟨_,apR _⟩
instance (a0):Mi (Rk a0):=by delta Rk;infer_instance
instance (a0) (a1):Mi (Cn a0 a1):=by delta Cn;infer_instance
instance (a0) (a1):Mi (J2 a0 a1):=by delta J2;infer_instance
instance (a) (b) (c) (d) (e) (f) (g):Mi (C9 a b c d e f g):=by delta C9;infer_instance
instance (a0) (s):Mi (Bh a0 s):=by obtain⟨b,c,d,e,f,g,h,a⟩:=s;delta Bh;dsimp only;infer_instance
instance (a0) (s):Mi (CA a0 s):=by delta CA;infer_instance
instance (a0) (a1_c0):Mi (Cg a0 a1_c0):=by delta Cg;infer_instance
instance (a0) (a1_c0):Mi (AW a0 a1_c0):=by delta AW;infer_instance
instance (a0) (d) (e) (f) (g) (a) (b) (c):Mi (Ct a0 d e f g a b c):=by delta Ct;repeat' first | (show Mi _;infer_instance) | refine @iB _ _ _ _ ?_ (fun _=>?_) | refine @iC _ _ _ _ ?_ | refine @iI _ _ _ _ _ ?_ ?_
instance (a0):Mi (JB a0):=by delta JB;repeat' first | (show Mi _;infer_instance) | refine @iB _ _ _ _ ?_ (fun _=>?_) | refine @iC _ _ _ _ ?_ | refine @iI _ _ _ _ _ ?_ ?_
instance (a0) (a1):Mi (DW a0 a1):=by delta DW;infer_instance
instance (a0):Mi (Ku a0):=by delta Ku;repeat' first | (show Mi _;infer_instance) | refine @iB _ _ _ _ ?_ (fun _=>?_) | refine @iC _ _ _ _ ?_ | refine @iI _ _ _ _ _ ?_ ?_
instance (b) (c) (d) (a):Mi (HH b c d a):=by delta HH;infer_instance
instance (a1) (b) (a) (s):Mi (CM a1 b a s):=by obtain⟨d,c⟩:=s;delta CM;dsimp only;infer_instance
instance (a1) (b) (a) (s):Mi (MB a1 b a s):=by delta MB;infer_instance
instance (a1) (s):Mi (CN a1 s):=by obtain⟨b,a⟩:=s;delta CN;dsimp only;infer_instance
instance (a1) (s):Mi (MC a1 s):=by delta MC;infer_instance
instance (a0) (a1):Mi (KS a0 a1):=by delta KS;infer_instance
instance (l):Mi (Pc l):=by delta Pc;infer_instance
instance (a0):Mi (Kv a0):=by delta Kv;infer_instance
instance (a0):Mi (H9 a0):=by delta H9;infer_instance
instance (a0) (a1):Mi (DJ a0 a1):=by delta DJ;infer_instance
instance (a0) (a1):Mi (strings_Split a0 a1):=by delta strings_Split;infer_instance
instance (a0):Mi (Iw a0):=by delta Iw;infer_instance
instance (a0):Mi (Lu a0):=by delta Lu;infer_instance
instance:Mi (Lb):=by delta Lb;infer_instance
instance (b) (s):Mi (El b s):=by obtain⟨c,a⟩:=s;delta El;dsimp only;repeat' first | (show Mi _;infer_instance) | refine @iB _ _ _ _ ?_ (fun _=>?_) | refine @iC _ _ _ _ ?_ | refine @iI _ _ _ _ _ ?_ ?_
instance (a) (s):Mi (Ns a s):=by delta Ns;infer_instance
instance (a0):Mi (Hu a0):=by delta Hu;infer_instance
instance (a0) (a):Mi (FT a0 a):=by delta FT;infer_instance
instance (a0):Mi (FU a0):=by delta FU;infer_instance
instance (a0) (s):Mi (Eg a0 s):=by delta Eg;infer_instance
instance (a0) (s):Mi (II a0 s):=by delta II;infer_instance
instance (a0):Mi (HI a0):=by delta HI;infer_instance
instance (a):Mi (I1 a):=by delta I1;infer_instance
instance (a0) (a2) (self) [∀ c d e,Mi (self c d e)] (s):Mi (E8 a0 a2 self s):=by obtain⟨b,a⟩:=s;delta E8;dsimp only;infer_instance
instance (a0) (a2) (self) [∀ a b c,Mi (self a b c)] (s):Mi (Kg a0 a2 self s):=by delta Kg;infer_instance
instance (self) [∀ a b c,Mi (self a b c)] (a0) (a1) (a2):Mi (F5 self a0 a1 a2):=by delta F5;infer_instance
instance TK:∀ (n:Nat) (y0) (y1) (y2),Mi (F6 n y0 y1 y2)
 | 0,_,_,_=>⟨none,fun _ h=>by cases h⟩
 | n+1,y0,y1,y2=>by
  haveI:=TK n
  show Mi (F5 (F6 n) y0 y1 y2)
  infer_instance
instance (y0) (y1) (y2):Mi (Mb y0 y1 y2):=by delta Mb;infer_instance
instance (a):Mi (IZ a):=by delta IZ;infer_instance
instance (a0) (s):Mi (E5 a0 s):=by obtain⟨b,a⟩:=s;delta E5;dsimp only;repeat' first | (show Mi _;infer_instance) | refine @iB _ _ _ _ ?_ (fun _=>?_) | refine @iC _ _ _ _ ?_ | refine @iI _ _ _ _ _ ?_ ?_
instance (a0) (s):Mi (Kw a0 s):=by delta Kw;infer_instance
instance (a0):Mi (IC a0):=by delta IC;infer_instance
instance (_self1) (self2) [∀ a b c,Mi (self2 a b c)] (a0):Mi (G1 _self1 self2 a0):=by delta G1;repeat' first | (show Mi _;infer_instance) | refine @iB _ _ _ _ ?_ (fun _=>?_) | refine @iC _ _ _ _ ?_ | refine @iI _ _ _ _ _ ?_ ?_
instance:Mi (De):=by delta De;infer_instance
instance (a0) (a1) (s):Mi (Bc a0 a1 s):=by delta Bc;infer_instance
instance (a0) (a1) (s):Mi (DN a0 a1 s):=by delta DN;infer_instance
instance (a0) (a1):Mi (DX a0 a1):=by delta DX;infer_instance
instance (a0) (a1):Mi (BD a0 a1):=by delta BD;infer_instance
instance (c) (a) (b):Mi (Fg c a b):=by delta Fg;infer_instance
instance (a1) (a):Mi (GU a1 a):=by delta GU;infer_instance
instance (a0) (a1) (a2) (self1) [∀ b,Mi (self1 b)] (s):Mi (Da a0 a1 a2 self1 s):=by obtain⟨c,a⟩:=s;delta Da;dsimp only;infer_instance
instance (a0) (a1) (a2) (self1) [∀ a,Mi (self1 a)] (s):Mi (I2 a0 a1 a2 self1 s):=by delta I2;infer_instance
instance (self1) [∀ a,Mi (self1 a)] (_self2) (a0) (a1) (a2):Mi (F8 self1 _self2 a0 a1 a2):=by delta F8;infer_instance
def IA:(n:Nat)->(∀ a,Mi ((BL n).1 a))×(∀ y0 y1 y2,Mi ((BL n).2 y0 y1 y2))
 | 0=>(fun _=>⟨none,fun _ h=>(by cases h)⟩,fun _ _ _=>⟨none,fun _ h=>(by cases h)⟩)
 | n+1=>(fun a=>by
  haveI:=(IA n).1
  haveI:=(IA n).2
  show Mi (G1 ((BL n).1) ((BL n).2) a)
  infer_instance,fun y0 y1 y2=>by
  haveI:=(IA n).1
  haveI:=(IA n).2
  show Mi (F8 ((BL n).1) ((BL n).2) y0 y1 y2)
  infer_instance)
instance (y0):Mi (Ov y0):=(IA 1000).1 y0
instance (a0):Mi (Hz a0):=by delta Hz;infer_instance
instance (a0) (a1):Mi (Et a0 a1):=by delta Et;infer_instance
instance (a0) (a1):Mi (Eu a0 a1):=by delta Eu;infer_instance
instance (a0) (a1):Mi (JI a0 a1):=by delta JI;infer_instance
instance (a0) (a1):Mi (BP a0 a1):=by delta BP;infer_instance
instance (a1) (y8) (a) (b) (c):Mi (FO a1 y8 a b c):=by delta FO;infer_instance
instance (a1) (a2) (self) [∀ a,Mi (self a)] (y8) (s):Mi (Fm a1 a2 self y8 s):=by obtain⟨b,c,d⟩:=s;delta Fm;dsimp only;infer_instance
instance (a1) (a2) (self) [∀ a,Mi (self a)] (y8) (s):Mi (HY a1 a2 self y8 s):=by delta HY;infer_instance
instance (self) [∀ a,Mi (self a)] (a0) (a1) (a2):Mi (Hd self a0 a1 a2):=by delta Hd;infer_instance
instance (self) [∀ a,Mi (self a)] (a0_0):Mi (Gp self a0_0):=by delta Gp;infer_instance
instance (a1) (y8) (a) (b) (c):Mi (He a1 y8 a b c):=by delta He;infer_instance
instance (a1) (a2) (self) [∀ a,Mi (self a)] (y8) (s):Mi (GD a1 a2 self y8 s):=by obtain⟨b,c,d⟩:=s;delta GD;dsimp only;infer_instance
instance (a1) (a2) (self) [∀ a,Mi (self a)] (y8) (s):Mi (Jg a1 a2 self y8 s):=by delta Jg;infer_instance
instance (self) [∀ a,Mi (self a)] (a0) (a1) (a2):Mi (I8 self a0 a1 a2):=by delta I8;infer_instance
instance (self) [∀ a,Mi (self a)] (a0):Mi (Hs self a0):=by delta Hs;infer_instance
instance (a0) (a1):Mi (I9 a0 a1):=by delta I9;infer_instance
instance:Mi (Ix):=by delta Ix;infer_instance
instance (a0) (s):Mi (CY a0 s):=by delta CY;infer_instance
instance (a0) (s):Mi (GK a0 s):=by delta GK;infer_instance
instance (a0):Mi (CJ a0):=by delta CJ;infer_instance
instance (a1) (a):Mi (Iy a1 a):=by delta Iy;infer_instance
instance (a0) (a1) (a) (s):Mi (Ic a0 a1 a s):=by delta Ic;repeat' first | (show Mi _;infer_instance) | refine @iB _ _ _ _ ?_ (fun _=>?_) | refine @iC _ _ _ _ ?_ | refine @iI _ _ _ _ _ ?_ ?_
instance (a0) (a1) (a) (s):Mi (JR a0 a1 a s):=by delta JR;infer_instance
instance (a0) (a1) (a):Mi (GL a0 a1 a):=by delta GL;infer_instance
instance:Mi (Iz):=by delta Iz;infer_instance
instance (a0) (a1) (s):Mi (Gf a0 a1 s):=by delta Gf;repeat' first | (show Mi _;infer_instance) | refine @iB _ _ _ _ ?_ (fun _=>?_) | refine @iC _ _ _ _ ?_ | refine @iI _ _ _ _ _ ?_ ?_
instance (a0) (a1) (s):Mi (JS a0 a1 s):=by delta JS;infer_instance
instance (a0) (a1):Mi (E3 a0 a1):=by delta E3;infer_instance
instance (a0) (a):Mi (Hr a0 a):=by delta Hr;infer_instance
instance:Mi (IJ):=by delta IJ;infer_instance
instance (a0) (a1) (s):Mi (I7 a0 a1 s):=by delta I7;infer_instance
instance (a0) (a1) (s):Mi (KD a0 a1 s):=by delta KD;infer_instance
instance (a0) (a1):Mi (IK a0 a1):=by delta IK;infer_instance
instance (a0) (a1):Mi (strings_IndexAny a0 a1):=by delta strings_IndexAny;infer_instance
instance (s) (c):Mi (Tc s c):=by delta Tc;infer_instance
instance (a0) (a):Mi (FP a0 a):=by delta FP;infer_instance
instance (a0) (a1):Mi (IL a0 a1):=by delta IL;infer_instance
instance (self) [∀ a,Mi (self a)] (a0):Mi (FQ self a0):=by delta FQ;repeat' first | (show Mi _;infer_instance) | refine @iB _ _ _ _ ?_ (fun _=>?_) | refine @iC _ _ _ _ ?_ | refine @iI _ _ _ _ _ ?_ ?_
instance Qo:∀ (n:Nat) (y0),Mi (FV n y0)
 | 0,_=>⟨none,fun _ h=>by cases h⟩
 | n+1,y0=>by
  haveI:=Qo n
  show Mi (FQ (FV n) y0)
  infer_instance
instance (y0):Mi (JJ y0):=by delta JJ;infer_instance
instance (_a0) (_a1):Mi (Jy _a0 _a1):=by delta Jy;infer_instance
instance (_a0) (_a1):Mi (Ip _a0 _a1):=by delta Ip;infer_instance
instance (a0) (a1):Mi (JK a0 a1):=by delta JK;infer_instance
instance (y22):Mi (Ll y22):=by delta Ll;infer_instance
instance (a0):Mi (Mr a0):=by delta Mr;repeat' first | (show Mi _;infer_instance) | refine @iB _ _ _ _ ?_ (fun _=>?_) | refine @iC _ _ _ _ ?_ | refine @iI _ _ _ _ _ ?_ ?_
instance (a0):Mi (Nf a0):=by delta Nf;infer_instance
instance (a0) (a1):Mi (N8 a0 a1):=by delta N8;infer_instance
def G4(a0:List UInt8)(a:List Int):Option ((List Int)):=
 Go.L.AN (a=Go.L.iota a0.length/\a0.length<4611686018427387904) (some ((Go.L.Af0 a0)))
theorem R7:@G4 = @Iu:=by
 unfold G4 Iu;simp only [VX,VW,QY]
instance (a0) (a):Mi (G4 a0 a):=by delta G4;infer_instance
instance (a0) (a):Mi (Iu a0 a):=⟨(inferInstance:Mi (G4 a0 a)).c,by rw [<- R7];exact(inferInstance:Mi (G4 a0 a)).h⟩
instance (a0) (s):Mi (Es a0 s):=by obtain⟨b,a⟩:=s;delta Es;dsimp only;infer_instance
instance (a0) (s):Mi (Li a0 s):=by delta Li;infer_instance
instance (a0):Mi (Kz a0):=by delta Kz;infer_instance
instance (a0):Mi (K0 a0):=by delta K0;infer_instance
instance (a1):Mi (FG a1):=by delta FG;infer_instance
instance (_a0) (a1):Mi (Hp _a0 a1):=by delta Hp;infer_instance
instance (a):Mi (GB a):=by delta GB;infer_instance
instance (a0) (s):Mi (BA a0 s):=by obtain⟨b,a⟩:=s;delta BA;dsimp only;infer_instance
instance (a0) (s):Mi (EK a0 s):=by delta EK;infer_instance
instance (a0) (a):Mi (EL a0 a):=by delta EL;infer_instance
instance (a0) (s):Mi (BB a0 s):=by obtain⟨b,a⟩:=s;delta BB;dsimp only;infer_instance
instance (a0) (s):Mi (GC a0 s):=by delta GC;infer_instance
instance (a0):Mi (EC a0):=by delta EC;infer_instance
instance (a) (c) (b):Mi (FA a c b):=by delta FA;infer_instance
instance (a0) (a) (s):Mi (Dj a0 a s):=by obtain⟨d,c,b⟩:=s;delta Dj;dsimp only;infer_instance
instance (a0) (a) (s):Mi (H4 a0 a s):=by delta H4;infer_instance
instance (c) (d) (a) (e) (b):Mi (FB c d a e b):=by delta FB;infer_instance
instance (a0) (d) (b) (c) (a):Mi (FC a0 d b c a):=by delta FC;infer_instance
instance (a0) (d) (a) (s):Mi (C5 a0 d a s):=by obtain⟨e,b,c⟩:=s;delta C5;dsimp only;infer_instance
instance (a0) (b) (a) (s):Mi (FD a0 b a s):=by delta FD;infer_instance
instance (a0) (b) (c) (a):Mi (FE a0 b c a):=by delta FE;infer_instance
instance (a0) (b) (c) (s):Mi (Dk a0 b c s):=by obtain⟨e,d,a⟩:=s;delta Dk;dsimp only;infer_instance
instance (a0) (a) (b) (s):Mi (Jq a0 a b s):=by delta Jq;infer_instance
instance (a0) (a) (b) (c):Mi (FF a0 a b c):=by delta FF;infer_instance
instance (a0):Mi (E1 a0):=by delta E1;repeat' first | (show Mi _;infer_instance) | refine @iB _ _ _ _ ?_ (fun _=>?_) | refine @iC _ _ _ _ ?_ | refine @iI _ _ _ _ _ ?_ ?_
instance (a):Mi (Jb a):=by delta Jb;infer_instance
instance (a0) (b) (s):Mi (FH a0 b s):=by obtain⟨c,a⟩:=s;delta FH;dsimp only;repeat' first | (show Mi _;infer_instance) | refine @iB _ _ _ _ ?_ (fun _=>?_) | refine @iC _ _ _ _ ?_ | refine @iI _ _ _ _ _ ?_ ?_
instance (a0) (a) (s):Mi (MG a0 a s):=by delta MG;infer_instance
instance (a) (b):Mi (K1 a b):=by delta K1;infer_instance
instance (a0):Mi (JC a0):=by delta JC;infer_instance
instance (a0) (a1):Mi (L7 a0 a1):=by delta L7;infer_instance
instance (a0) (a1):Mi (Cu a0 a1):=by delta Cu;infer_instance
instance (a0):Mi (I0 a0):=by delta I0;infer_instance
instance:Mi (Hk):=by delta Hk;infer_instance
instance (a0) (s):Mi (Dv a0 s):=by delta Dv;infer_instance
instance (a0) (s):Mi (IH a0 s):=by delta IH;infer_instance
instance (a0):Mi (IV a0):=by delta IV;infer_instance
instance (a0):Mi (HG a0):=by delta HG;infer_instance
instance:Mi (Dw):=by delta Dw;infer_instance
instance (a0) (a1) (s):Mi (BK a0 a1 s):=by delta BK;infer_instance
instance (a0) (a1) (s):Mi (E4 a0 a1 s):=by delta E4;infer_instance
instance (a0) (a1):Mi (DY a0 a1):=by delta DY;infer_instance
instance (a0) (a1):Mi (C2 a0 a1):=by delta C2;infer_instance
instance:Mi (HS):=by delta HS;infer_instance
instance (a) (s):Mi (DE a s):=by delta DE;infer_instance
instance (a) (s):Mi (Lx a s):=by delta Lx;infer_instance
instance (_c84) (_c85) (_c86) (b) (c) (a):Mi (BN _c84 _c85 _c86 b c a):=by delta BN;infer_instance
instance (b) (c) (d) (e) (f) (a):Mi (Gu b c d e f a):=by delta Gu;repeat' first | (show Mi _;infer_instance) | refine @iB _ _ _ _ ?_ (fun _=>?_) | refine @iC _ _ _ _ ?_ | refine @iI _ _ _ _ _ ?_ ?_
instance (b) (c) (d) (e) (f) (a):Mi (Gv b c d e f a):=by delta Gv;infer_instance
instance (b) (c) (d) (e) (f) (a):Mi (Gw b c d e f a):=by delta Gw;infer_instance
instance (a0):Mi (Hg a0):=by delta Hg;infer_instance
instance (a):Mi (Hl a):=by delta Hl;infer_instance
instance (a0) (a2) (self) [∀ c d e,Mi (self c d e)] (s):Mi (CK a0 a2 self s):=by obtain⟨b,a⟩:=s;delta CK;dsimp only;infer_instance
instance (a0) (a2) (self) [∀ a b c,Mi (self a b c)] (s):Mi (K7 a0 a2 self s):=by delta K7;infer_instance
instance (self) [∀ a b c,Mi (self a b c)] (a0) (a1) (a2):Mi (Eo self a0 a1 a2):=by delta Eo;infer_instance
instance Ux:∀ (n:Nat) (y0) (y1) (y2),Mi (Fo n y0 y1 y2)
 | 0,_,_,_=>⟨none,fun _ h=>by cases h⟩
 | n+1,y0,y1,y2=>by
  haveI:=Ux n
  show Mi (Eo (Fo n) y0 y1 y2)
  infer_instance
instance (y0) (y1) (y2):Mi (Nh y0 y1 y2):=by delta Nh;infer_instance
instance (b) (a):Mi (JW b a):=by delta JW;infer_instance
instance (s):Mi (FZ s):=by obtain⟨b,a⟩:=s;delta FZ;dsimp only;infer_instance
instance (s):Mi (LV s):=by delta LV;infer_instance
instance (a0):Mi (Eb a0):=by delta Eb;infer_instance
instance (a0):Mi (HT a0):=by delta HT;infer_instance
instance (a0) (a) (self) [∀ c,Mi (self c)] (b):Mi (Ec a0 a self b):=by delta Ec;infer_instance
instance (a):Mi (GR a):=by delta GR;infer_instance
instance (a0) (self) [∀ b,Mi (self b)] (s):Mi (Cd a0 self s):=by obtain⟨c,a⟩:=s;delta Cd;dsimp only;infer_instance
instance (a0) (self) [∀ a,Mi (self a)] (s):Mi (JX a0 self s):=by delta JX;infer_instance
instance (self) [∀ a,Mi (self a)] (a0):Mi (Fv self a0):=by delta Fv;infer_instance
instance TL:∀ (n:Nat) (y0),Mi (Fw n y0)
 | 0,_=>⟨none,fun _ h=>by cases h⟩
 | n+1,y0=>by
  haveI:=TL n
  show Mi (Fv (Fw n) y0)
  infer_instance
instance (y0):Mi (LW y0):=by delta LW;infer_instance
instance (a0):Mi (LX a0):=by delta LX;infer_instance
instance (a0):Mi (EI a0):=by delta EI;infer_instance
instance (a) (b) (c) (d):Mi (J4 a b c d):=by delta J4;infer_instance
instance (a0):Mi (Ji a0):=by delta Ji;infer_instance
instance (a) (b):Mi (Kd a b):=by delta Kd;infer_instance
instance (a) (b) (s):Mi (Hj a b s):=by obtain⟨d,c⟩:=s;delta Hj;dsimp only;infer_instance
instance (a) (b) (s):Mi (Ke a b s):=by delta Ke;infer_instance
instance (a) (b):Mi (DZ a b):=by delta DZ;repeat' first | (show Mi _;infer_instance) | refine @iB _ _ _ _ ?_ (fun _=>?_) | refine @iC _ _ _ _ ?_ | refine @iI _ _ _ _ _ ?_ ?_
instance (a) (b):Mi (Gs a b):=by delta Gs;infer_instance
instance (a) (b):Mi (Gt a b):=by delta Gt;infer_instance
instance (a0):Mi (Is a0):=by delta Is;infer_instance
instance (a0):Mi (KP a0):=by delta KP;infer_instance
instance (a0):Mi (GQ a0):=by delta GQ;infer_instance
instance (a0) (a1):Mi (AY a0 a1):=by delta AY;infer_instance
instance (a) (b):Mi (F3 a b):=by delta F3;infer_instance
instance (a0) (a) (s):Mi (BQ a0 a s):=by obtain⟨c,d,e,b⟩:=s;delta BQ;dsimp only;repeat' first | (show Mi _;infer_instance) | refine @iB _ _ _ _ ?_ (fun _=>?_) | refine @iC _ _ _ _ ?_ | refine @iI _ _ _ _ _ ?_ ?_
instance (a0) (a) (s):Mi (Hw a0 a s):=by delta Hw;infer_instance
instance (a0) (a) (b):Mi (F4 a0 a b):=by delta F4;infer_instance
instance (a0) (a) (s):Mi (C3 a0 a s):=by obtain⟨c,b⟩:=s;delta C3;dsimp only;infer_instance
instance (a0) (a) (s):Mi (Hx a0 a s):=by delta Hx;infer_instance
instance (a0) (s):Mi (C4 a0 s):=by obtain⟨b,a⟩:=s;delta C4;dsimp only;infer_instance
instance (a0) (s):Mi (Hy a0 s):=by delta Hy;infer_instance
instance (a0) (a1_c0):Mi (FR a0 a1_c0):=by delta FR;infer_instance
instance (a0) (a):Mi (HU a0 a):=by delta HU;infer_instance
instance (a0) (a1) (a) (s):Mi (Hi a0 a1 a s):=by obtain⟨c,b⟩:=s;delta Hi;dsimp only;infer_instance
instance (a0) (a1) (a) (s):Mi (Ma a0 a1 a s):=by delta Ma;infer_instance
instance (a0) (a1):Mi (LA a0 a1):=by delta LA;infer_instance
instance (a0) (a):Mi (HV a0 a):=by delta HV;infer_instance
instance (a0) (s):Mi (EP a0 s):=by obtain⟨b,a⟩:=s;delta EP;dsimp only;infer_instance
instance (a0) (s):Mi (Oa a0 s):=by delta Oa;infer_instance
instance (a0):Mi (Jj a0):=by delta Jj;infer_instance
instance (a0):Mi (Cv a0):=by delta Cv;infer_instance
instance {σ:Type} (a0:Pv) (a1:List (List UInt8)) (a:Int) (self:Pv->(List (List UInt8))->σ->Option σ) [∀ c d e,Mi (self c d e)] (b:List UInt8) (sJ72:σ):Mi (DF a0 a1 a self b sJ72):=by delta DF;infer_instance
instance {σ:Type} (a0:Pv) (a1:List (List UInt8)) (self:Pv->(List (List UInt8))->σ->Option σ) [∀ b c d,Mi (self b c d)] (s:Int×σ):Mi (CL a0 a1 self s):=by obtain⟨a,sJ55⟩:=s;delta CL;dsimp only;infer_instance
instance {σ:Type} (a0:Pv) (a1:List (List UInt8)) (self:Pv->(List (List UInt8))->σ->Option σ) [∀ a b c,Mi (self a b c)] (s:Int×σ):Mi (JD a0 a1 self s):=by delta JD;infer_instance
instance {σ:Type} (step:σ->((List UInt8)×Int×Int×(List UInt8))->Option σ) [∀ a b,Mi (step a b)] (self:Pv->(List (List UInt8))->σ->Option σ) [∀ a b c,Mi (self a b c)] (a0:Pv) (a1:List (List UInt8)) (s:σ):Mi (EW step self a0 a1 s):=by delta EW;infer_instance
instance Te {σ:Type} (step:σ->((List UInt8)×Int×Int×(List UInt8))->Option σ) [∀ a b,Mi (step a b)]:∀ (n:Nat) (y0) (y1) (y2),Mi (Ga step n y0 y1 y2)
 | 0,_,_,_=>⟨none,fun _ h=>by cases h⟩
 | n+1,y0,y1,y2=>by
  haveI:=Te step n
  show Mi (EW step (Ga step n) y0 y1 y2)
  infer_instance
instance {σ:Type} (step:σ->((List UInt8)×Int×Int×(List UInt8))->Option σ) [∀ a b,Mi (step a b)] (y0) (y1) (y2):Mi (J9 step y0 y1 y2):=by delta J9;infer_instance
instance (i) (l) (x):Mi (Kr i l x):=by delta Kr;infer_instance
instance (a0):Mi (Fc a0):=by delta Fc;infer_instance
instance (a):Mi (IX a):=by delta IX;infer_instance
instance (a0) (s):Mi (GY a0 s):=by obtain⟨b,a⟩:=s;delta GY;dsimp only;infer_instance
instance (a0) (s):Mi (Ks a0 s):=by delta Ks;infer_instance
instance (a0):Mi (JA a0):=by delta JA;infer_instance
instance (a1):Mi (EJ a1):=by delta EJ;infer_instance
instance (_a0) (a1):Mi (E6 _a0 a1):=by delta E6;infer_instance
instance (a):Mi (Ed a):=by delta Ed;infer_instance
instance (a0) (s):Mi (CS a0 s):=by obtain⟨b,a⟩:=s;delta CS;dsimp only;infer_instance
instance (a0) (s):Mi (Fx a0 s):=by delta Fx;infer_instance
instance (a0) (a):Mi (Df a0 a):=by delta Df;infer_instance
instance (a0) (s):Mi (CT a0 s):=by obtain⟨b,a⟩:=s;delta CT;dsimp only;infer_instance
instance (a0) (s):Mi (Fy a0 s):=by delta Fy;infer_instance
instance (a0):Mi (DO a0):=by delta DO;infer_instance
instance (a):Mi (LY a):=by delta LY;infer_instance
instance (a0):Mi (Ka a0):=by delta Ka;infer_instance
instance (a):Mi (Kb a):=by delta Kb;infer_instance
instance (a0) (s):Mi (It a0 s):=by obtain⟨b,a⟩:=s;delta It;dsimp only;infer_instance
instance (a0) (s):Mi (LZ a0 s):=by delta LZ;infer_instance
instance (a0):Mi (L9 a0):=by delta L9;infer_instance
instance (a0):Mi (Gx a0):=by delta Gx;infer_instance
instance (a0) (a):Mi (Hh a0 a):=by delta Hh;infer_instance
def FW(a0:Int)(a1:List (((List UInt8)×Int×Int×(List UInt8))×(List Int)))(b:(List ((List UInt8)×Int×Int×(List UInt8)))):(List (((List UInt8)×Int×Int×(List UInt8))×(List Int)))×Int->Option (((List (((List UInt8)×Int×Int×(List UInt8))×(List Int)))×Int) ⊕ ((Int×(List (((List UInt8)×Int×Int×(List UInt8))×(List Int))))×(Int×Int))):=fun⟨d,a⟩=>
 if a<(b.length:Int) then Go.L.AN (0<=a/\a<(b.length:Int)) (Qq4 (Fc (Go.L.BV [] ((b.getD a.toNat Qq2).1,(b.getD a.toNat Qq2).2.1,(b.getD a.toNat Qq2).2.2.1,(b.getD a.toNat Qq2).2.2.2) a1)) (fun c=>Go.L.AN (c.length<4611686018427387904) (Go.L.AN ((isI c).length<=9223372036854775807) (Go.L.AN (Go.E.HK 72 (d.length+([(((b.getD a.toNat Qq2).1,(b.getD a.toNat Qq2).2.1,(b.getD a.toNat Qq2).2.2.1,(b.getD a.toNat Qq2).2.2.2),(Lib.compact (isI c)))]).length)) (Go.L.AN (Go.L.Bz (a+(1:Int))) (some (Sum.inl ((d++[(((b.getD a.toNat Qq2).1,(b.getD a.toNat Qq2).2.1,(b.getD a.toNat Qq2).2.2.1,(b.getD a.toNat Qq2).2.2.2),(Lib.compact (isI c)))]),(a+(1:Int)))))))))) else Option.map Sum.inr ((Hh a0) d)
theorem Ra:@FW = @Gy:=by
 unfold FW Gy;simp only [VX,VW,QY]
instance (a0) (a1) (b) (s):Mi (FW a0 a1 b s):=by obtain⟨c,a⟩:=s;delta FW;dsimp only;infer_instance
instance (a0) (a1) (a) (s):Mi (Gy a0 a1 a s):=⟨(inferInstance:Mi (FW a0 a1 a s)).c,by rw [<- Ra];exact(inferInstance:Mi (FW a0 a1 a s)).h⟩
instance (a0) (a1) (a) (s):Mi (Ld a0 a1 a s):=by delta Ld;infer_instance
instance (a0) (a1):Mi (Hv a0 a1):=by delta Hv;infer_instance
instance (a0) (a):Mi (J1 a0 a):=by delta J1;infer_instance
instance (a0) (s):Mi (Dg a0 s):=by obtain⟨b,a⟩:=s;delta Dg;dsimp only;infer_instance
instance (a0) (s):Mi (Lg a0 s):=by delta Lg;infer_instance
instance (a0):Mi (Kt a0):=by delta Kt;infer_instance
instance (g) (a) (b) (c) (d) (e) (f):Mi (Ei g a b c d e f):=by delta Ei;infer_instance
instance (a) (b) (c):Mi (ER a b c):=by delta ER;infer_instance
instance (a0) (s):Mi (Dl a0 s):=by obtain⟨b,c,d,a⟩:=s;delta Dl;dsimp only;repeat' first | (show Mi _;infer_instance) | refine @iB _ _ _ _ ?_ (fun _=>?_) | refine @iC _ _ _ _ ?_ | refine @iI _ _ _ _ _ ?_ ?_
instance (a0) (s):Mi (J5 a0 s):=by delta J5;infer_instance
instance (a0):Mi (Jr a0):=by delta Jr;infer_instance
instance (a0):Mi (Gc a0):=by delta Gc;infer_instance
instance (a0):Mi (BX a0):=by delta BX;infer_instance
instance (a0):Mi (GA a0):=by delta GA;infer_instance
instance (a0) (a1):Mi (Ek a0 a1):=by delta Ek;infer_instance
instance (a0) (a1):Mi (strings_Compare a0 a1):=by delta strings_Compare;infer_instance
instance (a0) (a1):Mi (Gz a0 a1):=by delta Gz;infer_instance
instance (a0) (a1) (a):Mi (Bw a0 a1 a):=by delta Bw;infer_instance
instance (a0) (a1) (s):Mi (Bv a0 a1 s):=by obtain⟨b,a⟩:=s;delta Bv;dsimp only;repeat' first | (show Mi _;infer_instance) | refine @iB _ _ _ _ ?_ (fun _=>?_) | refine @iC _ _ _ _ ?_ | refine @iI _ _ _ _ _ ?_ ?_
instance (a0) (a1) (s):Mi (BC a0 a1 s):=by delta BC;infer_instance
instance (a0) (a1):Mi (Bj a0 a1):=by delta Bj;infer_instance
instance (a0) (a1):Mi (DD a0 a1):=by delta DD;infer_instance
instance (a0):Mi (D7 a0):=by delta D7;infer_instance
instance (a0) (a1):Mi (G0 a0 a1):=by delta G0;infer_instance
instance (a):Mi (Jc a):=by delta Jc;infer_instance
instance (a0) (s):Mi (Hc a0 s):=by obtain⟨b,a⟩:=s;delta Hc;dsimp only;infer_instance
instance (a0) (s):Mi (K2 a0 s):=by delta K2;infer_instance
instance (a0):Mi (HC a0):=by delta HC;infer_instance
instance (a):Mi (B1 a):=by delta B1;infer_instance
instance (a):Mi (FI a):=by delta FI;infer_instance
instance:Mi (CW):=by delta CW;infer_instance
instance (a0) (a1) (s):Mi (B6 a0 a1 s):=by delta B6;infer_instance
instance (a0) (a1) (s):Mi (DU a0 a1 s):=by delta DU;infer_instance
instance (a0) (a1):Mi (D6 a0 a1):=by delta D6;infer_instance
instance (a0) (a1):Mi (Ci a0 a1):=by delta Ci;infer_instance
instance (a) (b):Mi (CZ a b):=by delta CZ;infer_instance
instance (b) (a) (c):Mi (E7 b a c):=by delta E7;infer_instance
instance (a0) (a1) (b) (a) (c) (s):Mi (Cm a0 a1 b a c s):=by delta Cm;infer_instance
instance (a0) (a1) (b) (a) (c) (s):Mi (Ie a0 a1 b a c s):=by delta Ie;infer_instance
instance (a):Mi (Gg a):=by delta Gg;infer_instance
instance (a0) (a1) (a) (s):Mi (CO a0 a1 a s):=by obtain⟨c,b⟩:=s;delta CO;dsimp only;infer_instance
instance (a0) (a1) (a) (s):Mi (Ig a0 a1 a s):=by delta Ig;infer_instance
instance (a0) (a1):Mi (Gh a0 a1):=by delta Gh;infer_instance
instance (a0) (a1) (s):Mi (CP a0 a1 s):=by delta CP;infer_instance
instance (a0) (a1) (s):Mi (Ih a0 a1 s):=by delta Ih;infer_instance
instance (a0) (a1):Mi (Ef a0 a1):=by delta Ef;infer_instance
instance (a0) (a1) (a2):Mi (EX a0 a1 a2):=by delta EX;infer_instance
instance (a) (b) (c):Mi (Cs a b c):=by delta Cs;infer_instance
instance (a0) (s):Mi (Bq a0 s):=by obtain⟨b,c,d,a⟩:=s;delta Bq;dsimp only;infer_instance
instance (a0) (s):Mi (Dq a0 s):=by delta Dq;infer_instance
instance (a0) (a1_c0) (a1_c1):Mi (CQ a0 a1_c0 a1_c1):=by delta CQ;infer_instance
instance (a0) (a1_c0) (a1_c1):Mi (BH a0 a1_c0 a1_c1):=by delta BH;infer_instance
instance (a) (_c100):Mi (Ho a _c100):=by delta Ho;infer_instance
instance (a0) (a2) (a) (s):Mi (Dx a0 a2 a s):=by obtain⟨c,d,b⟩:=s;delta Dx;dsimp only;repeat' first | (show Mi _;infer_instance) | refine @iB _ _ _ _ ?_ (fun _=>?_) | refine @iC _ _ _ _ ?_ | refine @iI _ _ _ _ _ ?_ ?_
instance (a0) (a2) (a) (s):Mi (K8 a0 a2 a s):=by delta K8;infer_instance
instance (a0) (a1) (a2) (a3):Mi (Ff a0 a1 a2 a3):=by delta Ff;infer_instance
instance (a0) (a1):Mi (KV a0 a1):=by delta KV;infer_instance
instance (a0):Mi (D0 a0):=by delta D0;infer_instance
instance (a0) (a1) (a3) (c) (d) (a) (b):Mi (BR a0 a1 a3 c d a b):=by delta BR;infer_instance
instance (a) (b) (c):Mi (Ev a b c):=by delta Ev;infer_instance
instance (a0) (a1) (a2) (a3) (s):Mi (Cx a0 a1 a2 a3 s):=by obtain⟨a,b,c,d⟩:=s;delta Cx;dsimp only;repeat' first | (show Mi _;infer_instance) | refine @iB _ _ _ _ ?_ (fun _=>?_) | refine @iC _ _ _ _ ?_ | refine @iI _ _ _ _ _ ?_ ?_
instance (a0) (a1) (a2) (a3) (s):Mi (Ir a0 a1 a2 a3 s):=by delta Ir;infer_instance
instance (a0) (a1) (a2) (a3):Mi (F9 a0 a1 a2 a3):=by delta F9;infer_instance
instance (a) (b):Mi (EA a b):=by delta EA;infer_instance
instance (a0) (a1) (s):Mi (BU a0 a1 s):=by obtain⟨a,b,c⟩:=s;delta BU;dsimp only;infer_instance
instance (a0) (a1) (s):Mi (Gj a0 a1 s):=by delta Gj;infer_instance
instance (a0) (a1):Mi (EY a0 a1):=by delta EY;infer_instance
instance (a0) (a1):Mi (E0 a0 a1):=by delta E0;infer_instance
instance (a0) (a1) (s):Mi (Dm a0 a1 s):=by obtain⟨b,a⟩:=s;delta Dm;dsimp only;infer_instance
instance (a0) (a1) (s):Mi (FJ a0 a1 s):=by delta FJ;infer_instance
instance (_a0):Mi (Hm _a0):=by delta Hm;infer_instance
instance (a0) (a1):Mi (Gr a0 a1):=by delta Gr;infer_instance
instance (b) (a):Mi (Co b a):=by delta Co;infer_instance
instance (a) (s):Mi (BE a s):=by obtain⟨d,b,c⟩:=s;delta BE;dsimp only;repeat' first | (show Mi _;infer_instance) | refine @iB _ _ _ _ ?_ (fun _=>?_) | refine @iC _ _ _ _ ?_ | refine @iI _ _ _ _ _ ?_ ?_
instance (a) (s):Mi (Cp a s):=by delta Cp;infer_instance
instance (b) (a):Mi (Cq b a):=by delta Cq;infer_instance
instance (a):Mi (Cr a):=by delta Cr;infer_instance
instance (s):Mi (Bp s):=by obtain⟨b,a⟩:=s;delta Bp;dsimp only;infer_instance
instance (s):Mi (EH s):=by delta EH;infer_instance
instance (a0):Mi (Ca a0):=by delta Ca;infer_instance
instance:Mi (GN):=by delta GN;infer_instance
instance (a0) (a1) (self) [∀ a b,Mi (self a b)] (s):Mi (C0 a0 a1 self s):=by delta C0;infer_instance
instance (a0) (a1) (self) [∀ a b,Mi (self a b)] (s):Mi (JU a0 a1 self s):=by delta JU;infer_instance
instance (a0) (a1) (self) [∀ a b,Mi (self a b)]:Mi (GO a0 a1 self):=by delta GO;repeat' first | (show Mi _;infer_instance) | refine @iB _ _ _ _ ?_ (fun _=>?_) | refine @iC _ _ _ _ ?_ | refine @iI _ _ _ _ _ ?_ ?_
instance (self) [∀ a b,Mi (self a b)] (a0) (a1):Mi (DK self a0 a1):=by delta DK;infer_instance
instance TM:∀ (n:Nat) (y0) (y1),Mi (EG n y0 y1)
 | 0,_,_=>⟨none,fun _ h=>by cases h⟩
 | n+1,y0,y1=>by
  haveI:=TM n
  show Mi (DK (EG n) y0 y1)
  infer_instance
instance (y0) (y1):Mi (LR y0 y1):=by delta LR;infer_instance
instance (a0) (a1):Mi (DV a0 a1):=by delta DV;infer_instance
def Dn(a:List Int):Option ((List Int)):=
 Go.L.AN (a.length<4611686018427387904) (Go.L.AN ((isI a).length<=9223372036854775807) (some ((Lib.compact (isI a)))))
theorem NG:@Dn = @DP:=by
 unfold Dn DP;simp only [VX,VW,QY]
instance (a):Mi (Dn a):=by delta Dn;infer_instance
instance (a):Mi (DP a):=⟨(inferInstance:Mi (Dn a)).c,by rw [<- NG];exact(inferInstance:Mi (Dn a)).h⟩
instance (a0) (a1) (s):Mi (DC a0 a1 s):=by obtain⟨b,a⟩:=s;delta DC;dsimp only;repeat' first | (show Mi _;infer_instance) | refine @iB _ _ _ _ ?_ (fun _=>?_) | refine @iC _ _ _ _ ?_ | refine @iI _ _ _ _ _ ?_ ?_
instance (a0) (a1) (s):Mi (GZ a0 a1 s):=by delta GZ;infer_instance
instance (a0) (a1):Mi (Fe a0 a1):=by delta Fe;infer_instance
instance (a0) (a1):Mi (Fz a0 a1):=by delta Fz;infer_instance
instance (a0) (a1) (a2):Mi (DG a0 a1 a2):=by delta DG;infer_instance
def C6(a:List Int)(b:Int)(c:Int):Option ((List Int)×Int×Int):=
 Go.L.AN (a.length<4611686018427387904) (Go.L.AN ((isI a).length<=9223372036854775807) (some ((Lib.compact (isI a)),b,c)))
theorem ML:@C6 = @Dh:=by
 unfold C6 Dh;simp only [VX,VW,QY]
instance (a) (b) (c):Mi (C6 a b c):=by delta C6;infer_instance
instance (a) (b) (d):Mi (Dh a b d):=⟨(inferInstance:Mi (C6 a b d)).c,by rw [<- ML];exact(inferInstance:Mi (C6 a b d)).h⟩
instance (a0) (a1) (s):Mi (CU a0 a1 s):=by obtain⟨b,c,d,a⟩:=s;delta CU;dsimp only;repeat' first | (show Mi _;infer_instance) | refine @iB _ _ _ _ ?_ (fun _=>?_) | refine @iC _ _ _ _ ?_ | refine @iI _ _ _ _ _ ?_ ?_
instance (a0) (a1) (s):Mi (F0 a0 a1 s):=by delta F0;infer_instance
instance (a0) (a1) (a2_c0) (a2_c1):Mi (DQ a0 a1 a2_c0 a2_c1):=by delta DQ;infer_instance
instance (a0) (a1) (a2) (a3):Mi (Ey a0 a1 a2 a3):=by delta Ey;infer_instance
instance (a0) (a1):Mi (Ez a0 a1):=by delta Ez;infer_instance
def C7(a:List Int)(b:List UInt8):Option ((List Int)×(List UInt8)):=
 Go.L.AN (a.length<4611686018427387904) (Go.L.AN ((isI a).length<=9223372036854775807) (some ((Lib.compact (isI a)),b)))
theorem MM:@C7 = @Di:=by
 unfold C7 Di;simp only [VX,VW,QY]
instance (a) (b):Mi (C7 a b):=by delta C7;infer_instance
instance (a) (b):Mi (Di a b):=⟨(inferInstance:Mi (C7 a b)).c,by rw [<- MM];exact(inferInstance:Mi (C7 a b)).h⟩
instance (a0) (a1) (s):Mi (CV a0 a1 s):=by obtain⟨b,c,a⟩:=s;delta CV;dsimp only;repeat' first | (show Mi _;infer_instance) | refine @iB _ _ _ _ ?_ (fun _=>?_) | refine @iC _ _ _ _ ?_ | refine @iI _ _ _ _ _ ?_ ?_
instance (a0) (a1) (s):Mi (F1 a0 a1 s):=by delta F1;infer_instance
instance (a0) (a1) (a2_c0):Mi (DR a0 a1 a2_c0):=by delta DR;infer_instance
instance (a0) (a1) (a2):Mi (F2 a0 a1 a2):=by delta F2;infer_instance
instance (a0) (a1):Mi (Dc a0 a1):=by delta Dc;repeat' first | (show Mi _;infer_instance) | refine @iB _ _ _ _ ?_ (fun _=>?_) | refine @iC _ _ _ _ ?_ | refine @iI _ _ _ _ _ ?_ ?_
instance (a):Mi (Gk a):=by delta Gk;infer_instance
instance (a1) (s):Mi (D1 a1 s):=by obtain⟨b,a⟩:=s;delta D1;dsimp only;infer_instance
instance (a1) (s):Mi (Gl a1 s):=by delta Gl;infer_instance
instance (a0) (a1):Mi (EZ a0 a1):=by delta EZ;infer_instance
instance (a) (b):Mi (CG a b):=by delta CG;infer_instance
instance (a1) (a) (b) (s):Mi (BY a1 a b s):=by obtain⟨d,c⟩:=s;delta BY;dsimp only;repeat' first | (show Mi _;infer_instance) | refine @iB _ _ _ _ ?_ (fun _=>?_) | refine @iC _ _ _ _ ?_ | refine @iI _ _ _ _ _ ?_ ?_
instance (a1) (a) (b) (s):Mi (D8 a1 a b s):=by delta D8;infer_instance
instance (a):Mi (CF a):=by delta CF;infer_instance
instance (a0) (a1) (self) [∀ b c,Mi (self b c)] (s):Mi (BF a0 a1 self s):=by obtain⟨d,a⟩:=s;delta BF;dsimp only;infer_instance
instance (a0) (a1) (self) [∀ a b,Mi (self a b)] (s):Mi (CH a0 a1 self s):=by delta CH;infer_instance
instance (a0) (a1) (self) [∀ b c,Mi (self b c)] (a):Mi (Ce a0 a1 self a):=by delta Ce;infer_instance
instance (a0) (a1) (self) [∀ c d,Mi (self c d)] (a) (s):Mi (BZ a0 a1 self a s):=by obtain⟨e,b⟩:=s;delta BZ;dsimp only;infer_instance
instance (a0) (a1) (self) [∀ b c,Mi (self b c)] (a) (s):Mi (D9 a0 a1 self a s):=by delta D9;infer_instance
instance (self) [∀ a b,Mi (self a b)] (a0) (a1):Mi (CC self a0 a1):=by delta CC;infer_instance
instance OI:∀ (n:Nat) (y0) (y1),Mi (Br n y0 y1)
 | 0,_,_=>⟨none,fun _ h=>by cases h⟩
 | n+1,y0,y1=>by
  haveI:=OI n
  show Mi (CC (Br n) y0 y1)
  infer_instance
instance (y0) (y1):Mi (Fi y0 y1):=by delta Fi;infer_instance
instance (a):Mi (Gm a):=by delta Gm;infer_instance
instance (a2) (a) (s):Mi (D2 a2 a s):=by obtain⟨c,b⟩:=s;delta D2;dsimp only;infer_instance
instance (a2) (a) (s):Mi (Gn a2 a s):=by delta Gn;infer_instance
instance (a0) (a1) (a2):Mi (Cy a0 a1 a2):=by delta Cy;infer_instance
instance (a0):Mi (Eh a0):=by delta Eh;infer_instance
instance (a):Mi (Ij a):=by delta Ij;infer_instance
instance (a0) (s):Mi (H3 a0 s):=by obtain⟨c,a,b⟩:=s;delta H3;dsimp only;infer_instance
instance (a0) (s):Mi (JF a0 s):=by delta JF;infer_instance
instance (a0):Mi (Jp a0):=by delta Jp;infer_instance
instance (a0):Mi (Em a0):=by delta Em;infer_instance
instance (a0) (a1) (a2):Mi (Ik a0 a1 a2):=by delta Ik;infer_instance
instance (a0):Mi (Im a0):=by delta Im;infer_instance
instance (a0) (a1) (a2) (a3):Mi (H5 a0 a1 a2 a3):=by delta H5;infer_instance
instance (a0) (a1) (a2) (a3) (a4):Mi (Hq a0 a1 a2 a3 a4):=by delta Hq;infer_instance
instance (a0) (b) (c) (a):Mi (GS a0 b c a):=by delta GS;infer_instance
instance (a0) (self) [∀ b,Mi (self b)] (c) (d) (s):Mi (Gi a0 self c d s):=by obtain⟨e,a⟩:=s;delta Gi;dsimp only;infer_instance
instance (a0) (self) [∀ a,Mi (self a)] (b) (c) (s):Mi (Ki a0 self b c s):=by delta Ki;infer_instance
instance (self) [∀ a,Mi (self a)] (a0):Mi (F7 self a0):=by delta F7;infer_instance
instance TN:∀ (n:Nat) (y0),Mi (Ja n y0)
 | 0,_=>⟨none,fun _ h=>by cases h⟩
 | n+1,y0=>by
  haveI:=TN n
  show Mi (F7 (Ja n) y0)
  infer_instance
instance (y0):Mi (Kx y0):=by delta Kx;infer_instance
instance (b) (a):Mi (Ii b a):=by delta Ii;infer_instance
instance (a0) (a1) (b) (self) [∀ c d,Mi (self c d)] (s):Mi (Er a0 a1 b self s):=by obtain⟨e,a⟩:=s;delta Er;dsimp only;infer_instance
instance (a0) (a1) (a) (self) [∀ b c,Mi (self b c)] (s):Mi (JE a0 a1 a self s):=by delta JE;infer_instance
instance (a0) (a1) (self) [∀ b c,Mi (self b c)] (a):Mi (E9 a0 a1 self a):=by delta E9;infer_instance
instance (self) [∀ a b,Mi (self a b)] (a0) (a1):Mi (Cw self a0 a1):=by delta Cw;repeat' first | (show Mi _;infer_instance) | refine @iB _ _ _ _ ?_ (fun _=>?_) | refine @iC _ _ _ _ ?_ | refine @iI _ _ _ _ _ ?_ ?_
instance Tf:∀ (n:Nat) (y0) (y1),Mi (Gb n y0 y1)
 | 0,_,_=>⟨none,fun _ h=>by cases h⟩
 | n+1,y0,y1=>by
  haveI:=Tf n
  show Mi (Cw (Gb n) y0 y1)
  infer_instance
instance (y0) (y1):Mi (KU y0 y1):=by delta KU;infer_instance
instance (a) (b) (c) (d) (e) (f):Mi (Ky a b c d e f):=by delta Ky;infer_instance
instance (a0):Mi (HA a0):=by delta HA;infer_instance
instance (a0) (a1):Mi (IS a0 a1):=by delta IS;infer_instance
instance:Mi (KN):=by delta KN;infer_instance
instance (a0) (a1) (s):Mi (IU a0 a1 s):=by delta IU;infer_instance
instance (a0) (a1) (s):Mi (MR a0 a1 s):=by delta MR;infer_instance
instance (a0) (a1):Mi (M8 a0 a1):=by delta M8;infer_instance
instance:Mi (FN):=by delta FN;infer_instance
instance (a0) (a1) (self) [∀ a b,Mi (self a b)] (s):Mi (DS a0 a1 self s):=by delta DS;infer_instance
instance (a0) (a1) (self) [∀ a b,Mi (self a b)] (s):Mi (Jv a0 a1 self s):=by delta Jv;infer_instance
instance (a0) (a1) (self) [∀ a b,Mi (self a b)]:Mi (H6 a0 a1 self):=by delta H6;infer_instance
instance (self) [∀ a b,Mi (self a b)] (a0) (a1):Mi (E2 self a0 a1):=by delta E2;infer_instance
instance Si:∀ (n:Nat) (y0) (y1),Mi (G2 n y0 y1)
 | 0,_,_=>⟨none,fun _ h=>by cases h⟩
 | n+1,y0,y1=>by
  haveI:=Si n
  show Mi (E2 (G2 n) y0 y1)
  infer_instance
instance (y0) (y1):Mi (EM y0 y1):=by delta EM;infer_instance
instance:Mi (LP):=by delta LP;infer_instance
instance (a0) (a1) (s):Mi (J8 a0 a1 s):=by delta J8;infer_instance
instance (a0) (a1) (s):Mi (N7 a0 a1 s):=by delta N7;infer_instance
instance (a0) (a1):Mi (M7 a0 a1):=by delta M7;infer_instance
instance (a0) (a1):Mi (LO a0 a1):=by delta LO;infer_instance
instance (a):Mi (GF a):=by delta GF;infer_instance
instance:Mi (MK):=by delta MK;repeat' first | (show Mi _;infer_instance) | refine @iB _ _ _ _ ?_ (fun _=>?_) | refine @iC _ _ _ _ ?_ | refine @iI _ _ _ _ _ ?_ ?_
theorem Xz:MK=some true:=(inferInstance:Mi MK).h true Qqb
end
end Go.Proofs.YtekmbcbgknmhiaaGreatDoor
end
noncomputable section
namespace Go.Proofs.YtekmbcbgknmhiaaGreatDoor
open Go Go.E Go.RowKit Go.L
set_option maxHeartbeats 1000000
set_option maxRecDepth 10000
open _root_.Go.Proofs.Tryz
def DL(a1:Qv)(a2:List Bool)(a:Akg×(Int×Int))(e:Qv×(Int×Int)):Option Bool:=
 Qq4 (Cy ((a.1.1.1,a.1.1.2),(a.1.2.1.1,a.1.2.1.2),a.1.2.2) a1 a2) (fun b=>Qq4 (Cy ((a.1.1.1,a.1.1.2),(a.1.2.1.1,a.1.2.1.2),a.1.2.2) e.1 a2) (fun c=>Qq4 (HA e.1) (fun d=>if b.2.1=c.2.1/\b.2.2=c.2.2 then Qq4 (M7 b.1 c.1) (fun f=>if f then if d.2.1=0 then Qq4 (EM d.1 e.1) (fun g=>some g) else some false else some false) else some false)))
def BO(a1:Qv)(a2:List Bool)(a:Akg×(Int×Int))(b:Qv×(Int×Int))(c:Bool):Option Bool:=
 if c then Qq4 MK (fun e=>if e then if a.2.1=0 then if b.2.1=0 then some true else Qq4 (EM b.1 (Qv.mk (0:Int) ([]) ([]:AaV) ([]) (0:Int) (0:Int) ([]))) (fun f=>some f) else Qq4 (BX ((a.1.1.1,a.1.1.2),(a.1.2.1.1,a.1.2.1.2),a.1.2.2)) (fun g=>if g=0 then if b.2.1=0 then some true else Qq4 (EM b.1 (Qv.mk (0:Int) ([]) ([]:AaV) ([]) (0:Int) (0:Int) ([]))) (fun d=>some d) else some false) else some false) else(DL a1 a2 a b)
def GW(a0:List (AaV×Pv))(a1:Qv)(a2:List Bool):Option Bool:=
 Qq4 (Jr a0) (fun a=>Qq4 (HA a1) (fun b=>Qq4 MK (fun c=>if !c then(BO a1 a2 a b) true else if a.2.1=0 then(BO a1 a2 a b) (!decide (b.2.1=0)) else(BO a1 a2 a b) true)))
section
variable(w:World)(H:PH)(hH:Le H (hp w)) include hH
theorem Ms(hU:Gq H){a0:List (AaV×Pv)}{a1:Qv}{a2:List Bool}{cb bb bc bd be:Value}(dk:AJ (.pair (.vec .byte) .tree) H cb a0)(cl:AJ .st H bb (a1.f.2.1))(cm:AJ .byte H bc (a1.f.2.2.2.1))(cn:AJ .Bu H bd (a1.f.2.2.2.2.2.2))(co:AJ .bool H be a2){r:Bool}(h:GW a0 a1 a2=some r):
  Qqv 9 [cb,.agg #[No a1.f.1,bb,AaM a1.f.2.2.1,bc,No a1.f.2.2.2.2.1,No a1.f.2.2.2.2.2.1,bd],be] w (fun v w'=>v=.bool r):=by
 refine A1 97 [(0,cb),(1,.agg #[No a1.f.1,bb,AaM a1.f.2.2.1,bc,No a1.f.2.2.2.2.1,No a1.f.2.2.2.2.2.1,bd]),(2,be)] func9 Z fun hL=>Aj<|CD (t:=26) Z Z hL fun w1 b1 bx ef _=>A8 1 Z<|Bx 1 Z<|Aw h fun l dy h=>Bf bx (PY _ _ (An bx) (hU.mono  Ah) (dk.mono  Ah) dy) ?_;rintro _ w3 ⟨bq,br,bs,rfl,cx,cy,cz⟩ cp dz eg;have o:=cx.mono (Dt bx cp);have p:=cy.mono (Dt bx cp);have q:=cz.Du hH bx cp;refine Ar 3 Z<|A9 Lp.e Z dz fun w4 b4 d0 af _=>A9 AE.e Z d0 fun w5 b5 d1 ag _=>Af 1 Z d1 Z (a:=(Bk Z (Bk o.one (Bk Z (Bk p.one (Bk q.one Kq)))))) fun w6 d2 ah=>Af 0 Z d2 Z fun w7 bf ai=>Ad ?_;have z:=bf.rG H;refine Aj<|Ai (Az 2 Z By.e bf Z)<|Aw h fun u d3 h=>Bf bf (MF (a0:=a1) _ _ (An bf) (hU.mono  Ah) (cl.mono  Ah) (cm.mono  Ah) (cn.mono  Ah) d3) ?_;rintro _ fa ⟨a8,a9,ba,rfl,cq,cr,cs⟩ cc dm bt;have c:=cq.mono (Dt bf cc)
 have d:=cr.mono (Dt bf cc);have e:=cs.mono (Dt bf cc);refine Ar 3 Z<|A9 By.e Z dm fun fb ce dn g _=>A9 AE.e Z dn fun fc ct dp i _=>Af 1 Z dp Z (a:=(Bk Z (Bk c.one (Bk Z (Bk d.one (Bk Z (Bk Z (Bk e.one Kq)))))))) fun fd dq j=>Af 0 Z dq Z fun fe cd k=>Ad ?_
 refine B2 Unit (fun(_:Unit)=>[(2,be),(4,(Aad b1)),(7,(Aad b4)),(9,(Aad ce))]) (fun(_:Unit) wr=>FX w [.box ct [No u.2.1,No u.2.2] 28,.box ce [No u.1.f.1,a8,AaM u.1.f.2.2.1,a9,No u.1.f.2.2.2.2.1,No u.1.f.2.2.2.2.2.1,ba] 26,.box b5 [No l.2.1,No l.2.2] 28,.box b4 [No l.1.1.1,bq,No l.1.2.1.1,br,bs] 52,.box b1 [No a1.f.1,bb,AaM a1.f.2.2.1,bc,No a1.f.2.2.2.2.1,No a1.f.2.2.2.2.2.1,bd] 26] wr fun Oz=>AJ .st (gz H w wr Oz) a8 (u.1.f.2.1)/\AJ .byte (gz H w wr Oz) a9 (u.1.f.2.2.2.1)/\AJ .Bu (gz H w wr Oz) ba (u.1.f.2.2.2.2.2.2)/\AJ (.pair .st (.vec Akp)) (gz H w wr Oz) bq (l.1.1.2)/\AJ Akn (gz H w wr Oz) br (l.1.2.1.2)/\AJ Ako (gz H w wr Oz) bs (l.1.2.2)/\(DL a1 a2 l u)=some r) ?_ ?_
 ·refine B2 Bool (fun az=>[(2,be),(4,(Aad b1)),(7,(Aad b4)),(8,(Aad b5)),(9,(Aad ce)),(10,(Aad ct)),(38,.bool az)]) (fun az wr=>FX w [.box ct [No u.2.1,No u.2.2] 28,.box ce [No u.1.f.1,a8,AaM u.1.f.2.2.1,a9,No u.1.f.2.2.2.2.1,No u.1.f.2.2.2.2.2.1,ba] 26,.box b5 [No l.2.1,No l.2.2] 28,.box b4 [No l.1.1.1,bq,No l.1.2.1.1,br,bs] 52,.box b1 [No a1.f.1,bb,AaM a1.f.2.2.1,bc,No a1.f.2.2.2.2.1,No a1.f.2.2.2.2.2.1,bd] 26] wr fun Oz=>AJ .st (gz H w wr Oz) a8 (u.1.f.2.1)/\AJ .byte (gz H w wr Oz) a9 (u.1.f.2.2.2.1)/\AJ .Bu (gz H w wr Oz) ba (u.1.f.2.2.2.2.2.2)/\AJ (.pair .st (.vec Akp)) (gz H w wr Oz) bq (l.1.1.2)/\AJ Akn (gz H w wr Oz) br (l.1.2.1.2)/\AJ Ako (gz H w wr Oz) bs (l.1.2.2)/\(BO a1 a2 l u) az=some r) ?_ ?_
  ·have b:=cd.rG H;refine Au<|Aw h fun ff dr h=>AD cd (Td _ _ (An cd) (hU.mono  Ah) dr) fun fg eh bg bu=>Ar 2 Z<|Fs 29 h ?_ ?_<;>intro au h
   ·iterate 3 refine Ao au ?_
    refine Ai (AK au Z)<|Ar 1 Z ?_
    iterate 3 refine Ao Z ?_
    refine Ai (AK Z Z)<|AL ?_;have o:=o.mono (Aa (af.trans (ag.trans (ah.trans ai))));have p:=p.mono (Aa (af.trans (ag.trans (ah.trans ai))));have q:=q.mono (Aa (af.trans (ag.trans (ah.trans ai))));have z:=z.trans (Aa (bt.trans (g.trans (i.trans (j.trans k)))));have c:=c.mono (Aa (g.trans (i.trans (j.trans k))));have d:=d.mono (Aa (g.trans (i.trans (j.trans k))));have e:=e.mono (Aa (g.trans (i.trans (j.trans k))));have b:=b.trans (Aa bu);refine AA _ ⟨bg,(c.mono b),(d.mono b),(e.mono b),((o.mono z).mono b),((p.mono z).mono b),((q.mono z).mono b),h⟩
   refine Ab au<|Ai (Ae Z Ajx Z CR.e)<|Ab au<|Ai (Ag 2 Z bg Z)<|Ab au<|Ai (Am Z)<|Ai (AO au Z)<|Ar 1 Z<|IN 34 h ?_ ?_<;>intro av h
   ·iterate 3 refine Ao av ?_
    refine Ai (AK av Z)<|AL ?_;have o:=o.mono (Aa (af.trans (ag.trans (ah.trans ai))));have p:=p.mono (Aa (af.trans (ag.trans (ah.trans ai))));have q:=q.mono (Aa (af.trans (ag.trans (ah.trans ai))));have z:=z.trans (Aa (bt.trans (g.trans (i.trans (j.trans k)))));have c:=c.mono (Aa (g.trans (i.trans (j.trans k))));have d:=d.mono (Aa (g.trans (i.trans (j.trans k))));have e:=e.mono (Aa (g.trans (i.trans (j.trans k))));have b:=b.trans (Aa bu);refine AA _ ⟨bg,(c.mono b),(d.mono b),(e.mono b),((o.mono z).mono b),((p.mono z).mono b),((q.mono z).mono b),h⟩
   refine Ab av<|Ai (Ae Z Ajx Z CR.e)<|Ab av<|Ai (Ag 0 Z bg Z)<|Ab av<|Ai (Am Z)<|Ai (AO av Z)<|AL ?_;have o:=o.mono (Aa (af.trans (ag.trans (ah.trans ai))));have p:=p.mono (Aa (af.trans (ag.trans (ah.trans ai))));have q:=q.mono (Aa (af.trans (ag.trans (ah.trans ai))));have z:=z.trans (Aa (bt.trans (g.trans (i.trans (j.trans k)))));have c:=c.mono (Aa (g.trans (i.trans (j.trans k))));have d:=d.mono (Aa (g.trans (i.trans (j.trans k))));have e:=e.mono (Aa (g.trans (i.trans (j.trans k))));have b:=b.trans (Aa bu);refine AA _ ⟨bg,(c.mono b),(d.mono b),(e.mono b),((o.mono z).mono b),((p.mono z).mono b),((q.mono z).mono b),h⟩
  rintro az ei ⟨bv,bh,bi,bj,bz,b0,b2,h⟩;refine B8 h ?_ ?_<;>intro ds h
  ·have m:=bv.rG H;refine Aj<|Aw h fun fh dt h=>AD bv (Td _ _ (An bv) (hU.mono  Ah) dt) fun fi ej aa cf=>Ar 1 Z<|Fs 40 h ?_ ?_<;>intro x h
   ·refine Ab x<|Ai (Ae Z Ajx Z CR.e)<|Ab x<|Ai (Ag 2 Z aa Z)<|Ab x<|Ai (Am Z)<|Ab x<|Ai (Am Z)<|CI 44 h ?_ ?_<;>intro aw h
    ·iterate 3 refine Ao aw ?_
     refine Ab x<|Ai (AK aw Z)<|Ai (AK x Z)<|Ar 1 Z<|Ab Z<|Ai (Ae Z Ajx Z CR.e)<|Ab Z<|Ai (Ag 0 Z aa Z)<|Ab Z<|Ai (Am Z)<|Ab Z<|Ai (Am Z)<|CI 54 h ?_ ?_<;>intro ax h
     ·iterate 3 refine Ao ax ?_
      refine Ab Z<|Ai (AK ax Z)<|Ai (AK Z Z)<|A8 1 Z<|Ay<|Bs ?_
      cases h
      refine Al Z ⟨aa.ext,Z⟩
     refine Ab ax<|Ai (Az 1 Z By.e aa Z)<|Ab ax<|Ai (AT (fun _=>P4 _))<|Ab ax<|Aw h fun fj du h=>?_;have m:=m.trans (Aa cf);refine AD aa (JH _ _ (An aa) u.1 ((Qv.mk (0:Int) ([]) ([]:AaV) ([]) (0:Int) (0:Int) ([]))) (bh.mono m) (bi.mono m) (bj.mono m) (AJ.nil _ _) (AJ.nil _ _) (AJ.nil _ _) du) fun fk ek dv eb=>Ab Z<|Ai (AO ax Z)<|Ai (AK Z Z)<|A8 1 Z<|Ay<|Bs ?_
     cases h
     refine Al Z ⟨dv.ext,Z⟩
    refine Ab aw<|Ai (Az 3 Z Lp.e aa Z)<|Ab aw<|Aw h fun fl dw h=>?_;have m:=m.trans (Aa cf);refine AD aa (Fh _ _ (An aa) (((l.1.1.1,l.1.1.2),(l.1.2.1.1,l.1.2.1.2),l.1.2.2)) (bz.mono m) (b0.mono m) (b2.mono m) dw) fun fm el a4 c1=>Ab aw<|Ai (Am Z)<|Ab x<|Ai (AO aw Z)<|Ai (AK x Z)<|Ar 1 Z<|CI 50 h ?_ ?_<;>intro y h
    ·refine Ab y<|Ai (Ae Z Ajx Z CR.e)<|Ab y<|Ai (Ag 0 Z a4 Z)<|Ab y<|Ai (Am Z)<|Ab y<|Ai (Am Z)<|CI 54 h ?_ ?_<;>intro ay h
     ·iterate 3 refine Ao ay ?_
      refine Ab y<|Ai (AK ay Z)<|Ai (AK y Z)<|A8 1 Z<|Ay<|Bs ?_
      cases h
      refine Al Z ⟨a4.ext,Z⟩
     refine Ab ay<|Ai (Az 1 Z By.e a4 Z)<|Ab ay<|Ai (AT (fun _=>P4 _))<|Ab ay<|Aw h fun em c2 h=>?_;have m:=m.trans (Aa c1);refine AD a4 (JH _ _ (An a4) u.1 ((Qv.mk (0:Int) ([]) ([]:AaV) ([]) (0:Int) (0:Int) ([]))) (bh.mono m) (bi.mono m) (bj.mono m) (AJ.nil _ _) (AJ.nil _ _) (AJ.nil _ _) c2) fun en ec c3 d4=>Ab y<|Ai (AO ay Z)<|Ai (AK y Z)<|A8 1 Z<|Ay<|Bs ?_
     cases h
     refine Al Z ⟨c3.ext,Z⟩
    iterate 4 refine Ao y ?_
    iterate 3 refine L3 ?_
    refine Ao y<|Ai (AO y Z)<|A8 1 Z<|Ay<|Bs ?_
    cases h
    refine Al Z ⟨a4.ext,Z⟩
   iterate 4 refine Ao x ?_
   iterate 3 refine L3 ?_
   refine Ao x<|Ai (AO x Z)<|Ar 1 Z ?_
   iterate 4 refine Ao Z ?_
   iterate 3 refine L3 ?_
   refine Ao Z<|Ai (AO Z Z)<|A8 1 Z<|Ay<|Bs ?_
   cases h
   refine Al Z ⟨aa.ext,Z⟩
  refine Ax<|AA () ⟨bv,bh,bi,bj,bz,b0,b2,h⟩
 rintro _ eo ⟨a5,bk,bl,bm,b3,b6,b7,h⟩;have a:=a5.rG H;refine Aj<|Ai (Az 3 Z Lp.e a5 Z)<|Ai (Az 4 Z By.e a5 Z)<|Ar 1 Z<|Aw h fun ep c4 h=>Bf a5 (Il _ _ (An a5) (hU.mono  Ah) (((l.1.1.1,l.1.1.2),(l.1.2.1.1,l.1.2.1.2),l.1.2.2)) a1 (b3.mono a) (b6.mono a) (b7.mono a) (cl.mono  Ah) (cm.mono  Ah) (cn.mono  Ah) (co.mono  Ah) c4) ?_;rintro _ eq ⟨d5,rfl,cg⟩ c5 c6 cu;have a6:=cg.Du hH a5 c5;refine Ar 3 Z<|A9 AE.e Z c6 fun er es c7 b8 _=>Ar 1 Z<|Af 0 Z c7 Z fun et a3 b9=>Ad<|Aj<|Ai (Az 4 Z Lp.e a3 Z)<|Ai (Az 2 Z By.e a3 Z)<|Ar 1 Z<|Aw h fun eu c8 h=>?_;have a:=a.trans (Aa (cu.trans (b8.trans b9)))
 refine Bf a3 (Il _ _ (An a3) (hU.mono  Ah) (((l.1.1.1,l.1.1.2),(l.1.2.1.1,l.1.2.1.2),l.1.2.2)) u.1 (b3.mono a) (b6.mono a) (b7.mono a) (bk.mono a) (bl.mono a) (bm.mono a) (co.mono  Ah) c8) ?_;rintro _ ev ⟨d6,rfl,ch⟩ c9 da ca;have a7:=ch.Du hH a3 c9;refine Ar 3 Z<|A9 AE.e Z da fun ew ex db bn _=>Ar 1 Z<|Af 0 Z db Z fun ey an bo=>Ad<|Aj<|Ai (Az 3 Z By.e an Z)<|Aw h fun dx dc h=>?_;have a:=a.trans (Aa (ca.trans (bn.trans bo)));refine Bf an (MF (a0:=u.1) _ _ (An an) (hU.mono  Ah) (bk.mono a) (bl.mono a) (bm.mono a) dc) ?_;rintro _ ez ⟨d7,d8,d9,rfl,ci,cj,ck⟩ bw dd bp;have ao:=ci.mono (Dt an bw);have ap:=cj.mono (Dt an bw);have aq:=ck.mono (Dt an bw);refine Ar 3 Z<|A9 By.e Z dd fun e0 e1 de ab _=>A9 AE.e Z de ?_;intro e2 e3 df ac _
 refine Af 1 Z df Z (a:=(Bk Z (Bk ao.one (Bk Z (Bk ap.one (Bk Z (Bk Z (Bk aq.one Kq)))))))) fun e4 dg ad=>Af 0 Z dg Z fun e5 ar ae=>Ad ?_;have s:=ar.rG H;refine Aj<|Ai (Az 3 Z AE.e ar Z)<|Ai (Az 2 Z AE.e ar Z)<|Ai (Abe Jh (Nc _ _ _ _))<|Ar 1 Z<|CI 82 h ?_ ?_<;>intro aj h
 ·refine Ab aj<|Ai (Am Z)<|Ab aj<|Ai (Am Z)<|Ab aj<|Aw h fun e6 dh h=>?_;have a6:=a6.mono (Aa (b8.trans (b9.trans (ca.trans (bn.trans (bo.trans (bp.trans (ab.trans (ac.trans (ad.trans ae))))))))));have a7:=a7.mono (Aa (bn.trans (bo.trans (bp.trans (ab.trans (ac.trans (ad.trans ae)))))));refine AD ar (S8 _ _ (An ar) (a6.mono s) (a7.mono s) dh) fun e7 ed ak cv=>Ai (AK aj Z)<|Ar 1 Z<|Fs 87 h ?_ ?_<;>intro al h
  ·refine Ab al<|Ai (Ae Z Ajx Z CR.e)<|Ab al<|Ai (Ag 0 Z ak Z)<|Ab al<|Ai (Am Z)<|Ai (AK al Z)<|Ar 1 Z<|CI 92 h ?_ ?_<;>intro am h
   ·refine Ab am<|Ai (Az 1 Z By.e ak Z)<|Ab am<|Ai (Az 5 Z By.e ak Z)<|Ab am<|Aw h fun e8 di h=>?_;have a:=a.trans (Aa (bp.trans (ab.trans (ac.trans (ad.trans ae)))));have ao:=ao.mono (Aa (ab.trans (ac.trans (ad.trans ae))));have ap:=ap.mono (Aa (ab.trans (ac.trans (ad.trans ae))));have aq:=aq.mono (Aa (ab.trans (ac.trans (ad.trans ae))));have s:=s.trans (Aa cv);refine AD ak (JH _ _ (An ak) dx.1 u.1 (ao.mono s) (ap.mono s) (aq.mono s) ((bk.mono a).mono s) ((bl.mono a).mono s) ((bm.mono a).mono s) di) fun e9 ee dj ea=>Ai (AK am Z)<|A8 1 Z<|Ay ?_
    cases h
    refine Al Z ⟨dj.ext,Z⟩
   iterate 3 refine Ao am ?_
   refine Ai (AO am Z)<|A8 1 Z<|Ay ?_
   cases h
   refine Al Z ⟨ak.ext,Z⟩
  iterate 3 refine Ao al ?_
  refine Ai (AO al Z)<|Ar 1 Z ?_
  iterate 3 refine Ao Z ?_
  refine Ai (AO Z Z)<|A8 1 Z<|Ay ?_
  cases h
  refine Al Z ⟨ak.ext,Z⟩
 iterate 3 refine Ao aj ?_
 refine Ai (AO aj Z)<|Ar 1 Z ?_
 iterate 3 refine Ao Z ?_
 refine Ai (AO Z Z)<|Ar 1 Z ?_
 iterate 3 refine Ao Z ?_
 refine Ai (AO Z Z)<|A8 1 Z<|Ay ?_
 cases h
 refine Al Z ⟨ar.ext,Z⟩
end
end Go.Proofs.YtekmbcbgknmhiaaGreatDoor
end
noncomputable section
namespace Go.Proofs.YtekmbcbgknmhiaaGreatDoor
open Go Go.L
theorem AcV(l:List Int)(h:l.length<=1000000):M7 l l=some true:=by
 unfold M7 N7;rw [if_pos Z];refine DM (fun i=>(i:Int)) l.length (fun i hi=>?_) ?_ 0 (hi:=(by omega))
 ·unfold J8;rw [if_pos U,Ac U,Ac U,if_pos Z,Ac (by unfold Bz;omega)]
  rfl
 ·unfold J8 LP;rw [if_neg U]
theorem Af1{x:LIB×(Int×Int)}(hl:x.1.2.2.length<=64){f:Qv->Nat->Bool}(hf:Fnd x.1 f){q:Qv}(hq:Sq q)(d:(Yj q).1=0)(c:(Yj (Lk 8 q false)).1=0){vis:List Bool}:DL q vis x (Lk 8 q false,(0,0))=some true:=by
 obtain⟨hv,hc,_,g⟩:=VF d;obtain⟨a,_,_,h⟩:=VF c;have b:Sq (Lk 8 q false):=(Aa5 8 q false hq hv U).2.1;have hid:Lk 8 (Lk 8 q false) false=Lk 8 q false:=Ae9 8 _ (Aje 8 _ a (T6 (f:=f) (i:=0) 8 q false hq hv).2.1) 8 U
 have hr:Aa2 x.1.2.2.length f vis (Lk 8 q false)=Aa2 x.1.2.2.length f vis q:=by
  unfold Aa2;rw [if_pos d,if_pos c]
  have:∀ i,Gd f 8 (Lk 8 q false) i=Gd f 8 q i:=fun i=>by
   have:=(T6 (f:=f) (i:=i) 8 q false hq hv).2.2;rw [Ae6 8 _ i a] at this;rw [this]
   cases Gd f 8 q i <;> rfl
  rw [Ac8 this]
 unfold DL
 show Qq4 (Cy x.1 q vis) (fun e=>Qq4 (Cy x.1 (Lk 8 q false) vis) _)=_
 rw [AbA hl hf hq,Qq5,AbA hl hf b,Qq5,hr,Xk b,Qq5,if_pos c,hid,if_pos c,if_pos ⟨Z,Z⟩]
 have hlen:(Aa2 x.1.2.2.length f vis q).1.length<=1000000:=by
  unfold Aa2;rw [if_pos d]
  split
  ·have:=Aio x.1.2.2.length (Gd f 8 q) fun j=>vis.getD j Qq2;simp only;omega
  ·simp
 rw [AcV _ hlen,Qq5,if_pos Z,if_pos Z,Ae8 b a.dp U]
 rfl
theorem AcW{l:List (List UInt8×Pv)}(hs:∀ d∈l,Sd d){q:Qv}(hq:Sq q){vis:List Bool}:GW l q vis=some true:=by
 obtain⟨⟨L,e⟩,hb,hr⟩:=ZO hs;unfold GW;rw [hb,Qq5,Xk hq,Qq5,Xz];simp only [Qq5,Bool.not_true,QzB,if_false,if_true];simp only at hr
 have b:∀ n:Qv×(Int×Int),(n.2.1=0\/n.1=.mk 0 [] [] [] 0 0 [])->(e.1=0\/L=Sh)->BO q vis (L,e) n true=some true:=fun n hn he=>by
  unfold BO;rw [Xz];simp only [Qq5,if_true]
  have tail:(if n.2.1=0 then some true else Qq4 (EM n.1 (.mk 0 [] [] [] 0 0 [])) fun x=>some x)=some true:=by
   by_cases h:n.2.1=0
   ·rw [if_pos h]
   ·rw [if_neg h,hn.resolve_left h,Aip]
    rfl
  by_cases h:e.1=0
  ·rw [if_pos h];exact tail
  ·rw [if_neg h,he.resolve_left h];unfold BX Sh;exact tail
 by_cases hf:(Yj q).1=0
 ·rw [if_pos hf]
  by_cases c:(Yj (Lk 8 q false)).1=0
  ·rw [if_pos c]
   rcases hr with ⟨a,hl,ht,hv,rfl⟩ | ⟨a,rfl⟩
   ·rw [if_pos a];simp only;unfold BO;simp only [decide_true,Bool.not_true,QzB,if_false];exact Af1 (x:=(QU l,e)) (by show(List.map _ l).length<=64;rw [Qzk];exact hl) (Ai2 hl hs ht hv) hq hf c
   ·rw [if_neg a];exact b _ (.inl Z) (.inr Z)
  ·rw [if_neg c];have hne : ¬ (14:Int)=0:=by decide
   rcases hr with ⟨a,hl,ht,hv,rfl⟩ | ⟨a,rfl⟩
   ·rw [if_pos a,decide_eq_false hne];exact b _ (.inr Z) (.inl a)
   ·rw [if_neg a];exact b _ (.inr Z) (.inr Z)
 ·rw [if_neg hf]
  rcases hr with ⟨a,hl,ht,hv,rfl⟩ | ⟨a,rfl⟩
  ·rw [if_pos a,decide_eq_false hf];exact b _ (.inr Z) (.inl a)
  ·rw [if_neg a];exact b _ (.inr Z) (.inr Z)
end Go.Proofs.YtekmbcbgknmhiaaGreatDoor
end
noncomputable section
namespace Go.E
open Go Go.RowKit Go.ChangeShapes Go.WideShapes
section
variable {H:Type} {enc:TypeId×Value->H} {P:Program} {w:World} {base:Nat} {spare:Nat->Bool} {held:Bool}
theorem wf_u8{n:Int}(h:(Lit.int .u8 n).wf=true):0<=n/\n<=255:=by
 simpa [Lit.wf,IntKind.min,IntKind.max,IntKind.signed,IntKind.bits] using h
theorem wf_i64{n:Int}(h:(Lit.int .i64 n).wf=true): -9223372036854775808<=n/\n<=9223372036854775807:=by
 simpa [Lit.wf,IntKind.min,IntKind.max,IntKind.signed,IntKind.bits] using h
theorem RQ(hl:laidOutB P=true){W W':World}(hb:Below W.heap.size W W'):∀ {ts:List TypeId} {vs:List Value} {ds:List (DataW H)} {ps:List MemPlace},(∀ t∈ts,P.readableRec t=true/\t<P.types.size)->
  DataW.TrodAll enc P W 0 (fun _=>true) true ts vs ds ps->(∀ x∈ps,x.block<W.heap.size)->DataW.TrodAll enc P W' 0 (fun b=>decide (b<W.heap.size)) true ts vs ds ps
 | [],[],[],ps,_,h,_=>h
 | t::ts,v::vs,d::ds,ps,ht,h,hlt=>by
  obtain⟨p,q,c,h2,rfl⟩:=h;have a:=ht t (.head _);exact⟨p,q,Below.trod hl a.1 a.2 c hb (fun x hx=>hlt x (QzQ.2 (.inl hx))),RQ hl hb (fun t' h'=>ht t' (.tail _ h')) h2 (fun x hx=>hlt x (QzQ.2 (.inr hx))),Z⟩
 | [],[],_::_,_,_,h,_=>by cases h
 | [],_::_,_,_,_,h,_=>by cases h
 | _::_,[],_,_,_,h,_=>by cases h
 | _::_,_::_,[],_,_,h,_=>by cases h
end
end Go.E
namespace Go.E
open Go Go.RowKit Go.ChangeShapes Go.WideShapes Go.Deep
def Reads(P:Program)(t:TypeId){α:Type}(r:Rp α)(ok:α->Prop):Prop:=
 ∀
  {H:Type} {enc:TypeId×Value->H} {w:World} {base:Nat} {spare:Nat->Bool} {held:Bool} {fuel:Nat} {cs:List Value} {x:DataW H×List MemPlace},
  DataW.trod enc P w base spare held fuel t cs=some x->∃ a,r.rel (hp w) a cs/\ok a
section
variable {P:Program} {t e:TypeId}
theorem Ps(ht:P.underlying t=some (.int .i64)):Reads P t (.int .i64) (fun n=>Go.L.Bz n):=fun h=>by
 obtain⟨n,rfl,_,hw⟩:=DataW.trod_int ht h;exact⟨n,Z,wf_i64 hw⟩
theorem Sj(ht:P.underlying t=some (.int .u8)):Reads P t .byte (fun _=>True):=fun h=>by
 obtain⟨n,rfl,_,hw⟩:=DataW.trod_int ht h;have hw':=wf_u8 hw;refine⟨Go.L.u8 n,?_,trivial⟩
 show[_]=[_]
 rw [Go.L.YH,Int.emod_eq_of_lt U U]
theorem AaP(ht:P.underlying t=some .bool):Reads P t .bool (fun _=>True):=fun h=>by
 obtain⟨n,rfl,_⟩:=DataW.trod_bool ht h;exact⟨n,Z,trivial⟩
theorem ZQ[Dr]{α:Type}{r:Rp α}{ok:α->Prop}(ht:P.underlying t=some (.slice e))(hc:P.cellsOf e=r.sz)(hsz:0<r.sz)(hr:Reads P e r ok):Reads P t (.vec r) (fun l=>l.length<=9223372036854775807/\∀ x∈l,ok x):=fun {H enc w base spare held fuel cs x} h=>by
 rcases open_slice ht h with ⟨rfl,_⟩ | ⟨a,len,cap,m,n,D,Pl,rfl,hb,hl,hm,rfl,_,hel⟩
 ·exact⟨[],⟨_,Z,AJ.nil _ _⟩,by simp,by simp⟩
 ·have q:len<=(if spare a.block then cap else len):=by split <;> omega
  have hx:∀ i,i<len->∃ y,ok y/\∃ c,r.rel (hp w) y c/\w.cells? base (a.add (i * r.sz)) r.sz=some c:=fun i hi=>by
   obtain⟨cs',f,h2⟩:=hel i U;obtain⟨y,h3,b⟩:=hr h2;rw [hc] at f;exact⟨y,b,cs',h3,f⟩
  have key:∀ k,k<=len->∃ l:List α,l.length=k/\(∀ x∈l,ok x)/\∀ i y,l[i]? = some y->∃ c,r.rel (hp w) y c/\w.cells? base (a.add (i * r.sz)) r.sz=some c:=by
   intro k
   induction k with
   | zero=>intro _;exact⟨[],Z,by simp,by simp⟩
   | succ k ih=>
    intro hk;obtain⟨l,f,h2,h3⟩:=ih U;obtain⟨y,b,c,d,p⟩:=hx k U;refine⟨l++[y],by simp [f],fun z hz=>?_,fun i z hz=>?_⟩
    ·rcases QzQ.1 hz with hz | hz
     ·exact h2 z hz
     ·simp at hz;subst hz;exact b
    ·rcases Qxw i l.length with hi | hi
     ·rw [QkZ hi] at hz;exact h3 i z hz
     ·rw [Qjq hi] at hz
      have g:i - l.length=0:=by
       have:=(QzD.1 hz).1;simp at this;omega
      rw [g] at hz;simp at hz;subst hz;obtain rfl:i=k:=by omega
      exact⟨c,d,p⟩
  obtain⟨l,f,h2,h3⟩:=key len (Qzx _);have hlm:len<=9223372036854775807:=by unfold maxLen at hm;omega
  refine⟨l,⟨_,Z,some a,cap,by rw [f],by omega,hm,(fun h=>by cases h),fun A hA hne=>?_⟩,by omega,h2⟩
  cases hA
  have cell:∀ i y,l[i]? = some y->∃ c,r.rel (hp w) y c/\∀ j u,c[j]? = some u->w.cell? ((a.add (i * r.sz)).add j)=some u:=fun i y hy=>by
   obtain⟨c,b,d⟩:=h3 i y hy;obtain⟨_,hlen,hcell⟩:=World.cells?_some d;exact⟨c,b,fun j u hu=>by rw [<- hu];exact hcell j (by rw [<- hlen];exact(QzD.1 hu).1)⟩
  have hspot:a.spot=none:=by
   obtain⟨y,l',rfl⟩:=QkC hne;obtain⟨c,b,d⟩:=cell 0 y Z;have o:0<c.length:=by rw [r.len b];omega
   have:=World.cell?_spot (d 0 _ (Qzw o))
   simpa [Addr.add] using this
  refine⟨hspot,fun i y hy=>?_⟩;obtain⟨c,b,d⟩:=cell i y hy;refine⟨c,b,fun j u hu=>?_⟩;rw [<- Kp hspot];exact d j u hu
end
end Go.E
end
noncomputable section
namespace Go.Proofs.YtekmbcbgknmhiaaGreatDoor.O5
open Go Go.E
theorem one_le{H:Type}(d:DataW H):1<=Rows.uptoBulk d:=by
 cases d with
 | lit l=>cases l <;> simp [Rows.uptoBulk]
 | nil=>simp [Rows.uptoBulk]
 | ptr d=>simp [Rows.uptoBulk]
 | slice elems spare=>simp [Rows.uptoBulk]
 | agg parts=>simp [Rows.uptoBulk]
 | iface t d=>simp [Rows.uptoBulk]
 | map entries=>simp [Rows.uptoBulk]
 | held h=>simp [Rows.uptoBulk]
theorem length_le{H:Type}(l:List (DataW H)):l.length<=Rows.uptoBulkAll l:=by
 induction l with
 | nil=>simp [Rows.uptoBulkAll]
 | cons x r ih=>have:=one_le x;simp only [Rows.uptoBulkAll,List.length_cons];omega
theorem bound{H:Type}{l:List (DataW H)}(hk:Rows.uptoSmall H l=true):Rows.uptoBulkAll l<=1048576:=of_decide_eq_true hk
theorem AaQ{H:Type}{enc:TypeId×Value->H}{P:Program}{w:World}{base:Nat}{spare:Nat->Bool}{held:Bool}{fuel:Nat}{t e:TypeId}{b:Option Addr}{len cap:Nat}{x:DataW H×List MemPlace}
  (ht:P.underlying t=some (.slice e)) (h:DataW.trod enc P w base spare held fuel t [.slice b len cap]=some x):len+1<=Rows.uptoBulk x.1:=by
 rcases Deep.open_slice ht h with ⟨c,rfl⟩ | ⟨a,len',cap',m,n,D,Pl,c,_,_,_,_,rfl,_⟩
 ·simp only [List.cons.injEq,Value.slice.injEq,and_true] at c;obtain⟨_,rfl,_⟩:=c;exact Qzx _
 ·simp only [List.cons.injEq,Value.slice.injEq,and_true] at c;obtain⟨_,rfl,_⟩:=c;have h2:=length_le ((Qzv len).map D);rw [Qzk,QxA] at h2;simp only [Rows.uptoBulk];omega
theorem Ahm{α:Type}{r:Rp α}{H:PH}{b:Option Addr}{len cap:Nat}{l:List α}(h:AJ r H (.slice b len cap) l):l.length=len:=by
 obtain⟨_,_,a,_⟩:=h.ex;simp only [Value.slice.injEq] at a;exact a.2.1.symm
end Go.Proofs.YtekmbcbgknmhiaaGreatDoor.O5
namespace Go.Proofs.YtekmbcbgknmhiaaGreatDoor.O5
open Go Go.E Go.RowKit Go.ChangeShapes Go.WideShapes Go.Deep Go.L
theorem UE{H:Type}{l:List (DataW H)}{x:DataW H}(h:x∈l):Rows.uptoBulk x<=Rows.uptoBulkAll l:=by
 induction l with
 | nil=>cases h
 | cons y l ih=>
  simp only [Rows.uptoBulkAll]
  rcases List.mem_cons.1 h with rfl | h
  ·omega
  ·have:=ih h;omega
def RB(P:Program)(t:TypeId){α:Type}(r:Rp α)(ok:α->Prop)(k:Nat):Prop:=
 ∀
  {H:Type} {enc:TypeId×Value->H} {w:World} {base:Nat} {spare:Nat->Bool} {held:Bool} {fuel:Nat} {cs:List Value} {x:DataW H×List MemPlace},
  Rows.uptoBulk x.1<=k->DataW.trod enc P w base spare held fuel t cs=some x->∃ a,r.rel (hp w) a cs/\ok a
section
variable {P:Program} {t e:TypeId} {k:Nat}
theorem RB.use{α:Type}{r:Rp α}{ok:α->Prop}(h:RB P t r ok k){H:Type}{enc:TypeId×Value->H}{w:World}{base:Nat}{spare:Nat->Bool}{held:Bool}{fuel:Nat}{cs:List Value}{d:DataW H}{p:List MemPlace}
  (hk:Rows.uptoBulk d<=k) (hx:DataW.trod enc P w base spare held fuel t cs=some (d,p)):∃ a,r.rel (hp w) a cs/\ok a:=@h H enc w base spare held fuel cs (d,p) hk hx
theorem Ug{α:Type}{r:Rp α}{ok:α->Prop}(h:Reads P t r ok):RB P t r ok k:=fun _ hx=>h hx
theorem AaR(ht:P.underlying t=some .string):RB P t .st (fun l=>l.length<=k) k:=fun hk h=>by
 obtain⟨s,rfl,rfl,hs⟩:=DataW.trod_string ht h;simp only [Rows.uptoBulk] at hk;exact⟨s.data.toList,by show[_]=[_];simp,by omega⟩
theorem Np{α:Type}{r:Rp α}{ok:α->Prop}(ht:P.underlying t=some (.slice e))(hc:P.cellsOf e=r.sz)(hsz:0<r.sz)(hr:RB P e r ok k):RB P t (.vec r) (fun l=>l.length<=k/\∀ x∈l,ok x) k:=fun {H enc w base spare held fuel cs x} hk h=>by
 rcases open_slice ht h with ⟨rfl,_⟩ | ⟨a,len,cap,m,n,D,Pl,rfl,hb,hl,hm,rfl,rfl,hel⟩
 ·exact⟨[],⟨_,Z,AJ.nil _ _⟩,by simp,by simp⟩
 ·have s:len<=(if spare a.block then cap else len):=by split <;> omega
  simp only [Rows.uptoBulk] at hk;have hlk:=length_le ((Qzv len).map D);rw [Qzk,QxA] at hlk
  have hx:∀ i,i<len->∃ y,ok y/\∃ c,r.rel (hp w) y c/\w.cells? base (a.add (i * r.sz)) r.sz=some c:=fun i hi=>by
   obtain⟨cs',g,h2⟩:=hel i U;have hDi:=UE (QkB (f:=D) (List.mem_range.2 hi));obtain⟨y,h3,b⟩:=hr (x:=(D i,Pl i)) (by show Rows.uptoBulk (D i)<=k;omega) h2;rw [hc] at g;exact⟨y,b,cs',h3,g⟩
  have key:∀ k,k<=len->∃ l:List α,l.length=k/\(∀ x∈l,ok x)/\∀ i y,l[i]? = some y->∃ c,r.rel (hp w) y c/\w.cells? base (a.add (i * r.sz)) r.sz=some c:=by
   intro k
   induction k with
   | zero=>intro _;exact⟨[],Z,by simp,by simp⟩
   | succ k ih=>
    intro hk;obtain⟨l,g,h2,h3⟩:=ih U;obtain⟨y,b,c,d,q⟩:=hx k U;refine⟨l++[y],by simp [g],fun z hz=>?_,fun i z hz=>?_⟩
    ·rcases QzQ.1 hz with hz | hz
     ·exact h2 z hz
     ·simp at hz;subst hz;exact b
    ·rcases Qxw i l.length with hi | hi
     ·rw [QkZ hi] at hz;exact h3 i z hz
     ·rw [Qjq hi] at hz
      have o:i - l.length=0:=by
       have:=(QzD.1 hz).1;simp at this;omega
      rw [o] at hz;simp at hz;subst hz;obtain rfl:i=k:=by omega
      exact⟨c,d,q⟩
  obtain⟨l,g,h2,h3⟩:=key len (Qzx _);refine⟨l,⟨_,Z,some a,cap,by rw [g],by omega,hm,(fun h=>by cases h),fun A hA hne=>?_⟩,by omega,h2⟩
  cases hA
  have cell:∀ i y,l[i]? = some y->∃ c,r.rel (hp w) y c/\∀ j u,c[j]? = some u->w.cell? ((a.add (i * r.sz)).add j)=some u:=fun i y hy=>by
   obtain⟨c,b,d⟩:=h3 i y hy;obtain⟨_,hlen,hcell⟩:=World.cells?_some d;exact⟨c,b,fun j u hu=>by rw [<- hu];exact hcell j (by rw [<- hlen];exact(QzD.1 hu).1)⟩
  have hspot:a.spot=none:=by
   obtain⟨y,l',rfl⟩:=QkC hne;obtain⟨c,b,d⟩:=cell 0 y Z;have p:0<c.length:=by rw [r.len b];omega
   have:=World.cell?_spot (d 0 _ (Qzw p))
   simpa [Addr.add] using this
  refine⟨hspot,fun i y hy=>?_⟩;obtain⟨c,b,d⟩:=cell i y hy;refine⟨c,b,fun j u hu=>?_⟩;rw [<- Kp hspot];exact d j u hu
theorem Af2{f0 f1 f2 f3 f4 f5 f6:Field}{tw tb tp te tg:TypeId}(ht:P.underlying t=some (.struct #[f0,f1,f2,f3,f4,f5,f6]))(hc:P.cellsOf t=7)
  (b:f0.offset=0) (c:f1.offset=1) (e:f2.offset=2) (g:f3.offset=3) (j:f4.offset=4) (l:f5.offset=5) (m:f6.offset=6)
  (o:P.underlying f0.type=some (.int .i64)) (q:f1.type=tw) (s:P.underlying f2.type=some .string) (u:f3.type=tb) (u4:P.underlying f4.type=some (.int .i64)) (u5:P.underlying f5.type=some (.int .i64)) (e6:f6.type=tp)
  (c0:P.cellsOf f0.type=1) (c1:P.cellsOf tw=1) (c2:P.cellsOf f2.type=1) (c3:P.cellsOf tb=1) (c4:P.cellsOf f4.type=1) (c5:P.cellsOf f5.type=1) (c6:P.cellsOf tp=1)
  (uw:P.underlying tw=some (.slice tg)) (ug:P.underlying tg=some .string) (cg:P.cellsOf tg=1) (ub:P.underlying tb=some (.slice te)) (ue:P.underlying te=some (.int .u8)) (ce:P.cellsOf te=1) (up:P.underlying tp=some (.slice t)) (B:Nat) (k:Nat) (hB:k<=B):RB P t .Bu (fun v=>∀ d,Smq B d v) k:=by
 induction k with
 | zero=>
  intro H enc w base spare held fuel cs x hk h;have:=one_le x.1;omega
 | succ k ih0=>
  intro H enc w base spare held fuel cs x hk h;subst q;subst u;subst e6;obtain⟨xs,n,rfl,rfl,hl,hlen,hfs⟩:=DataW.trod_struct ht h;have ih:RB P t .Bu (fun v=>∀ d,Smq B d v) k:=@ih0 U;simp only [Rows.uptoBulk] at hk
  have hb:∀ y∈xs,Rows.uptoBulk y.1<=k:=fun y hy=>by
   have:=UE (QkB (f:=fun z:DataW H×List MemPlace=>z.1) hy);omega
  have ax:xs.length=7:=by simpa using hlen
  have get:∀ (i:Nat) (f:Field),(#[f0,f1,f2,f3,f4,f5,f6]:Array Field)[i]? = some f->i<7->P.cellsOf f.type=1->f.offset=i->∃ y:DataW H×List MemPlace,Rows.uptoBulk y.1<=k/\DataW.trod enc P w base spare held n f.type ((cs.drop i).take 1)=some y:=fun i f hf hi hcf hof=>by
   have a:=hfs i f hf;rw [hcf,hof,Qzw (by omega:i<xs.length)] at a;exact⟨_,hb _ (Qxj _),a⟩
  obtain⟨y0,b0,t0⟩:=get 0 f0 Z U c0 b;obtain⟨y1,b1,t1⟩:=get 1 f1 Z U c1 c;obtain⟨y2,b2,t2⟩:=get 2 f2 Z U c2 e;obtain⟨y3,b3,t3⟩:=get 3 f3 Z U c3 g;obtain⟨y4,b4,t4⟩:=get 4 f4 Z U c4 j;obtain⟨y5,b5,t5⟩:=get 5 f5 Z U c5 l;obtain⟨y6,b6,t6⟩:=get 6 f6 Z U c6 m;obtain⟨a0,r0,_⟩:=Ug (k:=k) (Ps o) b0 t0;obtain⟨a1,r1,q1,q1'⟩:=Np uw cg Qqc (AaR (k:=k) ug) b1 t1;obtain⟨a2,r2,q2⟩:=AaR (k:=k) s b2 t2;obtain⟨a3,r3,q3,_⟩:=Np ub ce Qqc (Ug (k:=k) (Sj ue)) b3 t3;obtain⟨a4,r4,q4⟩:=Ug (k:=k) (Ps u4) b4 t4;obtain⟨a5,r5,q5⟩:=Ug (k:=k) (Ps u5) b5 t5;obtain⟨a6,r6,q6,q6'⟩:=Np up (r:=.Bu) hc Qqc ih b6 t6;refine⟨.mk a0 a1 a2 a3 a4 a5 a6,Rp.H8 ?_,fun d=>?_⟩
  ·have hcs:cs=(cs.drop 0).take 1++((cs.drop 1).take 1++((cs.drop 2).take 1++((cs.drop 3).take 1++((cs.drop 4).take 1++((cs.drop 5).take 1++(cs.drop 6).take 1))))):=by
    have h7:cs.length=7:=by rw [hl,hc]
    match cs,h7 with
    | [_,_,_,_,_,_,_],_=>rfl
   exact⟨_,_,hcs,r0,_,_,Z,r1,_,_,Z,r2,_,_,Z,r3,_,_,Z,r4,_,_,Z,r5,r6⟩
  ·cases d with
   | zero=>exact trivial
   | succ d=>exact⟨by show a1.length<=B;omega,by show a2.length<=B;omega,by show a3.length<=B;omega,by show a6.length<=B;omega,fun x hx=>by have:=q1' x hx;omega,q4,q5,fun p hp=>q6' p hp d⟩
end
end Go.Proofs.YtekmbcbgknmhiaaGreatDoor.O5
end
noncomputable section
namespace Go.Proofs.YtekmbcbgknmhiaaGreatDoor.O5
open Go Go.E Go.RowKit Go.ChangeShapes Go.WideShapes Go.Deep Go.L
section
variable {P:Program} {t e:TypeId} {k:Nat}
theorem Ahn{f0 f1 f2 f3 f4:Field}{tb ts tp te:TypeId}(ht:P.underlying t=some (.struct #[f0,f1,f2,f3,f4]))(hc:P.cellsOf t=5)
  (b:f0.offset=0) (c:f1.offset=1) (e:f2.offset=2) (g:f3.offset=3) (j:f4.offset=4)
  (l:P.underlying f0.type=some (.int .i64)) (m:P.underlying f1.type=some (.int .i64)) (o:f2.type=tb) (q:f3.type=ts) (s:f4.type=tp)
  (u:P.cellsOf f0.type=1) (c1:P.cellsOf f1.type=1) (c2:P.cellsOf tb=1) (c3:P.cellsOf ts=1) (c4:P.cellsOf tp=1)
  (ub:P.underlying tb=some (.slice te)) (ue:P.underlying te=some (.int .u8)) (ce:P.cellsOf te=1) {tg:TypeId} (us:P.underlying ts=some (.slice tg)) (ug:P.underlying tg=some .string) (cg:P.cellsOf tg=1) (up:P.underlying tp=some (.slice t)) (B:Nat) (k:Nat) (hB:k<=B):RB P t .tree (fun v=>∀ d,Sm B d v) k:=by
 induction k with
 | zero=>
  intro H enc w base spare held fuel cs x hk h;have:=one_le x.1;omega
 | succ k ih0=>
  intro H enc w base spare held fuel cs x hk h;subst o;subst q;subst s;obtain⟨xs,n,rfl,rfl,hl,hlen,hfs⟩:=DataW.trod_struct ht h;have ih:RB P t .tree (fun v=>∀ d,Sm B d v) k:=@ih0 U;simp only [Rows.uptoBulk] at hk
  have hb:∀ y∈xs,Rows.uptoBulk y.1<=k:=fun y hy=>by
   have:=UE (QkB (f:=fun z:DataW H×List MemPlace=>z.1) hy);omega
  have an:xs.length=5:=by simpa using hlen
  have get:∀ (i:Nat) (f:Field),(#[f0,f1,f2,f3,f4]:Array Field)[i]? = some f->i<5->P.cellsOf f.type=1->f.offset=i->∃ y:DataW H×List MemPlace,Rows.uptoBulk y.1<=k/\DataW.trod enc P w base spare held n f.type ((cs.drop i).take 1)=some y:=fun i f hf hi hcf hof=>by
   have a:=hfs i f hf;rw [hcf,hof,Qzw (by omega:i<xs.length)] at a;exact⟨_,hb _ (Qxj _),a⟩
  obtain⟨y0,b0,t0⟩:=get 0 f0 Z U u b;obtain⟨y1,b1,t1⟩:=get 1 f1 Z U c1 c;obtain⟨y2,b2,t2⟩:=get 2 f2 Z U c2 e;obtain⟨y3,b3,t3⟩:=get 3 f3 Z U c3 g;obtain⟨y4,b4,t4⟩:=get 4 f4 Z U c4 j;obtain⟨a0,r0,q0⟩:=Ug (k:=k) (Ps l) b0 t0;obtain⟨a1,r1,q1⟩:=Ug (k:=k) (Ps m) b1 t1;obtain⟨a2,r2,q2,_⟩:=Np ub ce Qqc (Ug (k:=k) (Sj ue)) b2 t2;obtain⟨a3,r3,q3,q3'⟩:=Np us cg Qqc (AaR (k:=k) ug) b3 t3;obtain⟨a4,r4,q4,q4'⟩:=Np up (r:=.tree) hc Qqc ih b4 t4;refine⟨.mk a0 a1 a2 a3 a4,Rp.ET ?_,fun d=>?_⟩
  ·have hcs:cs=(cs.drop 0).take 1++((cs.drop 1).take 1++((cs.drop 2).take 1++((cs.drop 3).take 1++(cs.drop 4).take 1))):=by
    have h5:cs.length=5:=by rw [hl,hc]
    match cs,h5 with
    | [_,_,_,_,_],_=>rfl
   exact⟨_,_,hcs,r0,_,_,Z,r1,_,_,Z,r2,_,_,Z,r3,r4⟩
  ·cases d with
   | zero=>exact trivial
   | succ d=>exact⟨by show a2.length<=B;omega,by show a3.length<=B;omega,by show a4.length<=B;omega,fun x hx=>by have:=q3' x hx;omega,q0,q1,fun p hp=>q4' p hp d⟩
theorem Ai3{f0 f1:Field}{tb tv te:TypeId}{ok:Pv->Prop}(ht:P.underlying t=some (.struct #[f0,f1]))(hc:P.cellsOf t=6)(c:f0.offset=0)(e:f1.offset=1)(g:f0.type=tb)(i:f1.type=tv)(j:P.cellsOf tb=1)(c1:P.cellsOf tv=5)
  (ub:P.underlying tb=some (.slice te)) (ue:P.underlying te=some (.int .u8)) (ce:P.cellsOf te=1) (hv:RB P tv .tree ok k):RB P t (.pair (.vec .byte) .tree) (fun d=>d.1.length<=k/\ok d.2) k:=fun {H enc w base spare held fuel cs x} hk h=>by
 subst g;subst i;obtain⟨xs,n,rfl,rfl,hl,hlen,hfs⟩:=DataW.trod_struct ht h;simp only [Rows.uptoBulk] at hk
 have hb:∀ y∈xs,Rows.uptoBulk y.1<=k:=fun y hy=>by
  have:=UE (QkB (f:=fun z:DataW H×List MemPlace=>z.1) hy);omega
 have p:xs.length=2:=by simpa using hlen
 have a:=hfs 0 f0 Z;have b:=hfs 1 f1 Z;rw [j,c,Qzw (by omega:0<xs.length)] at a;rw [c1,e,Qzw (by omega:1<xs.length)] at b;obtain⟨a0,r0,l,_⟩:=Np ub ce Qqc (Ug (k:=k) (Sj ue)) (hb _ (Qxj _)) a;obtain⟨a1,r1,m⟩:=hv (hb _ (Qxj _)) b;refine⟨(a0,a1),⟨(cs.drop 0).take 1,(cs.drop 1).take 5,?_,r0,r1⟩,l,m⟩;have o:cs.length=6:=by rw [hl,hc]
 match cs,o with
 | [_,_,_,_,_,_],_=>rfl
end
end Go.Proofs.YtekmbcbgknmhiaaGreatDoor.O5
end
noncomputable section
namespace Go.Proofs.YtekmbcbgknmhiaaGreatDoor
open Go Go.E Go.Shelf Go.Lib
def u8ren:Ren:=⟨fun n=>n,fun | 119=>349 | 138=>351 | 139=>352 | n=>n,fun | 3=>4 | 4=>5 | n=>n⟩
theorem u8types:U8Types Tryz.prog u8ren:=⟨Tryz.underlying5,Tryz.underlying349,Tryz.underlying351,Tryz.underlying352⟩
def laidU : List (String × DataW Unit) := [("math/bits.deBruijn32tab", Rows.laid_math_bits_deBruijn32tab), ("math/bits.deBruijn64tab", Rows.laid_math_bits_deBruijn64tab), ("internal/strconv.uint64pow10", Rows.laid_internal_strconv_uint64pow10), ("unicode/utf8.acceptRanges", Rows.laid_unicode_utf8_acceptRanges), ("strconv.ErrRange", Rows.laid_strconv_ErrRange), ("strconv.ErrSyntax", Rows.laid_strconv_ErrSyntax), ("unicode/utf8.first", Rows.laid_unicode_utf8_first)]
theorem star : "*" ++ "errors.errorString" = "*errors.errorString" := by decide
theorem row364 (u : TypeId) (h : Tryz.prog.typeName? 3 u = some "*errors.errorString") : u = 364 :=
 typeName_ptr_named (nm := "errors.errorString") (by rw [star]; kernel_rfl) (by kernel_rfl) (by decide) u (by rw [star]; exact h)
theorem var_le{W w:World}{n:String}{cs:Array Value}(hs:Le (hp W) (hp w))(h:W.var? Tryz.prog n=some cs):w.var? Tryz.prog n=some cs:=by
 unfold World.var? at h ⊢
 cases hg:Tryz.prog.globalNamed n with
 | none=>rw [hg] at h;cases h
 | some g=>
  rw [hg] at h;simp only [Qq5] at h ⊢
  cases ho:W.heap[g]? with
  | none=>rw [ho] at h;cases h
  | some o=>rw [ho] at h;rw [show w.heap[g]? = some o from hs g o ho];exact h
theorem cell_of_var{W:World}{n:String}{g:Nat}{v:Value}(hg:Tryz.prog.globalNamed n=some g)(h:W.var? Tryz.prog n=some #[v]):IE (hp W) ⟨g,0,none⟩=some v:=by
 rw [Y4,World.var?_cell hg h 0]
 rfl
theorem utab_of_laid{W:World}(h:laidMetH Tryz.prog laidU W):Gq (hp W):=by
 rw [MakeChecks.laidMetH_plain _ _ _ Qqb] at h;have i:Rows.laid_unicode_utf8_first=firstData:=by kernel_rfl
 have j:(Rows.laid_unicode_utf8_acceptRanges:DataW Unit)=acceptData:=by kernel_rfl
 have k:(Rows.laid_internal_strconv_uint64pow10:DataW Unit)=tabData .u64 pow10Tab:=by kernel_rfl
 have b := laidMet.reads h (n := "unicode/utf8.acceptRanges") (d := Rows.laid_unicode_utf8_acceptRanges) (by simp [laidU])
 have h2 := laidMet.reads h (n := "unicode/utf8.first") (d := Rows.laid_unicode_utf8_first) (by simp [laidU])
 rw [j] at b;rw [i] at h2;have ht := utf8Tabs_of_readsT u8types ⟨by kernel_rfl, by kernel_rfl, by kernel_rfl, by kernel_rfl, by kernel_rfl, by kernel_rfl, by kernel_rfl⟩ h2 b;have hT : laidMet Tryz.prog (("internal/strconv.uint64pow10", tabData .u64 pow10Tab) :: _) W := k ▸ h.tail.tail
 have a : TabIs Tryz.prog W "internal/strconv.uint64pow10" .u64 pow10Tab := tabIs_of_head (g := 1) (t := 305) (e := 205) (n := 20) (by kernel_rfl) (by kernel_rfl) Tryz.underlying305 Tryz.underlying205 (by kernel_rfl) (by kernel_rfl) hT
 obtain⟨a1,l,c,_⟩:=laid_sentinel (g:=3) h.tail.tail.tail.tail Qqb Qqb Tryz.underlying167 row364 Tryz.underlying364 Tryz.underlying366 Z Z Tryz.underlying9 Qqb Qqb;obtain⟨a2,m,f,_⟩:=laid_sentinel (g:=2) h.tail.tail.tail.tail.tail Qqb Qqb Tryz.underlying167 row364 Tryz.underlying364 Tryz.underlying366 Z Z Tryz.underlying9 Qqb Qqb;exact⟨⟨ht.1,ht.2⟩,fun w hw=>var_le hw a,⟨_,_,cell_of_var Qqb f⟩,⟨_,_,cell_of_var Qqb c⟩⟩
def laidWorld(os:Os):World:=
 let N:=(World.settled Tryz.prog os).heap.size
 let a:=World.holding Tryz.prog os ⟨#[.cells #[.string ⟨#[118,97,108,117,101,32,111,117,116,32,111,102,32,114,97,110,103,101]⟩] 366,.cells #[.string ⟨#[105,110,118,97,108,105,100,32,115,121,110,116,97,120]⟩] 366],#[],[]⟩
 let put (h:Array Obj) (g:Nat) (cs:Array Value):Array Obj:=h.modify g fun
  | .cells _ t frozen=>.cells cs t frozen
  | o=>o
 let b:=put (put a.heap 3 #[.iface 364 (.pointer (some ⟨N,0,none⟩))]) 2 #[.iface 364 (.pointer (some ⟨N+1,0,none⟩))]
 let c:=put (put b 4 (Lib.firstTab.map fun z=>Value.int .u8 z).toArray) 5 ((Qzv 16).flatMap fun i=>[Value.int .u8 (Lib.accLo i),Value.int .u8 (Lib.accHi i)]).toArray
 let h2:=put c 1 (pow10Tab.map (Value.int .u64)).toArray
 let nums (d:DataW Unit):Array Value:=match d with
  | .agg l=>(l.map fun | .lit (.int k z)=>Value.int k z | _=>.int .u8 0).toArray
  | _=>#[]
 let h3:=put (put h2 6 (nums Rows.laid_math_bits_deBruijn32tab)) 7 (nums Rows.laid_math_bits_deBruijn64tab)
 {a with heap:=h3}
set_option maxRecDepth 100000 in
theorem door_met(os:Os)(args:Array Value):laidMetH Tryz.prog laidU ((laidWorld os).forCall (fun _ _=>0) ⟨#[],args,[]⟩).memory:=
 laidMetH_of_parts3 (fuel:=12) (laidMet_of_run' 12 Qqb Qqb) Qqb Qqb
end Go.Proofs.YtekmbcbgknmhiaaGreatDoor
end
