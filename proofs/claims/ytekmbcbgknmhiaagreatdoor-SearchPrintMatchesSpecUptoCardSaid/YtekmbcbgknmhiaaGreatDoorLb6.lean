/- Texts of a claim, merged. -/
import Derived.Test.YtekmbcbgknmhiaaGreatDoorLb5
import Derived.KernelRfl
set_option linter.unusedVariables false
set_option linter.unusedSimpArgs false
open _root_.Go.Proofs.Tryz renaming underlying3→AaT,underlying5→Ab9,underlying22→AbE,underlying26→AbP,underlying9→Abb,underlying23→Abe,underlying28→Abs,underlying24→AcV,underlying86→AcW,underlying82→Ada,underlying173→Adg,underlying20→Adh
noncomputable section
namespace Go.Proofs.YtekmbcbgknmhiaaGreatDoor
open Go Go.E Go.RowKit Go.L
set_option maxHeartbeats 1000000
set_option maxRecDepth 10000
open _root_.Go.Proofs.Tryz
def HK(a0:Go.L.Qv):Option (Int):=
 Option.bind (HG a0.f.2.2.1) (fun a=>if a.1=(0:Int) then(if a0.f.1=(3:Int) then if((!decide ((1:Int)≤a0.f.2.2.2.2.1∧a0.f.2.2.2.2.1≤(2048:Int)))||((decide (a0.f.1=(6:Int)))&&(decide (a0.f.2.2.2.2.2.1<a0.f.2.2.2.2.1)))) then some ((4:Int)) else(if((decide (a0.f.1=(4:Int)))&&(decide ((a0.f.2.2.2.1.length:Int)=(0:Int)))) then some ((10:Int)) else(if(64:Int)<(a0.f.2.2.2.1.length:Int) then some ((3:Int)) else some ((0:Int)))) else if((decide (a0.f.1=(6:Int)))&&(decide (a0.f.2.2.2.2.2.1<a0.f.2.2.2.2.1))) then some ((4:Int)) else(if((decide (a0.f.1=(4:Int)))&&(decide ((a0.f.2.2.2.1.length:Int)=(0:Int)))) then some ((10:Int)) else(if(64:Int)<(a0.f.2.2.2.1.length:Int) then some ((3:Int)) else some ((0:Int))))) else some (a.1))
def FE(a0:Go.L.Qv):Int→Option ((Int) ⊕ (Int)):=fun a=>
 if a<(a0.f.2.1.length:Int) then AU (0≤a∧a<(a0.f.2.1.length:Int)) (Option.bind (J7 (a0.f.2.1.getD a.toNat default)) (fun b=>if b.1=(0:Int) then AU (BL (a+(1:Int))) (some (Sum.inl (a+(1:Int)))) else Option.map Sum.inr (some (b.1)))) else Option.map Sum.inr ((HK a0))
def LA(a0:Go.L.Qv)(s:Int):Option (Int):=Go.L.run (FE a0) s
def Dh(a0:Go.L.Qv):Option (Int):=
 (LA a0) (0:Int)
def Ec(a0:Go.L.Qv):Int→Option ((Int) ⊕ (Int)):=fun a=>
 if((decide (a<(a0.f.2.2.2.2.2.2.length:Int)))&&(decide (a0.f.1<(10:Int)))) then AU (0≤a∧a<(a0.f.2.2.2.2.2.2.length:Int)) (if(a0.f.2.2.2.2.2.2.getD a.toNat default).f.1=a0.f.1 then Option.map Sum.inr (some ((6:Int))) else AU (BL (a+(1:Int))) (some (Sum.inl (a+(1:Int))))) else Option.map Sum.inr ((Dh a0))
def LB(a0:Go.L.Qv)(s:Int):Option (Int):=Go.L.run (Ec a0) s
def HL(a0:Go.L.Qv):Option (Int):=
 (LB a0) (0:Int)
def JB(a0:Go.L.Qv):Option (Int):=
 if(1:Int)≤a0.f.1∧a0.f.1≤(10:Int) then AU (0≤a0.f.1∧a0.f.1<(11:Int)) (AU (0≤a0.f.1∧a0.f.1<(11:Int)) (if(((!decide ((([(0:Int),(1:Int),(2:Int),(2:Int),(0:Int),(0:Int),(0:Int),(0:Int),(0:Int),(0:Int),(0:Int)]:List Int).getD a0.f.1.toNat default)≤(a0.f.2.1.length:Int)∧(a0.f.2.1.length:Int)≤(([(0:Int),(1:Int),(16:Int),(2:Int),(0:Int),(0:Int),(0:Int),(0:Int),(0:Int),(0:Int),(0:Int)]:List Int).getD a0.f.1.toNat default)))||((!decide ((5:Int)≤a0.f.1∧a0.f.1≤(7:Int)))&&(!decide (a0.f.2.2.1=([]:AaK)))))||(((!decide (a0.f.1=(4:Int)))&&(!decide (a0.f.1=(7:Int))))&&(decide ((0:Int)<(a0.f.2.2.2.1.length:Int))))) then some ((6:Int)) else(if((((!decide (a0.f.1=(3:Int)))&&(!decide (a0.f.1=(6:Int))))&&(!decide (a0.f.2.2.2.2.1=(0:Int))))||((!decide (a0.f.1=(6:Int)))&&(!decide (a0.f.2.2.2.2.2.1=(0:Int))))) then some ((6:Int)) else(if(((decide (a0.f.1<(8:Int)))&&(decide ((0:Int)<(a0.f.2.2.2.2.2.2.length:Int))))||((decide (a0.f.1=(10:Int)))&&(!decide ((a0.f.2.2.2.2.2.2.length:Int)=(1:Int))))) then some ((6:Int)) else if((decide ((8:Int)≤a0.f.1∧a0.f.1≤(9:Int)))&&(decide ((a0.f.2.2.2.2.2.2.length:Int)<(2:Int)))) then some ((6:Int)) else(HL a0))))) else some ((5:Int))
theorem Pm(w:World)(H:PH)(hH:Le H (hp w)){a0:Go.L.Qv}{am:Value}{an:Value}{ao:Value}(a2:AI .st H am (a0.f.2.1))(av:AI .byte H an (a0.f.2.2.2.1))(aw:AI .Bc H ao (a0.f.2.2.2.2.2.2)){r:Int}(h:JB a0=some r):
  Ok Tryz.prog 67 [.agg #[No a0.f.1,am,AaJ a0.f.2.2.1,an,No a0.f.2.2.2.2.1,No a0.f.2.2.2.2.2.1,ao]] w (fun v w'=>Ext w w'∧v=No r):=by
 refine A4 (n:=190) [(0,.agg #[No a0.f.1,am,AaJ a0.f.2.2.1,an,No a0.f.2.2.2.2.1,No a0.f.2.2.2.2.2.1,ao])] func67 rfl rfl rfl rfl rfl ?_;have hL:=AO.start w;refine Ak<|CK (t:=26) rfl rfl rfl hL fun w1 b1 bf dh _=>AA 1 rfl<|A7<|Ak<|Ae (Af rfl AbP rfl Cc (by decide)) rfl<|Ae (Ag 0 rfl AaT rfl bf rfl rfl) rfl<|AF rfl rfl bf (Xh _ _ (As hH bf)) fun w2 ea cq di=>AA 1 rfl<|Cl rfl h (fun cy h=>?_) (fun cy h=>?_)
 ·refine A9 1 rfl<|Ay<|Av ?_
  cases h
  refine Am rfl rfl ?_;exact⟨cq.ext,rfl⟩
 refine Au<|Ao<|Ak<|Ae (AZ rfl (fun _=>GU _ _ _ _ _ _ _ _ _ _ _ _)) rfl<|AG Wl rfl rfl cq fun w6 b6 cz dj _=>Aj 0 rfl rfl rfl Wl cz rfl rfl (AH rfl (AH rfl (AH rfl (AH rfl (AH rfl (AH rfl (AH rfl (AH rfl (AH rfl (AH rfl (AH rfl Cj))))))))))) fun w7 c0 dk=>Ac<|Ak<|Ae (AZ rfl (fun _=>GU _ _ _ _ _ _ _ _ _ _ _ _)) rfl<|AG Wl rfl rfl c0 fun w8 b8 c1 dl _=>Aj 0 rfl rfl rfl Wl c1 rfl rfl (AH rfl (AH rfl (AH rfl (AH rfl (AH rfl (AH rfl (AH rfl (AH rfl (AH rfl (AH rfl (AH rfl Cj))))))))))) fun w9 c2 dm=>Ac ?_;refine A7<|EH (.q 0 (.q 1 (.q 2 (.q 3 (.q 4 (.q 5 (.q 6 (.q 7 (.q 8 (.q 9 (.q 10 (.q 11 (.q 12 (.q 13 (.q 14 (.q 15 (.q 16 (.q 17 (.q 18 (.q 19 (.q 20 (.q 21 (.q 22 (.q 23 (.q 24 (.q 25 (.q 26 (.q 27 (.q 28 (.q 29 (.q 30 (.q 31 (.q 32 (.q 33 (.q 34 (.q 35 (.q 36 (.q 37 (.q 38 (.q 39 (.tail 40))))))))))))))))))))))))))))))))))))))))) mixed (by kernel_rfl) (fun eb cr=>?_);have ab:=c2.call cr;refine BH (Af rfl AbP rfl Jm (by decide)) rfl rfl<|BH (Ag 2 rfl AbE rfl ab rfl rfl) rfl rfl<|BH (Bo rfl AbE a2) rfl rfl<|BH (Af rfl AbP rfl Cc (by decide)) rfl rfl ?_
 refine BH (Ag 2 rfl AaT rfl ab rfl rfl) rfl rfl ?_;refine Az h fun bi h=>?_;refine BH (U6 rfl rfl Adg Cc rfl bi rfl) rfl rfl<|BH (Wk (l:=([(0:Int),(1:Int),(2:Int),(2:Int),(0:Int),(0:Int),(0:Int),(0:Int),(0:Int),(0:Int),(0:Int)]:List Int)) 1 _ rfl AaT ab rfl rfl (AW bi)) rfl rfl<|BH (Af rfl AbP rfl Cc (by decide)) rfl rfl<|BH (Ag 2 rfl AaT rfl ab rfl rfl) rfl rfl ?_;refine Az h fun bj h=>?_;refine BH (U6 rfl rfl Adg Cc rfl bj rfl) rfl rfl<|BH (Wk (l:=([(0:Int),(1:Int),(16:Int),(2:Int),(0:Int),(0:Int),(0:Int),(0:Int),(0:Int),(0:Int),(0:Int)]:List Int)) 0 _ rfl AaT ab rfl rfl (AW bj)) rfl rfl<|EI rfl rfl rfl (fun ec dn=>Xh _ _ (Le.refl _))<|CD 2 rfl<|U7 10 38 (.bool ((!decide ((([(0:Int),(1:Int),(2:Int),(2:Int),(0:Int),(0:Int),(0:Int),(0:Int),(0:Int),(0:Int),(0:Int)]:List Int).getD a0.f.1.toNat default)≤(a0.f.2.1.length:Int)∧(a0.f.2.1.length:Int)≤(([(0:Int),(1:Int),(16:Int),(2:Int),(0:Int),(0:Int),(0:Int),(0:Int),(0:Int),(0:Int),(0:Int)]:List Int).getD a0.f.1.toNat default)))||((!decide ((5:Int)≤a0.f.1∧a0.f.1≤(7:Int)))&&(!decide (a0.f.2.2.1=([]:AaK)))))) (fun bk=>?_) ?_
 ·refine Js (s:=28) rfl (fun j=>?_) (fun j=>?_)
  ·iterate 5 refine LV rfl rfl rfl rfl j rfl ?_
   iterate 3 refine XF rfl rfl rfl rfl rfl ?_
   refine LV rfl rfl rfl rfl j rfl<|BH (A1 rfl j rfl) rfl rfl<|bk.to 9 (O9 j) rfl rfl
  refine GP (Af rfl AbP rfl Cc (by decide)) rfl rfl rfl rfl j rfl<|GP (Ag 2 rfl AaT rfl ab rfl rfl) rfl rfl rfl rfl j rfl<|Tj rfl rfl rfl rfl j rfl rfl (fun ed dp=>Xh _ _ (Le.refl _)) ?_
  iterate 2 refine GP (Ad rfl) rfl rfl rfl rfl j rfl ?_
  refine U7 4 37 (.bool ((!decide ((5:Int)≤a0.f.1∧a0.f.1≤(7:Int)))&&(!decide (a0.f.2.2.1=([]:AaK))))) (fun bl=>?_) ?_
  ·refine Js (s:=33) rfl (fun ah=>?_) (fun ah=>?_)
   ·refine GP (Af rfl AbP rfl Fu (by decide)) rfl rfl rfl rfl ah rfl<|GP (Ag 2 rfl Abb rfl ab rfl rfl) rfl rfl rfl rfl ah rfl<|GP (ML rfl rfl) rfl rfl rfl rfl ah rfl<|GP (A1 rfl ah rfl) rfl rfl rfl rfl j rfl<|bl.to 3 (Kk ah) rfl rfl
   iterate 3 refine LV rfl rfl rfl rfl ah rfl ?_
   refine GP (A3 rfl ah rfl) rfl rfl rfl rfl j rfl<|bl.to 3 (Kl ah) rfl rfl
  refine BH (A3 rfl j rfl) rfl rfl<|bk.to 6 (OA j) rfl rfl
 refine CD 1 rfl<|U7 15 54 (.bool (((!decide ((([(0:Int),(1:Int),(2:Int),(2:Int),(0:Int),(0:Int),(0:Int),(0:Int),(0:Int),(0:Int),(0:Int)]:List Int).getD a0.f.1.toNat default)≤(a0.f.2.1.length:Int)∧(a0.f.2.1.length:Int)≤(([(0:Int),(1:Int),(16:Int),(2:Int),(0:Int),(0:Int),(0:Int),(0:Int),(0:Int),(0:Int),(0:Int)]:List Int).getD a0.f.1.toNat default)))||((!decide ((5:Int)≤a0.f.1∧a0.f.1≤(7:Int)))&&(!decide (a0.f.2.2.1=([]:AaK)))))||(((!decide (a0.f.1=(4:Int)))&&(!decide (a0.f.1=(7:Int))))&&(decide ((0:Int)<(a0.f.2.2.2.1.length:Int)))))) (fun bm=>?_) ?_
 ·refine Js (s:=39) rfl (fun c=>?_) (fun c=>?_)
  ·iterate 4 refine LV rfl rfl rfl rfl c rfl ?_
   iterate 3 refine XF rfl rfl rfl rfl rfl ?_
   iterate 2 refine LV rfl rfl rfl rfl c rfl ?_
   iterate 4 refine XF rfl rfl rfl rfl rfl ?_
   refine LV rfl rfl rfl rfl c rfl<|BH (A1 rfl c rfl) rfl rfl<|bm.to 14 (O9 c) rfl rfl
  refine GP (Af rfl AbP rfl Cc (by decide)) rfl rfl rfl rfl c rfl<|GP (Ag 2 rfl AaT rfl ab rfl rfl) rfl rfl rfl rfl c rfl ?_
  iterate 2 refine GP (Ad rfl) rfl rfl rfl rfl c rfl ?_
  refine U7 4 47 (.bool ((!decide (a0.f.1=(4:Int)))&&(!decide (a0.f.1=(7:Int))))) (fun bn=>?_) ?_
  ·refine Js (s:=43) rfl (fun ai=>?_) (fun ai=>?_)
   ·refine GP (Af rfl AbP rfl Cc (by decide)) rfl rfl rfl rfl ai rfl<|GP (Ag 2 rfl AaT rfl ab rfl rfl) rfl rfl rfl rfl ai rfl<|GP (Ad rfl) rfl rfl rfl rfl ai rfl<|GP (A1 rfl ai rfl) rfl rfl rfl rfl c rfl<|bn.to 3 (Kk ai) rfl rfl
   iterate 3 refine LV rfl rfl rfl rfl ai rfl ?_
   refine GP (A3 rfl ai rfl) rfl rfl rfl rfl c rfl<|bn.to 3 (Kl ai) rfl rfl
  refine GP (Ad rfl) rfl rfl rfl rfl c rfl<|U7 5 53 (.bool (((!decide (a0.f.1=(4:Int)))&&(!decide (a0.f.1=(7:Int))))&&(decide ((0:Int)<(a0.f.2.2.2.1.length:Int))))) (fun bo=>?_) ?_
  ·refine Js (s:=48) rfl (fun ad=>?_) (fun ad=>?_)
   ·refine GP (Af rfl AbP rfl Fw (by decide)) rfl rfl rfl rfl ad rfl<|GP (Ag 2 rfl Abe rfl ab rfl rfl) rfl rfl rfl rfl ad rfl<|GP (Bo rfl Abe av) rfl rfl rfl rfl ad rfl<|GP (Ad rfl) rfl rfl rfl rfl ad rfl<|GP (A1 rfl ad rfl) rfl rfl rfl rfl c rfl<|bo.to 4 (Kk ad) rfl rfl
   iterate 4 refine LV rfl rfl rfl rfl ad rfl ?_
   refine GP (A3 rfl ad rfl) rfl rfl rfl rfl c rfl<|bo.to 4 (Kl ad) rfl rfl
  refine BH (A3 rfl c rfl) rfl rfl<|bm.to 7 (OA c) rfl rfl
 refine BQ (fun ee cs=>?_);have d:=ab.call cs;refine Ac<|Bl rfl h (fun ct h=>?_) (fun ct h=>?_)
 ·refine A9 1 rfl<|Ay<|Av ?_
  cases h
  refine Am rfl rfl ?_;exact⟨d.ext,rfl⟩
 refine Au<|Ao<|A7<|Ak<|Ae (Af rfl AbP rfl Cc (by decide)) rfl<|Ae (Ag 2 rfl AaT rfl d rfl rfl) rfl<|Aq 2 rfl<|G9 4 62 (.bool ((!decide (a0.f.1=(3:Int)))&&(!decide (a0.f.1=(6:Int))))) (fun bp=>?_) ?_
 ·refine AQ (s:=58) rfl (fun aj=>?_) (fun aj=>?_)
  ·refine Aa rfl rfl aj<|Ae (Af rfl AbP rfl Cc (by decide)) rfl<|Aa rfl rfl aj<|Ae (Ag 2 rfl AaT rfl d rfl rfl) rfl<|Aa rfl rfl aj<|Ae (Ad rfl) rfl<|Ae (A1 rfl aj rfl) rfl<|bp.to 3 (Kk aj) rfl rfl
  iterate 3 refine Ai rfl rfl aj rfl ?_
  refine Ae (A3 rfl aj rfl) rfl<|bp.to 3 (Kl aj) rfl rfl
 refine Aq 1 rfl<|G9 4 67 (.bool (((!decide (a0.f.1=(3:Int)))&&(!decide (a0.f.1=(6:Int))))&&(!decide (a0.f.2.2.2.2.1=(0:Int))))) (fun bq=>?_) ?_
 ·refine AQ (s:=63) rfl (fun ak=>?_) (fun ak=>?_)
  ·refine Aa rfl rfl ak<|Ae (Af rfl AbP rfl Cc (by decide)) rfl<|Aa rfl rfl ak<|Ae (Ag 2 rfl AaT rfl d rfl rfl) rfl<|Aa rfl rfl ak<|Ae (Ad rfl) rfl<|Ae (A1 rfl ak rfl) rfl<|bq.to 3 (Kk ak) rfl rfl
  iterate 3 refine Ai rfl rfl ak rfl ?_
  refine Ae (A3 rfl ak rfl) rfl<|bq.to 3 (Kl ak) rfl rfl
 refine Aq 1 rfl<|G9 9 77 (.bool ((((!decide (a0.f.1=(3:Int)))&&(!decide (a0.f.1=(6:Int))))&&(!decide (a0.f.2.2.2.2.1=(0:Int))))||((!decide (a0.f.1=(6:Int)))&&(!decide (a0.f.2.2.2.2.2.1=(0:Int)))))) (fun br=>?_) ?_
 ·refine AQ (s:=68) rfl (fun k=>?_) (fun k=>?_)
  ·iterate 4 refine Ai rfl rfl k rfl ?_
   iterate 3 refine Ce rfl rfl rfl ?_
   refine Ai rfl rfl k rfl<|Ae (A1 rfl k rfl) rfl<|br.to 8 (O9 k) rfl rfl
  refine Aa rfl rfl k<|Ae (Af rfl AbP rfl Cc (by decide)) rfl<|Aa rfl rfl k<|Ae (Ag 2 rfl AaT rfl d rfl rfl) rfl<|Aa rfl rfl k<|Ae (Ad rfl) rfl<|Aa rfl rfl k<|Ae (Ad rfl) rfl<|G9 4 76 (.bool ((!decide (a0.f.1=(6:Int)))&&(!decide (a0.f.2.2.2.2.2.1=(0:Int))))) (fun bs=>?_) ?_
  ·refine AQ (s:=72) rfl (fun al=>?_) (fun al=>?_)
   ·refine Aa rfl rfl al<|Ae (Af rfl AbP rfl Cc (by decide)) rfl<|Aa rfl rfl al<|Ae (Ag 2 rfl AaT rfl d rfl rfl) rfl<|Aa rfl rfl al<|Ae (Ad rfl) rfl<|Aa rfl rfl k<|Ae (A1 rfl al rfl) rfl<|bs.to 3 (Kk al) rfl rfl
   iterate 3 refine Ai rfl rfl al rfl ?_
   refine Aa rfl rfl k<|Ae (A3 rfl al rfl) rfl<|bs.to 3 (Kl al) rfl rfl
  refine Ae (A3 rfl k rfl) rfl<|br.to 5 (OA k) rfl rfl
 refine Ac<|Bl rfl h (fun cu h=>?_) (fun cu h=>?_)
 ·refine A9 1 rfl<|Ay<|Av ?_
  cases h
  refine Am rfl rfl ?_;exact⟨d.ext,rfl⟩
 refine Au<|Ao<|Bn (σ:=Unit) (fun(_:Unit)=>[(1,(AaH b1))]) (fun(_:Unit) wr=>AO w [.box b8 [No (0:Int),No (1:Int),No (16:Int),No (2:Int),No (0:Int),No (0:Int),No (0:Int),No (0:Int),No (0:Int),No (0:Int),No (0:Int)] 173,.box b6 [No (0:Int),No (1:Int),No (2:Int),No (2:Int),No (0:Int),No (0:Int),No (0:Int),No (0:Int),No (0:Int),No (0:Int),No (0:Int)] 173,.box b1 [No a0.f.1,am,AaJ a0.f.2.2.1,an,No a0.f.2.2.2.2.1,No a0.f.2.2.2.2.2.1,ao] 26] wr∧(HL a0)=some r) ?_ ?_
 ·refine Ak<|Ae (Af rfl AbP rfl Cc (by decide)) rfl<|Ae (Ag 2 rfl AaT rfl d rfl rfl) rfl<|Aq 2 rfl<|G9 5 86 (.bool ((decide (a0.f.1<(8:Int)))&&(decide ((0:Int)<(a0.f.2.2.2.2.2.2.length:Int))))) (fun bt=>?_) ?_
  ·refine AQ (s:=81) rfl (fun ae=>?_) (fun ae=>?_)
   ·refine Aa rfl rfl ae<|Ae (Af rfl AbP rfl Hr (by decide)) rfl<|Aa rfl rfl ae<|Ae (Ag 2 rfl AcV rfl d rfl rfl) rfl<|Aa rfl rfl ae<|Ae (Bo rfl AcV aw) rfl<|Aa rfl rfl ae<|Ae (Ad rfl) rfl<|Ae (A1 rfl ae rfl) rfl<|bt.to 4 (Kk ae) rfl rfl
   iterate 4 refine Ai rfl rfl ae rfl ?_
   refine Ae (A3 rfl ae rfl) rfl<|bt.to 4 (Kl ae) rfl rfl
  refine Aq 1 rfl<|G9 10 97 (.bool (((decide (a0.f.1<(8:Int)))&&(decide ((0:Int)<(a0.f.2.2.2.2.2.2.length:Int))))||((decide (a0.f.1=(10:Int)))&&(!decide ((a0.f.2.2.2.2.2.2.length:Int)=(1:Int)))))) (fun bu=>?_) ?_
  ·refine AQ (s:=87) rfl (fun m=>?_) (fun m=>?_)
   ·iterate 4 refine Ai rfl rfl m rfl ?_
    iterate 4 refine Ce rfl rfl rfl ?_
    refine Ai rfl rfl m rfl<|Ae (A1 rfl m rfl) rfl<|bu.to 9 (O9 m) rfl rfl
   refine Aa rfl rfl m<|Ae (Af rfl AbP rfl Cc (by decide)) rfl<|Aa rfl rfl m<|Ae (Ag 2 rfl AaT rfl d rfl rfl) rfl<|Aa rfl rfl m<|Ae (Ad rfl) rfl<|Aa rfl rfl m<|Ae (Ad rfl) rfl<|G9 5 96 (.bool ((decide (a0.f.1=(10:Int)))&&(!decide ((a0.f.2.2.2.2.2.2.length:Int)=(1:Int))))) (fun bv=>?_) ?_
   ·refine AQ (s:=91) rfl (fun af=>?_) (fun af=>?_)
    ·refine Aa rfl rfl af<|Ae (Af rfl AbP rfl Hr (by decide)) rfl<|Aa rfl rfl af<|Ae (Ag 2 rfl AcV rfl d rfl rfl) rfl<|Aa rfl rfl af<|Ae (Bo rfl AcV aw) rfl<|Aa rfl rfl af<|Ae (Ad rfl) rfl<|Aa rfl rfl m<|Ae (A1 rfl af rfl) rfl<|bv.to 4 (Kk af) rfl rfl
    iterate 4 refine Ai rfl rfl af rfl ?_
    refine Aa rfl rfl m<|Ae (A3 rfl af rfl) rfl<|bv.to 4 (Kl af) rfl rfl
   refine Ae (A3 rfl m rfl) rfl<|bu.to 5 (OA m) rfl rfl
  refine Aq 1 rfl<|AQ (s:=98) rfl (fun o=>?_) (fun o=>?_)
  ·have h:=G5 o h
   iterate 4 refine Ai rfl rfl o rfl ?_
   iterate 4 refine Ce rfl rfl rfl ?_
   refine Ai rfl rfl o rfl<|Ae (A1 rfl o rfl) rfl<|Ac<|Cy rfl<|A9 1 rfl<|Ay<|Bt ?_
   cases h
   refine Am rfl rfl ?_;exact⟨d.ext,rfl⟩
  have h:=G6 o h;refine Aa rfl rfl o<|Ae (Af rfl AbP rfl Cc (by decide)) rfl<|Aa rfl rfl o<|Ae (Ag 2 rfl AaT rfl d rfl rfl) rfl<|Aa rfl rfl o<|AF rfl rfl d (Xh _ _ (As hH d)) fun ef dq a3 da=>Aa rfl rfl o<|Ae (Ad rfl) rfl<|G9 5 107 (.bool ((decide ((8:Int)≤a0.f.1∧a0.f.1≤(9:Int)))&&(decide ((a0.f.2.2.2.2.2.2.length:Int)<(2:Int))))) (fun bw=>?_) ?_
  ·refine AQ (s:=102) rfl (fun ag=>?_) (fun ag=>?_)
   ·refine Aa rfl rfl ag<|Ae (Af rfl AbP rfl Hr (by decide)) rfl<|Aa rfl rfl ag<|Ae (Ag 2 rfl AcV rfl a3 rfl rfl) rfl<|Aa rfl rfl ag<|Ae (Bo rfl AcV aw) rfl<|Aa rfl rfl ag<|Ae (Ad rfl) rfl<|Aa rfl rfl o<|Ae (A1 rfl ag rfl) rfl<|bw.to 4 (Kk ag) rfl rfl
   iterate 4 refine Ai rfl rfl ag rfl ?_
   refine Aa rfl rfl o<|Ae (A3 rfl ag rfl) rfl<|bw.to 4 (Kl ag) rfl rfl
  refine Ae (A3 rfl o rfl) rfl<|Ac<|Bl rfl h (fun cv h=>?_) (fun cv h=>?_)
  ·refine A9 1 rfl<|Ay<|Bt ?_
   cases h
   refine Am rfl rfl ?_;exact⟨a3.ext,rfl⟩
  refine Au<|A6 () (Sub.of rfl) ⟨a3,h⟩
 rintro _ dr ⟨cw,h⟩;refine Bn (σ:=Unit) (fun(_:Unit)=>[(1,(AaH b1))]) (fun(_:Unit) wr=>AO w [.box b8 [No (0:Int),No (1:Int),No (16:Int),No (2:Int),No (0:Int),No (0:Int),No (0:Int),No (0:Int),No (0:Int),No (0:Int),No (0:Int)] 173,.box b6 [No (0:Int),No (1:Int),No (2:Int),No (2:Int),No (0:Int),No (0:Int),No (0:Int),No (0:Int),No (0:Int),No (0:Int),No (0:Int)] 173,.box b1 [No a0.f.1,am,AaJ a0.f.2.2.1,an,No a0.f.2.2.2.2.1,No a0.f.2.2.2.2.2.1,ao] 26] wr∧(Dh a0)=some r) ?_ ?_
 ·refine A9 1 rfl<|A2 ?_;obtain⟨a4,h⟩:=AY h;refine Bw (σ:=Int×Nat) (fun⟨z,n⟩=>[(1,(AaH b1)),(5,No z)]) (fun⟨z,n⟩ wr=>AO w [.box b8 [No (0:Int),No (1:Int),No (16:Int),No (2:Int),No (0:Int),No (0:Int),No (0:Int),No (0:Int),No (0:Int),No (0:Int),No (0:Int)] 173,.box b6 [No (0:Int),No (1:Int),No (2:Int),No (2:Int),No (0:Int),No (0:Int),No (0:Int),No (0:Int),No (0:Int),No (0:Int),No (0:Int)] 173,.box b1 [No a0.f.1,am,AaJ a0.f.2.2.1,an,No a0.f.2.2.2.2.1,No a0.f.2.2.2.2.2.1,ao] 26] wr∧FT (Ec a0) n z=some r) (fun⟨z,n⟩=>n) ((0:Int),a4) (Sub.of rfl) ⟨cw,h⟩ ?_;rintro⟨z,nn114⟩ db ⟨aq,h⟩;obtain⟨a4,ds,rfl,h,ay⟩:=AX h;refine A7<|Bk 1 rfl<|Ae (Af rfl AbP rfl Hr (by decide)) rfl<|Ae (Ag 2 rfl AcV rfl aq rfl rfl) rfl<|Ae (Bo rfl AcV aw) rfl<|Aq 2 rfl<|G9 4 118 (.bool ((decide (z<(a0.f.2.2.2.2.2.2.length:Int)))&&(decide (a0.f.1<(10:Int))))) (fun a6=>?_) ?_
  ·refine AQ (s:=114) rfl (fun aa=>?_) (fun aa=>?_)
   ·refine Aa rfl rfl aa<|Ae (Af rfl AbP rfl Cc (by decide)) rfl<|Aa rfl rfl aa<|Ae (Ag 2 rfl AaT rfl aq rfl rfl) rfl<|Aa rfl rfl aa<|Ae (Ad rfl) rfl<|Ae (A1 rfl aa rfl) rfl<|a6.to 3 (Kk aa) rfl rfl
   iterate 3 refine Ai rfl rfl aa rfl ?_
   refine Ae (A3 rfl aa rfl) rfl<|a6.to 3 (Kl aa) rfl rfl
  refine Ac<|Bl rfl h (fun bx h=>?_) (fun bx h=>?_)
  ·refine Au<|Ao<|A7<|A2<|EH (.q 0 (.q 1 (.q 2 (.q 3 (.q 4 (.q 5 (.q 6 (.q 7 (.q 8 (.tail 9)))))))))) mixed (by kernel_rfl) (fun dt bz=>?_);have ar:=aq.call bz;refine BH (Af rfl AbP rfl Hr (by decide)) rfl rfl<|BH (Ag 2 rfl AcV rfl ar rfl rfl) rfl rfl<|CD 1 rfl ?_;refine Az h fun a7 h=>?_;refine HE rfl rfl rfl AcV Bh aw z.toNat (EM a7) (AW a7) rfl ?_;rintro du _ e121t0 b0;obtain⟨_,_,rfl,rfl,⟨_,_,rfl,⟨e121v1,rfl,e121h1⟩,⟨_,_,rfl,rfl,⟨_,_,rfl,⟨e121v3,rfl,e121h3⟩,⟨_,_,rfl,rfl,⟨_,_,rfl,rfl,⟨e121v6,rfl,e121h6⟩⟩⟩⟩⟩⟩⟩:=Go.E.Rp.CM e121t0;refine BH (Af rfl AbP rfl Cc (by decide)) rfl rfl ?_;have b2:=b0.add 0;refine BH (Be rfl AaT rfl b2 (hH.trans ar.arg)) rfl rfl<|BH (Af rfl AbP rfl Cc (by decide)) rfl rfl<|BH (Ag 2 rfl AaT rfl ar rfl rfl) rfl rfl<|CD 1 rfl<|BQ (fun dv b3=>?_);have a8:=ar.call b3;refine Ac<|AM rfl h (fun b4 h=>?_) (fun b4 h=>?_)
   ·refine A9 1 rfl<|Ay<|Aw<|Av<|BK ?_;have h:=BV.out h ay;refine Aw<|Bt ?_
    cases h
    refine Am rfl rfl ?_;exact⟨a8.ext,rfl⟩
   refine Au<|A8<|Ao<|Ar<|Aq 1 rfl ?_;refine Az h fun b5 h=>?_;refine Ae (AK rfl rfl rfl b5) rfl<|Aq 1 rfl<|AL ?_;have h:=BV.again h ay;refine AN ((z+(1:Int)),a4) (Sub.of rfl) ⟨a8,h⟩ (Nat.lt_succ_self _)
  refine Br<|AD<|A5 ?_;have h:=BV.out h ay;refine Bd<|A6 () (Sub.of rfl) ⟨aq,h⟩
 rintro _ dw ⟨cx,h⟩;refine Bn (σ:=Unit) (fun(_:Unit)=>[(1,(AaH b1))]) (fun(_:Unit) wr=>AO w [.box b8 [No (0:Int),No (1:Int),No (16:Int),No (2:Int),No (0:Int),No (0:Int),No (0:Int),No (0:Int),No (0:Int),No (0:Int),No (0:Int)] 173,.box b6 [No (0:Int),No (1:Int),No (2:Int),No (2:Int),No (0:Int),No (0:Int),No (0:Int),No (0:Int),No (0:Int),No (0:Int),No (0:Int)] 173,.box b1 [No a0.f.1,am,AaJ a0.f.2.2.1,an,No a0.f.2.2.2.2.1,No a0.f.2.2.2.2.2.1,ao] 26] wr∧(HK a0)=some r) ?_ ?_
 ·refine A9 1 rfl<|A2 ?_;obtain⟨a5,h⟩:=AY h;refine Bw (σ:=Int×Nat) (fun⟨ac,n⟩=>[(1,(AaH b1)),(6,No ac)]) (fun⟨ac,n⟩ wr=>AO w [.box b8 [No (0:Int),No (1:Int),No (16:Int),No (2:Int),No (0:Int),No (0:Int),No (0:Int),No (0:Int),No (0:Int),No (0:Int),No (0:Int)] 173,.box b6 [No (0:Int),No (1:Int),No (2:Int),No (2:Int),No (0:Int),No (0:Int),No (0:Int),No (0:Int),No (0:Int),No (0:Int),No (0:Int)] 173,.box b1 [No a0.f.1,am,AaJ a0.f.2.2.1,an,No a0.f.2.2.2.2.1,No a0.f.2.2.2.2.2.1,ao] 26] wr∧FT (FE a0) n ac=some r) (fun⟨ac,n⟩=>n) ((0:Int),a5) (Sub.of rfl) ⟨cx,h⟩ ?_;rintro⟨ac,nn179⟩ dc ⟨ap,h⟩;obtain⟨a5,dx,rfl,h,az⟩:=AX h;refine A7<|Bk 1 rfl<|Ae (Af rfl AbP rfl Jm (by decide)) rfl<|Ae (Ag 2 rfl AbE rfl ap rfl rfl) rfl<|Ae (Bo rfl AbE a2) rfl<|AA 1 rfl<|AM rfl h (fun b7 h=>?_) (fun b7 h=>?_)
  ·refine Au<|Ao<|A7<|A2<|Ak<|Ae (Af rfl AbP rfl Jm (by decide)) rfl<|Ae (Ag 2 rfl AbE rfl ap rfl rfl) rfl<|Aq 1 rfl ?_;refine Az h fun a9 h=>?_;refine Bb rfl rfl AbE Fu a2 ac.toNat (EM a9) (AW a9) rfl ?_;rintro dy _ rfl b9;refine Ae (Be rfl Abb rfl b9 (hH.trans ap.arg)) rfl ?_;refine Ax h fun dz ca h=>?_;refine AF rfl rfl ap (Pj _ _ (As hH ap) ca) fun d0 dd cb c3=>AG AR rfl rfl cb fun d1 d2 cc c4 _=>Aj 0 rfl rfl rfl AR cc rfl rfl (AH rfl (AH rfl Cj)) fun d3 au c5=>Ac<|Ak<|Ae (Af rfl Abs rfl Cc (by decide)) rfl<|Ae (Ag 0 rfl AaT rfl au rfl rfl) rfl<|AA 1 rfl<|Cl rfl h (fun cd h=>?_) (fun cd h=>?_)
   ·refine Ak<|Ae (Af rfl Abs rfl Cc (by decide)) rfl<|Ae (Ag 0 rfl AaT rfl au rfl rfl) rfl<|AA 1 rfl<|Ay<|Aw<|Av<|BK ?_;have h:=BV.out h az;refine Aw<|Bt ?_
    cases h
    refine Am rfl rfl ?_;exact⟨au.ext,rfl⟩
   refine Au<|A8<|Ao<|Ar<|Aq 1 rfl ?_;refine Az h fun ce h=>?_;refine Ae (AK rfl rfl rfl ce) rfl<|Aq 1 rfl<|AL ?_;have cf:=au.AP (i:=0) rfl;have h:=BV.again h az;refine AN ((ac+(1:Int)),a5) (Sub.of rfl) ⟨cf,h⟩ (Nat.lt_succ_self _)
  refine Br<|AD<|A5 ?_;have h:=BV.out h az;refine Bd<|A6 () (Sub.of rfl) ⟨ap,h⟩
 rintro _ de ⟨a1,h⟩;refine A7<|Ak<|Ae (Af rfl AbP rfl Fu (by decide)) rfl<|Ae (Ag 2 rfl Abb rfl a1 rfl rfl) rfl ?_;refine Ax h fun d4 cg h=>?_;refine AF rfl rfl a1 (Ny _ _ (As hH a1) cg) fun d5 df ch c6=>AG AR rfl rfl ch fun d6 d7 ci c7 _=>Aj 0 rfl rfl rfl AR ci rfl rfl (AH rfl (AH rfl Cj)) fun d8 a c8=>Ac<|Ak<|Ae (Af rfl Abs rfl Cc (by decide)) rfl<|Ae (Ag 0 rfl AaT rfl a rfl rfl) rfl<|AA 1 rfl<|Cl rfl h (fun cj h=>?_) (fun cj h=>?_)
 ·refine Ak<|Ae (Af rfl Abs rfl Cc (by decide)) rfl<|Ae (Ag 0 rfl AaT rfl a rfl rfl) rfl<|AA 1 rfl<|Ay<|Av ?_
  cases h
  refine Am rfl rfl ?_;exact⟨a.ext,rfl⟩
 refine Au<|Ao<|A7<|Ak<|Ae (Af rfl AbP rfl Cc (by decide)) rfl<|Ae (Ag 3 rfl AaT rfl a rfl rfl) rfl<|Aq 2 rfl<|AQ (s:=159) rfl (fun p=>?_) (fun p=>?_)
 ·have h:=BO (of_decide_eq_true p) h;refine Aa rfl rfl p<|Ae (Af rfl AbP rfl Cc (by decide)) rfl<|Aa rfl rfl p<|Ae (Ag 3 rfl AaT rfl a rfl rfl) rfl<|Aa rfl rfl p<|AF rfl rfl a (Xh _ _ (As hH a)) fun d9 dg u c9=>Aa rfl rfl p<|Ae (Ad rfl) rfl<|Ae (A1 rfl p rfl) rfl<|Aq 1 rfl<|G9 11 176 (.bool ((!decide ((1:Int)≤a0.f.2.2.2.2.1∧a0.f.2.2.2.2.1≤(2048:Int)))||((decide (a0.f.1=(6:Int)))&&(decide (a0.f.2.2.2.2.2.1<a0.f.2.2.2.2.1))))) (fun ba=>?_) ?_
  ·refine AQ (s:=165) rfl (fun b=>?_) (fun b=>?_)
   ·iterate 4 refine Ai rfl rfl b rfl ?_
    iterate 5 refine Ce rfl rfl rfl ?_
    refine Ai rfl rfl b rfl<|Ae (A1 rfl b rfl) rfl<|ba.to 10 (O9 b) rfl rfl
   refine Aa rfl rfl b<|Ae (Af rfl AbP rfl Cc (by decide)) rfl<|Aa rfl rfl b<|Ae (Ag 3 rfl AaT rfl u rfl rfl) rfl<|Aa rfl rfl b<|Ae (Ad rfl) rfl<|Aa rfl rfl b<|Ae (Ad rfl) rfl<|G9 6 175 (.bool ((decide (a0.f.1=(6:Int)))&&(decide (a0.f.2.2.2.2.2.1<a0.f.2.2.2.2.1)))) (fun bb=>?_) ?_
   ·refine AQ (s:=169) rfl (fun e=>?_) (fun e=>?_)
    ·refine Aa rfl rfl e<|Ae (Af rfl AbP rfl Cc (by decide)) rfl<|Aa rfl rfl e<|Ae (Ag 3 rfl AaT rfl u rfl rfl) rfl<|Aa rfl rfl e<|Ae (Af rfl AbP rfl Cc (by decide)) rfl<|Aa rfl rfl e<|Ae (Ag 3 rfl AaT rfl u rfl rfl) rfl<|Aa rfl rfl e<|Ae (Ad rfl) rfl<|Aa rfl rfl b<|Ae (A1 rfl e rfl) rfl ?_;exact bb.to 5 (Kk e) rfl rfl
    iterate 5 refine Ai rfl rfl e rfl ?_
    refine Aa rfl rfl b<|Ae (A3 rfl e rfl) rfl<|bb.to 5 (Kl e) rfl rfl
   refine Ae (A3 rfl b rfl) rfl<|ba.to 5 (OA b) rfl rfl
  refine Ac<|Bl rfl h (fun ck h=>?_) (fun ck h=>?_)
  ·refine A9 1 rfl<|Ay<|Av ?_
   cases h
   refine Am rfl rfl ?_;exact⟨u.ext,rfl⟩
  refine Au<|Ao<|A7<|Ak<|Ae (Af rfl AbP rfl Cc (by decide)) rfl<|Ae (Ag 3 rfl AaT rfl u rfl rfl) rfl<|Aq 2 rfl<|G9 5 185 (.bool ((decide (a0.f.1=(4:Int)))&&(decide ((a0.f.2.2.2.1.length:Int)=(0:Int))))) (fun bc=>?_) ?_
  ·refine AQ (s:=180) rfl (fun x=>?_) (fun x=>?_)
   ·refine Aa rfl rfl x<|Ae (Af rfl AbP rfl Fw (by decide)) rfl<|Aa rfl rfl x<|Ae (Ag 3 rfl Abe rfl u rfl rfl) rfl<|Aa rfl rfl x<|Ae (Bo rfl Abe av) rfl<|Aa rfl rfl x<|Ae (Ad rfl) rfl<|Ae (A1 rfl x rfl) rfl<|bc.to 4 (Kk x) rfl rfl
   iterate 4 refine Ai rfl rfl x rfl ?_
   refine Ae (A3 rfl x rfl) rfl<|bc.to 4 (Kl x) rfl rfl
  refine Ac<|Bl rfl h (fun cl h=>?_) (fun cl h=>?_)
  ·refine A9 1 rfl<|Ay<|Av ?_
   cases h
   refine Am rfl rfl ?_;exact⟨u.ext,rfl⟩
  refine Au<|Ao<|A7<|Ak<|Ae (Af rfl AbP rfl Fw (by decide)) rfl<|Ae (Ag 3 rfl Abe rfl u rfl rfl) rfl<|Ae (Bo rfl Abe av) rfl<|AA 1 rfl<|AM rfl h (fun cm h=>?_) (fun cm h=>?_)
  ·refine A9 1 rfl<|Ay<|Av ?_
   cases h
   refine Am rfl rfl ?_;exact⟨u.ext,rfl⟩
  refine Au<|Ao<|A9 1 rfl<|Ay ?_
  cases h
  refine Am rfl rfl ?_;exact⟨u.ext,rfl⟩
 have h:=BP (of_decide_eq_false p) h
 iterate 4 refine Ai rfl rfl p rfl ?_
 refine Ae (A3 rfl p rfl) rfl<|Aq 1 rfl<|Aa rfl rfl rfl<|Ae (Af rfl AbP rfl Cc (by decide)) rfl<|Aa rfl rfl rfl<|Ae (Ag 3 rfl AaT rfl a rfl rfl) rfl<|Aa rfl rfl rfl<|Ae (Ad rfl) rfl<|Aa rfl rfl rfl<|Ae (Ad rfl) rfl<|G9 6 175 (.bool ((decide (a0.f.1=(6:Int)))&&(decide (a0.f.2.2.2.2.2.1<a0.f.2.2.2.2.1)))) (fun bd=>?_) ?_
 ·refine AQ (s:=169) rfl (fun g=>?_) (fun g=>?_)
  ·refine Aa rfl rfl g<|Ae (Af rfl AbP rfl Cc (by decide)) rfl<|Aa rfl rfl g<|Ae (Ag 3 rfl AaT rfl a rfl rfl) rfl<|Aa rfl rfl g<|Ae (Af rfl AbP rfl Cc (by decide)) rfl<|Aa rfl rfl g<|Ae (Ag 3 rfl AaT rfl a rfl rfl) rfl<|Aa rfl rfl g<|Ae (Ad rfl) rfl<|Aa rfl rfl rfl<|Ae (A1 rfl g rfl) rfl ?_;exact bd.to 5 (Kk g) rfl rfl
  iterate 5 refine Ai rfl rfl g rfl ?_
  refine Aa rfl rfl rfl<|Ae (A3 rfl g rfl) rfl<|bd.to 5 (Kl g) rfl rfl
 refine Ae (A3 rfl rfl rfl) rfl<|Ac<|Bl rfl h (fun cn h=>?_) (fun cn h=>?_)
 ·refine A9 1 rfl<|Ay<|Av ?_
  cases h
  refine Am rfl rfl ?_;exact⟨a.ext,rfl⟩
 refine Au<|Ao<|A7<|Ak<|Ae (Af rfl AbP rfl Cc (by decide)) rfl<|Ae (Ag 3 rfl AaT rfl a rfl rfl) rfl<|Aq 2 rfl<|G9 5 185 (.bool ((decide (a0.f.1=(4:Int)))&&(decide ((a0.f.2.2.2.1.length:Int)=(0:Int))))) (fun be=>?_) ?_
 ·refine AQ (s:=180) rfl (fun y=>?_) (fun y=>?_)
  ·refine Aa rfl rfl y<|Ae (Af rfl AbP rfl Fw (by decide)) rfl<|Aa rfl rfl y<|Ae (Ag 3 rfl Abe rfl a rfl rfl) rfl<|Aa rfl rfl y<|Ae (Bo rfl Abe av) rfl<|Aa rfl rfl y<|Ae (Ad rfl) rfl<|Ae (A1 rfl y rfl) rfl<|be.to 4 (Kk y) rfl rfl
  iterate 4 refine Ai rfl rfl y rfl ?_
  refine Ae (A3 rfl y rfl) rfl<|be.to 4 (Kl y) rfl rfl
 refine Ac<|Bl rfl h (fun co h=>?_) (fun co h=>?_)
 ·refine A9 1 rfl<|Ay<|Av ?_
  cases h
  refine Am rfl rfl ?_;exact⟨a.ext,rfl⟩
 refine Au<|Ao<|A7<|Ak<|Ae (Af rfl AbP rfl Fw (by decide)) rfl<|Ae (Ag 3 rfl Abe rfl a rfl rfl) rfl<|Ae (Bo rfl Abe av) rfl<|AA 1 rfl<|AM rfl h (fun cp h=>?_) (fun cp h=>?_)
 ·refine A9 1 rfl<|Ay<|Av ?_
  cases h
  refine Am rfl rfl ?_;exact⟨a.ext,rfl⟩
 refine Au<|Ao<|A9 1 rfl<|Ay ?_
 cases h
 refine Am rfl rfl ?_;exact⟨a.ext,rfl⟩
def JC(a:Int):Option (Int×(Int×Int)):=
 some (a,((0:Int),(0:Int)))
def EF(a0:Go.L.Qv)(a2:Int)(self:Go.L.Qv→Int→Int→Option (Int×(Int×Int))):Int×Int→Option ((Int×Int) ⊕ (Int×(Int×Int))):=fun⟨b,a⟩=>
 if a<(a0.f.2.2.2.2.2.2.length:Int) then AU (0≤a∧a<(a0.f.2.2.2.2.2.2.length:Int)) (AU (BL (a2+(1:Int))) (Option.bind (self (a0.f.2.2.2.2.2.2.getD a.toNat default) b (a2+(1:Int))) (fun c=>if c.2.1=(0:Int) then AU (BL (a+(1:Int))) (some (Sum.inl (c.1,(a+(1:Int))))) else Option.map Sum.inr (some ((0:Int),(c.2.1,c.2.2)))))) else Option.map Sum.inr (JC b)
def MD(a0:Go.L.Qv)(a2:Int)(self:Go.L.Qv→Int→Int→Option (Int×(Int×Int)))(s:Int×Int):Option (Int×(Int×Int)):=Go.L.run (EF a0 a2 self) s
def G2(self:Go.L.Qv→Int→Int→Option (Int×(Int×Int)))(a0:Go.L.Qv)(a1:Int)(a2:Int):Option (Int×(Int×Int)):=
 if((40:Int)≤a1)∨((8:Int)<a2) then Option.bind (IM (2:Int) a1) (fun b=>some ((0:Int),(b.1,b.2))) else Option.bind (JB a0) (fun c=>if c=(0:Int) then AU (BL (a1+(1:Int))) ((MD a0 a2 self) ((a1+(1:Int)),(0:Int))) else Option.bind (IM c a1) (fun a=>some ((0:Int),(a.1,a.2))))
def Ed:Nat→Go.L.Qv→Int→Int→Option (Int×(Int×Int))
 | 0=>fun _ _ _=>none
 | n+1=>G2 (Ed n)
def Lk:Go.L.Qv→Int→Int→Option (Int×(Int×Int)):=Ed 1000
theorem ME(self:Go.L.Qv→Int→Int→Option (Int×(Int×Int)))(hself:∀ (w:World) (H:PH) (hH:Le H (hp w)) {a0:Go.L.Qv} {a1:Int} {a2:Int} {b:Value} {c:Value} {d:Value} (y:AI .st H b (a0.f.2.1)) (z:AI .byte H c (a0.f.2.2.2.1)) (k:AI .Bc H d (a0.f.2.2.2.2.2.2)) {r:Int×(Int×Int)} (h:self a0 a1 a2=some r),Ok Tryz.prog 35 [.agg #[No a0.f.1,b,AaJ a0.f.2.2.1,c,No a0.f.2.2.2.2.1,No a0.f.2.2.2.2.2.1,d],No a1,No a2] w (fun v w'=>Ext w w'∧v=.tuple #[No r.1,.agg #[No r.2.1,No r.2.2]]))(w:World)(H:PH)(hH:Le H (hp w)){a0:Go.L.Qv}{a1:Int}{a2:Int}{b:Value}{c:Value}{d:Value}(y:AI .st H b (a0.f.2.1))(z:AI .byte H c (a0.f.2.2.2.1))(k:AI .Bc H d (a0.f.2.2.2.2.2.2)){r:Int×(Int×Int)}(h:G2 self a0 a1 a2=some r):
  Ok Tryz.prog 35 [.agg #[No a0.f.1,b,AaJ a0.f.2.2.1,c,No a0.f.2.2.2.2.1,No a0.f.2.2.2.2.2.1,d],No a1,No a2] w (fun v w'=>Ext w w'∧v=.tuple #[No r.1,.agg #[No r.2.1,No r.2.2]]):=by
 refine A4 (n:=56) [(0,.agg #[No a0.f.1,b,AaJ a0.f.2.2.1,c,No a0.f.2.2.2.2.1,No a0.f.2.2.2.2.2.1,d]),(1,No a1),(2,No a2)] func35 rfl rfl rfl rfl rfl ?_;have hL:=AO.start w;refine Ak<|CK (t:=26) rfl rfl rfl hL fun w1 b1 az bg _=>Aq 1 rfl<|AG AR rfl rfl az fun w2 b2 l bh _=>Ac<|A7<|Bk 3 rfl<|Si 2 2 rfl rfl rfl rfl rfl rfl<|Ac<|AM rfl h (fun a3 h=>?_) (fun a3 h=>?_)
 ·refine Bk 1 rfl ?_;refine Ax h fun x5 a4 h=>?_;refine AF rfl rfl l (GY _ _ (As hH l) a4) fun w6 bs a5 bi=>Aq 1 rfl<|Aj 0 rfl rfl rfl AR a5 rfl rfl (AH rfl (AH rfl Cj)) fun w7 ai bj=>Ac<|Ay<|Av ?_
  cases h
  refine C9 rfl (.tmp rfl) (.cell rfl Abs rfl AR (AT (i:=0) ai rfl)) ?_;exact⟨ai.ext,rfl⟩
 refine Au<|Ao<|A7<|Ak<|Ae (AE 1 rfl AbP rfl Bh l rfl) rfl ?_;refine Ax h fun x9 a6 h=>?_;refine AF rfl rfl l (Pm (a0:=a0) _ _ (As hH l) (y.mono (Ah hH)) (z.mono (Ah hH)) (k.mono (Ah hH)) a6) fun bt bk m ba=>AA 1 rfl<|A9 2 rfl<|Cl rfl h (fun ak h=>?_) (fun ak h=>?_)
 ·refine Bk 2 rfl ?_;refine Ax h fun bu al h=>?_;refine AF rfl rfl m (GY _ _ (As hH m) al) fun bv bl am bb=>Aq 1 rfl<|Aj 0 rfl rfl rfl AR am rfl rfl (AH rfl (AH rfl Cj)) fun bw aa bc=>Ac<|Ay<|Av ?_
  cases h
  refine C9 rfl (.tmp rfl) (.cell rfl Abs rfl AR (AT (i:=0) aa rfl)) ?_;exact⟨aa.ext,rfl⟩
 refine Au<|Ao<|Bk 1 rfl ?_;refine Az h fun an h=>?_;refine Ae (AK rfl rfl rfl an) rfl<|AA 1 rfl<|Bn (σ:=Int) (fun j=>[(7,(AaH b2)),(9,No j)]) (fun j wr=>AO w [.box b2 [No (0:Int),No (0:Int)] 28,.box b1 [No a0.f.1,b,AaJ a0.f.2.2.1,c,No a0.f.2.2.2.2.1,No a0.f.2.2.2.2.2.1,d] 26] wr∧JC j=some r) ?_ ?_
 ·refine A9 1 rfl<|A2 ?_;obtain⟨ab,h⟩:=AY h;refine Bw (σ:=Int×Int×Nat) (fun⟨e,a,n⟩=>[(2,No a2),(3,(AaH b1)),(7,(AaH b2)),(9,No e),(10,No a)]) (fun⟨e,a,n⟩ wr=>AO w [.box b2 [No (0:Int),No (0:Int)] 28,.box b1 [No a0.f.1,b,AaJ a0.f.2.2.1,c,No a0.f.2.2.2.2.1,No a0.f.2.2.2.2.2.1,d] 26] wr∧FT (EF a0 a2 self) n (e,a)=some r) (fun⟨e,a,n⟩=>n) ((a1+(1:Int)),(0:Int),ab) (Sub.of rfl) ⟨m,h⟩ ?_;rintro⟨e,a,nn86⟩ bm ⟨g,h⟩;obtain⟨ab,bx,rfl,h,o⟩:=AX h;refine A7<|Bk 1 rfl<|Ae (Af rfl AbP rfl Hr (by decide)) rfl<|Ae (Ag 1 rfl AcV rfl g rfl rfl) rfl<|Ae (Bo rfl AcV k) rfl<|AA 1 rfl<|AM rfl h (fun ao h=>?_) (fun ao h=>?_)
  ·refine Au<|Ao<|A7<|A2<|Ak<|Ae (Af rfl AbP rfl Hr (by decide)) rfl<|Ae (Ag 1 rfl AcV rfl g rfl rfl) rfl<|Aq 1 rfl ?_;refine Az h fun ac h=>?_;refine Bb rfl rfl AcV Bh k a.toNat (EM ac) (AW ac) rfl ?_;rintro bz _ e90t0 ap;obtain⟨_,_,rfl,rfl,⟨_,_,rfl,⟨e90v1,rfl,e90h1⟩,⟨_,_,rfl,rfl,⟨_,_,rfl,⟨e90v3,rfl,e90h3⟩,⟨_,_,rfl,rfl,⟨_,_,rfl,rfl,⟨e90v6,rfl,e90h6⟩⟩⟩⟩⟩⟩⟩:=Go.E.Rp.CM e90t0;refine Ae (C1 rfl AbP rfl Bh ap (hH.trans g.arg)) rfl<|Aq 2 rfl ?_;refine Az h fun aq h=>?_;refine Ae (AK rfl rfl rfl aq) rfl ?_;refine Ax h fun a7 ar h=>?_;refine AF rfl rfl g (hself _ _ (As hH g) (e90h1.mono (Ah hH)) (e90h3.mono (Ah hH)) (e90h6.mono (Ah hH)) ar) fun b0 bn au bd=>Aq 3 rfl<|AG AR rfl rfl au fun b3 b4 av be _=>Aq 1 rfl<|Aj 0 rfl rfl rfl AR av rfl rfl (AH rfl (AH rfl Cj)) fun b5 p bf=>Ac<|A7<|Ak<|Ae (Af rfl Abs rfl Cc (by decide)) rfl<|Ae (Ag 0 rfl AaT rfl p rfl rfl) rfl<|AA 1 rfl<|Cl rfl h (fun aw h=>?_) (fun aw h=>?_)
   ·refine EH (.q 0 (.q 1 (.tail 2))) mixed (by kernel_rfl) (fun b6 ax=>?_);have s:=p.call ax;refine BH (AE 0 rfl Abs rfl AR s rfl) rfl rfl<|CD 1 rfl<|BQ (fun bo ae=>?_);have af:=s.call ae;refine Aj 1 rfl rfl rfl AR af rfl rfl (AH rfl (AH rfl Cj)) fun bp u a8=>Ac<|Ay<|Av<|Aw<|Av<|BK ?_;have h:=BV.out h o;refine Aw<|Bt ?_
    cases h
    refine C9 rfl (.tmp rfl) (.cell rfl Abs rfl AR (AT (i:=1) u rfl)) ?_;exact⟨u.ext,rfl⟩
   refine Au<|Ao<|Ar<|Aq 2 rfl<|AL<|A8<|Ao<|Ar<|Aq 1 rfl ?_;refine Az h fun ag h=>?_;refine Ae (AK rfl rfl rfl ag) rfl<|Aq 1 rfl<|AL ?_;have ah:=p.AP (i:=0) rfl;have h:=BV.again h o;refine AN (a7.1,(a+(1:Int)),ab) (Sub.of rfl) ⟨ah,h⟩ (Nat.lt_succ_self _)
  refine Br<|AD<|A5 ?_;have h:=BV.out h o;refine Bd<|A6 e (Sub.of rfl) ⟨g,h⟩
 rintro j bq ⟨ay,h⟩;refine Bk 1 rfl<|Ae (AZ rfl (fun _=>BY _)) rfl<|Aq 1 rfl<|Aj 0 rfl rfl rfl AR ay rfl rfl (AH rfl (AH rfl Cj)) fun br x a9=>Ac<|Ay ?_
 cases h
 refine C9 rfl (.tmp rfl) (.cell rfl Abs rfl AR (AT (i:=0) x rfl)) ?_;exact⟨x.ext,rfl⟩
theorem Ol(n:Nat):∀ (w:World) (H:PH) (hH:Le H (hp w)) {a0:Go.L.Qv} {a1:Int} {a2:Int} {a:Value} {b:Value} {c:Value} (d:AI .st H a (a0.f.2.1)) (e:AI .byte H b (a0.f.2.2.2.1)) (g:AI .Bc H c (a0.f.2.2.2.2.2.2)) {r:Int×(Int×Int)} (h:Ed n a0 a1 a2=some r),Ok Tryz.prog 35 [.agg #[No a0.f.1,a,AaJ a0.f.2.2.1,b,No a0.f.2.2.2.2.1,No a0.f.2.2.2.2.2.1,c],No a1,No a2] w (fun v w'=>Ext w w'∧v=.tuple #[No r.1,.agg #[No r.2.1,No r.2.2]]):=by
 induction n with
 | zero=>intros;rename_i h;cases h
 | succ n ih=>exact @ME (Ed n) ih
theorem Pn(w:World)(H:PH)(hH:Le H (hp w)){a0:Go.L.Qv}{a1:Int}{a2:Int}{a:Value}{b:Value}{c:Value}(d:AI .st H a (a0.f.2.1))(e:AI .byte H b (a0.f.2.2.2.1))(g:AI .Bc H c (a0.f.2.2.2.2.2.2)){r:Int×(Int×Int)}(h:Lk a0 a1 a2=some r):Ok Tryz.prog 35 [.agg #[No a0.f.1,a,AaJ a0.f.2.2.1,b,No a0.f.2.2.2.2.1,No a0.f.2.2.2.2.2.1,c],No a1,No a2] w (fun v w'=>Ext w w'∧v=.tuple #[No r.1,.agg #[No r.2.1,No r.2.2]]):=Ol 1000 w H hH d e g h
def Hx(c:AaK)(a:Int)(b:Int):Option ((AaK×Int) ⊕ (AaK)):=
 AU (BL ((48:Int)+b)) (AU (Go.E.JE 1 (([(Go.L.u8 ((48:Int)+b))]).length+c.length)) (AU (-9223372036854775808≤a∧a≤9223372036854775807∧0<(10:Int)) (some (Sum.inl (([(Go.L.u8 ((48:Int)+b))]++c),(Int.tdiv a (10:Int)))))))
def Ky(a0:Int)(a:AaK):Option (AaK):=
 if a0<(0:Int) then AU (Go.E.JE 1 (([(45:UInt8)]).length+a.length)) (some (([(45:UInt8)]++a))) else some (a)
def Ee(a0:Int):AaK×Int→Option ((AaK×Int) ⊕ (AaK)):=fun⟨b,a⟩=>
 if a=(0:Int) then Option.map Sum.inr ((Ky a0) b) else AU (-9223372036854775808≤a∧a≤9223372036854775807∧0<(10:Int)) (if(Int.tmod a (10:Int))<(0:Int) then AU (BL (-(Int.tmod a (10:Int)))) ((Hx b a) (-(Int.tmod a (10:Int)))) else(Hx b a) (Int.tmod a (10:Int)))
def MS(a0:Int)(s:AaK×Int):Option (AaK):=Go.L.run (Ee a0) s
def I3(a0:Int):Option (AaK):=
 if a0=(0:Int) then some (([48]:AaK)) else(MS a0) (([]:AaK),a0)
theorem Kz(w:World)(H:PH)(hH:Le H (hp w)){a0:Int}{r:AaK}(h:I3 a0=some r):
  Ok Tryz.prog 40 [No a0] w (fun v w'=>Ext w w'∧v=(AaJ r)):=by
 refine A4 (n:=32) [(0,No a0)] func40 rfl rfl rfl rfl rfl ?_;have hL:=AO.start w;refine A9 1 rfl<|A7<|A9 2 rfl<|AM rfl h (fun az h=>?_) (fun az h=>?_)
 ·refine A9 1 rfl<|Ay<|Av ?_
  cases h
  refine Am rfl rfl ?_;exact⟨hL.ext,rfl⟩
 refine Au<|Ao<|A9 1 rfl<|Bn (σ:=AaK×Value×(List Value)) (fun⟨k,o,g⟩=>[(0,No a0),(3,o)]) (fun⟨k,o,g⟩ wr=>DZ w [.row (o) 5 1 (k).length (g)] wr fun Oz=>AJ .byte (gz H w wr Oz) (k) (g)∧(Ky a0) k=some r) ?_ ?_
 ·refine A9 2 rfl<|A2 ?_;obtain⟨ad,a3,ae⟩:=CB .byte H 5 hL;obtain⟨u,h⟩:=AY h;refine Bw (σ:=AaK×Int×Value×(List Value)×Nat) (fun⟨e,a,f,b,n⟩=>[(0,No a0),(3,f),(4,No a)]) (fun⟨e,a,f,b,n⟩ wr=>DZ w [.row (f) 5 1 (e).length (b)] wr fun Oz=>AJ .byte (gz H w wr Oz) (e) (b)∧FT (Ee a0) n (e,a)=some r) (fun⟨e,a,f,b,n⟩=>n) (([]:AaK),a0,Aat,[],u) (Sub.of rfl) ⟨ad,ae,h⟩ ?_;rintro⟨e,a,f,b,nn64⟩ a6 ⟨p,c,h⟩;obtain⟨u,a1,rfl,h,x⟩:=AX h;refine A7<|A9 2 rfl<|Cl rfl h (fun af h=>?_) (fun af h=>?_)
  ·refine Au<|Ao<|A7<|A2<|Bk 1 rfl ?_;refine Az h fun ag h=>?_;refine Ae (Ab2 rfl rfl ag) rfl<|AA 1 rfl<|Bn (σ:=Int) (fun d=>[(0,No a0),(3,f),(4,No a),(5,No d)]) (fun d wr=>DZ w [.row (f) 5 1 (e).length (b)] wr fun Oz=>AJ .byte (gz H w wr Oz) (e) (b)∧(Hx e a) d=some a1) ?_ ?_
   ·refine A9 2 rfl<|AM rfl h (fun ah h=>?_) (fun ah h=>?_)
    ·refine Ar<|Aq 1 rfl ?_;refine Az h fun ai h=>?_;refine Ae (Ack rfl ai) rfl<|Aq 1 rfl<|AL<|A6 (-(Int.tmod a (10:Int))) (Sub.of rfl) ⟨p,c,h⟩
    refine Au<|A6 (Int.tmod a (10:Int)) (Sub.of rfl) ⟨p,c,h⟩
   rintro d a7 ⟨aj,c,h⟩;refine Ar<|Aq 1 rfl ?_;refine Az h fun ak h=>?_;refine Ae (AK rfl rfl rfl ak) rfl<|Ae (EV AaT Ab9 rfl (HS _)) rfl<|JK (r:=.byte) (l:=[(Go.L.u8 ((48:Int)+d))]) rfl (fun _=>Ik _ _) rfl (show 1≤9223372036854775807 by decide) hH aj (.c1 rfl .nil) fun bc bd a8 y ab q=>Aq 1 rfl ?_;have c:=c.mono (Ab hH ab);have al:=y.CA hH (i:=1) rfl c;have am:=y.AP (i:=1) rfl;refine Az h fun an h=>?_;have q:=q.mono (Ab hH (Al (i:=1) rfl));refine Bq (r:=.byte) (l:=[(Go.L.u8 ((48:Int)+d))]) (m:=e) 0 rfl rfl Abe Lo rfl (by decide) rfl hH am rfl q al an fun a2 be ao ap a4 aq=>Aq 1 rfl<|AL<|A8<|Ao<|Ar<|Aq 1 rfl ?_;refine Az h fun ar h=>?_;refine Ae (Ab1 rfl rfl ar) rfl<|Aq 1 rfl<|AL ?_;have h:=BV.again h x;refine AN (([(Go.L.u8 ((48:Int)+d))]++e),(Int.tdiv a (10:Int)),a2,ao,u) (Sub.of rfl) ⟨ap,aq,h⟩ (Nat.lt_succ_self _)
  refine Br<|AD<|A5 ?_;have h:=BV.out h x;refine Bd<|A6 (e,f,b) (Sub.of rfl) ⟨p,c,h⟩
 rintro⟨k,o,g⟩ a9 ⟨s,j,h⟩;refine A7<|A9 2 rfl<|AM rfl h (fun au h=>?_) (fun au h=>?_)
 ·refine Ar<|JK (r:=.byte) (l:=[(45:UInt8)]) rfl (fun _=>Ik _ _) rfl (show 1≤9223372036854775807 by decide) hH s (.c1 rfl .nil) fun bf bg ba z ac t=>Aq 1 rfl ?_;have j:=j.mono (Ab hH ac);have av:=z.CA hH (i:=1) rfl j;have aw:=z.AP (i:=1) rfl;refine Az h fun ax h=>?_;have t:=t.mono (Ab hH (Al (i:=1) rfl));refine Bq (r:=.byte) (l:=[(45:UInt8)]) (m:=k) 0 rfl rfl Abe Lo rfl (by decide) rfl hH aw rfl t av ax fun bh bi bb aa a5 ay=>Aq 1 rfl<|AL<|Ao<|Bk 1 rfl<|Ae (MJ rfl Abe Ab9 Abb (aa.Tp hH (i:=0) rfl ay) (Le.refl _)) rfl<|AA 1 rfl<|Ay ?_
  cases h
  refine Am rfl rfl ?_;exact⟨aa.ext,rfl⟩
 refine Au<|Ao<|Bk 1 rfl<|Ae (MJ rfl Abe Ab9 Abb (s.Tp hH (i:=0) rfl j) (Le.refl _)) rfl<|AA 1 rfl<|Ay ?_
 cases h
 refine Am rfl rfl ?_;exact⟨s.ext,rfl⟩
def GM(a0:AaK)(b:AaK)(a:Int)(c:Bool):Option ((AaK×Int) ⊕ (AaK)):=
 if c then AU (0≤a∧a<(a0.length:Int)) (AU (Go.E.JE 1 (b.length+([a0.getD a.toNat default]).length)) (AU (BL (a+(1:Int))) (some (Sum.inl ((b++[a0.getD a.toNat default]),(a+(1:Int))))))) else AU (0≤a∧a<(a0.length:Int)) (AU (0≤((a0.getD a.toNat default).toNat:Int)∧((a0.getD a.toNat default).toNat:Int)≤9223372036854775807∧0<(16:Int)) (Option.bind (H3 (((a0.getD a.toNat default).toNat:Int) / (16:Int))) (fun d=>AU (0≤a∧a<(a0.length:Int)) (AU (0≤((a0.getD a.toNat default).toNat:Int)∧((a0.getD a.toNat default).toNat:Int)≤9223372036854775807∧0<(16:Int)) (Option.bind (H3 (((a0.getD a.toNat default).toNat:Int) % (16:Int))) (fun e=>AU (Go.E.JE 1 (b.length+([(92:UInt8),d,e]).length)) (AU (BL (a+(1:Int))) (some (Sum.inl ((b++[(92:UInt8),d,e]),(a+(1:Int))))))))))))
def Ll(a:AaK):Option (AaK):=
 AU (Go.E.JE 1 (a.length+([(39:UInt8)]).length)) (some ((a++[(39:UInt8)])))
def FW(a0:AaK):AaK×Int→Option ((AaK×Int) ⊕ (AaK)):=fun⟨b,a⟩=>
 if a<(a0.length:Int) then AU (0≤a∧a<(a0.length:Int)) (if(32:Int)≤((a0.getD a.toNat default).toNat:Int)∧((a0.getD a.toNat default).toNat:Int)≤(126:Int) then AU (0≤a∧a<(a0.length:Int)) (if((a0.getD a.toNat default).toNat:Int)=39 then(GM a0 b a) false else AU (0≤a∧a<(a0.length:Int)) ((GM a0 b a) (!decide (((a0.getD a.toNat default).toNat:Int)=92)))) else(GM a0 b a) false) else Option.map Sum.inr (Ll b)
def NF(a0:AaK)(s:AaK×Int):Option (AaK):=Go.L.run (FW a0) s
def Kr(a0:AaK):Option (AaK):=
 (NF a0) ([(39:UInt8)],(0:Int))
theorem NG(w:World)(H:PH)(hH:Le H (hp w)){a0:AaK}{x:Value}(k:AI .byte H x (a0)){r:AaK}(h:Kr a0=some r):
  Ok Tryz.prog 41 [x] w (fun v w'=>Ext w w'∧v=(AaJ r)):=by
 refine A4 (n:=60) [(0,x)] func41 rfl rfl rfl rfl rfl ?_;have hL:=AO.start w;refine A9 1 rfl<|Ak<|JK (r:=.byte) (l:=[(39:UInt8)]) rfl (fun _=>Ik _ _) rfl (show 1≤9223372036854775807 by decide) hH hL (.c1 rfl .nil) fun v1 w1 bx bz ce b0=>AA 1 rfl<|Bn (σ:=AaK×Value×(List Value)) (fun⟨z,aa,p⟩=>[(3,aa)]) (fun⟨z,aa,p⟩ wr=>DZ w [.row (aa) 5 1 (z).length (p)] wr fun Oz=>AJ .byte (gz H w wr Oz) (z) (p)∧Ll z=some r) ?_ ?_
 ·refine A9 1 rfl<|A2 ?_;obtain⟨ab,h⟩:=AY h;refine Bw (σ:=AaK×Int×Value×(List Value)×Nat) (fun⟨c,a,g,f,n⟩=>[(0,x),(3,g),(4,No a)]) (fun⟨c,a,g,f,n⟩ wr=>DZ w [.row (g) 5 1 (c).length (f)] wr fun Oz=>AJ .byte (gz H w wr Oz) (c) (f)∧FT (FW a0) n (c,a)=some r) (fun⟨c,a,g,f,n⟩=>n) ([(39:UInt8)],(0:Int),v1,bx,ab) (Sub.of rfl) ⟨bz,b0,h⟩ ?_;rintro⟨c,a,g,f,nn148⟩ b4 ⟨t,b,h⟩;obtain⟨ab,bt,rfl,h,ac⟩:=AX h;refine A7<|Bk 2 rfl<|Ae (Bo rfl Abe k) rfl<|AA 1 rfl<|AM rfl h (fun a1 h=>?_) (fun a1 h=>?_)
  ·refine Au<|Ao<|A7<|A2<|Bn (σ:=Bool) (fun j=>[(0,x),(3,g),(4,No a),(31,.bool j)]) (fun j wr=>DZ w [.row (g) 5 1 (c).length (f)] wr fun Oz=>AJ .byte (gz H w wr Oz) (c) (f)∧(GM a0 c a) j=some bt) ?_ ?_
   ·refine Ar<|Aq 2 rfl ?_;refine Az h fun aj h=>?_;refine Bb rfl rfl Abe Lo k a.toNat (EM aj) (AW aj) rfl ?_;rintro cf _ rfl a2;refine Ae (Be rfl Ab9 rfl a2 (hH.trans t.arg)) rfl<|Ae (EV Ab9 AaT rfl (H0 _)) rfl<|AF rfl rfl t (Xh _ _ (As hH t)) fun cg b5 o y=>Aq 1 rfl<|AQ (s:=18) rfl (fun d=>?_) (fun d=>?_)
    ·have h:=BO (of_decide_eq_true d) h;refine Aa rfl rfl d<|Ae (Ad rfl) rfl<|Aa rfl rfl d<|Ae (Ad rfl) rfl<|Aa rfl rfl d ?_;refine Az h fun ak h=>?_;refine Bb rfl rfl Abe Lo k a.toNat (EM ak) (AW ak) rfl ?_;rintro ch _ rfl a3;refine Aa rfl rfl d<|Ae (Be rfl Ab9 rfl a3 (hH.trans o.arg)) rfl<|Aa rfl rfl d<|Ae (Ad rfl) rfl<|Ae (A1 rfl d rfl) rfl<|Aq 1 rfl<|AQ (s:=25) rfl (fun e=>?_) (fun e=>?_)
     ·have h:=BP (CE e) h;refine Aa rfl rfl e<|Ae (Ad rfl) rfl<|Aa rfl rfl e<|Ae (Ad rfl) rfl<|Aa rfl rfl e ?_;refine Az h fun al h=>?_;refine Bb rfl rfl Abe Lo k a.toNat (EM al) (AW al) rfl ?_;rintro ci _ rfl a4;refine Aa rfl rfl e<|Ae (Be rfl Ab9 rfl a4 (hH.trans o.arg)) rfl<|Aa rfl rfl e<|Ae (Ad rfl) rfl<|Ae (A1 rfl e rfl) rfl<|AL ?_;have b:=b.mono (Ab hH y);refine A6 (!decide (((a0.getD a.toNat default).toNat:Int)=92)) (Sub.of rfl) ⟨o,b,h⟩
     have h:=BO (CF e) h
     iterate 5 refine Ai rfl rfl e rfl ?_
     refine Ae (A3 rfl e rfl) rfl<|AL ?_;have b:=b.mono (Ab hH y);refine A6 false (Sub.of rfl) ⟨o,b,h⟩
    have h:=BP (of_decide_eq_false d) h
    iterate 5 refine Ai rfl rfl d rfl ?_
    refine Ae (A3 rfl d rfl) rfl<|Aq 1 rfl ?_
    iterate 5 refine Ai rfl rfl rfl rfl ?_
    refine Ae (A3 rfl rfl rfl) rfl<|AL ?_;have b:=b.mono (Ab hH y);refine A6 false (Sub.of rfl) ⟨o,b,h⟩
   rintro j b6 ⟨u,b,h⟩;refine Bl rfl h (fun a5 h=>?_) (fun a5 h=>?_)
   ·refine Ar<|Aq 3 rfl ?_;refine Az h fun am h=>?_;refine Bb rfl rfl Abe Lo k a.toNat (EM am) (AW am) rfl ?_;rintro cj _ rfl a6;refine Ae (Be rfl Ab9 rfl a6 (hH.trans u.arg)) rfl<|Bu (r:=.byte) (l:=[a0.getD a.toNat default]) rfl (fun _=>Ik _ _) rfl (show 1≤9223372036854775807 by decide) hH u (.c1 rfl .nil) ?_;intro ck cl b7 a7 aw a8;refine Az h fun a9 h=>?_;have b:=b.mono (Ab hH aw);refine Bq (r:=.byte) (l:=c) (m:=[a0.getD a.toNat default]) 0 rfl rfl Abe Lo rfl (by decide) rfl hH a7 rfl b a8 a9 fun bu cm ba bb b1 bc=>Aq 1 rfl<|AL<|A8<|Ao<|Ar<|Aq 1 rfl ?_;refine Az h fun bd h=>?_;refine Ae (AK rfl rfl rfl bd) rfl<|Aq 1 rfl<|AL ?_;have h:=BV.again h ac;refine AN ((c++[a0.getD a.toNat default]),(a+(1:Int)),bu,ba,ab) (Sub.of rfl) ⟨bb,bc,h⟩ (Nat.lt_succ_self _)
   refine Nl (.q 0 (.q 1 (.q 2 (.q 3 (.q 4 (.q 5 (.q 6 (.q 7 (.q 8 (.q 9 (.q 10 (.q 11 (.q 12 (.q 13 (.q 14 (.h 15 (.tail 16))))))))))))))))) mixed (by kernel_rfl) (fun cn an=>?_);have ad:=u.call an;have ax:=AV u an;refine CD 3 rfl ?_;refine Az h fun ao h=>?_;refine HE rfl rfl rfl Abe Lo k a.toNat (EM ao) (AW ao) rfl ?_;rintro co _ rfl be;refine BH (Be rfl Ab9 rfl be (hH.trans ad.arg)) rfl rfl<|BH (EV Ab9 AaT rfl (H0 _)) rfl rfl ?_;refine Az h fun bf h=>?_;refine BH (Ace rfl rfl bf) rfl rfl ?_;refine Ax h fun ah bg h=>?_;refine EI rfl rfl rfl (fun cp b8=>Me _ _ (Le.refl _) bg)<|CD 2 rfl ?_;refine Az h fun ap h=>?_;refine HE rfl rfl rfl Abe Lo k a.toNat (EM ap) (AW ap) rfl ?_;rintro cq _ rfl bh;refine BH (Be rfl Ab9 rfl bh (hH.trans ad.arg)) rfl rfl<|BH (EV Ab9 AaT rfl (H0 _)) rfl rfl ?_;refine Az h fun aq h=>?_;refine BH (Acf rfl rfl ⟨aq.1,aq.2.2⟩) rfl rfl ?_;refine Ax h fun ai bi h=>?_;refine EI rfl rfl rfl (fun cr b9=>Me _ _ (Le.refl _) bi) ?_
   refine Nr (r:=.byte) (l:=[(92:UInt8),ah,ai]) rfl rfl (fun _=>T7 _ _ _ _) rfl (show 3≤9223372036854775807 by decide) hH ad (.c1 rfl (.c1 rfl (.c1 rfl .nil))) fun cs ct ca ar ay ae=>BQ (fun cu au=>?_);have bj:=ar.call au;have ag:=AV ar au;refine Az h fun bk h=>?_;have b:=b.mono (Ab hH (ax.trans (ay.trans ag)));have ae:=ae.mono (Ab hH ag);refine Bq (r:=.byte) (l:=c) (m:=[(92:UInt8),ah,ai]) 0 rfl rfl Abe Lo rfl (by decide) rfl hH bj rfl b ae bk fun bv cv bl bm b2 bn=>Aq 1 rfl<|AL<|A8<|Ao<|Ar<|Aq 1 rfl ?_;refine Az h fun bo h=>?_;refine Ae (AK rfl rfl rfl bo) rfl<|Aq 1 rfl<|AL ?_;have h:=BV.again h ac;refine AN ((c++[(92:UInt8),ah,ai]),(a+(1:Int)),bv,bl,ab) (Sub.of rfl) ⟨bm,bn,h⟩ (Nat.lt_succ_self _)
  refine Br<|AD<|A5 ?_;have h:=BV.out h ac;refine Bd<|A6 (c,g,f) (Sub.of rfl) ⟨t,b,h⟩
 rintro⟨z,aa,p⟩ cw ⟨bw,af,h⟩;refine Bk 1 rfl<|Bu (r:=.byte) (l:=[(39:UInt8)]) rfl (fun _=>Ik _ _) rfl (show 1≤9223372036854775807 by decide) hH bw (.c1 rfl .nil) ?_;intro cx cy cb bp az bq;refine Az h fun br h=>?_;have af:=af.mono (Ab hH az);refine Bq (r:=.byte) (l:=z) (m:=[(39:UInt8)]) 0 rfl rfl Abe Lo rfl (by decide) rfl hH bp rfl af bq br fun cz c0 cc av b3 bs=>Ae (MJ rfl Abe Ab9 Abb (av.Tp hH (i:=0) rfl bs) (Le.refl _)) rfl<|AA 1 rfl<|Ay ?_
 cases h
 refine Am rfl rfl ?_;exact⟨av.ext,rfl⟩
def DQ:Option (Bool):=
 some (true)
def CH(a0:Go.L.Qv)(a1:Go.L.Qv)(self:Go.L.Qv→Go.L.Qv→Option (Bool)):Int→Option ((Int) ⊕ (Bool)):=fun a=>
 if a<(a0.f.2.2.2.2.2.2.length:Int) then AU (0≤a∧a<(a0.f.2.2.2.2.2.2.length:Int)) (AU (0≤a∧a<(a1.f.2.2.2.2.2.2.length:Int)) (Option.bind (self (a0.f.2.2.2.2.2.2.getD a.toNat default) (a1.f.2.2.2.2.2.2.getD a.toNat default)) (fun b=>if !b then Option.map Sum.inr (some (false)) else AU (BL (a+(1:Int))) (some (Sum.inl (a+(1:Int))))))) else Option.map Sum.inr (DQ)
def Hk(a0:Go.L.Qv)(a1:Go.L.Qv)(self:Go.L.Qv→Go.L.Qv→Option (Bool))(s:Int):Option (Bool):=Go.L.run (CH a0 a1 self) s
def Fm(a0:Go.L.Qv)(a1:Go.L.Qv)(self:Go.L.Qv→Go.L.Qv→Option (Bool)):Option (Bool):=
 (Hk a0 a1 self) (0:Int)
def Df(self:Go.L.Qv→Go.L.Qv→Option (Bool))(a0:Go.L.Qv)(a1:Go.L.Qv):Option (Bool):=
 if((((!decide (a0.f.1=a1.f.1))||(!decide (a0.f.2.2.1=a1.f.2.2.1)))||(!decide (a0.f.2.2.2.2.1=a1.f.2.2.2.2.1)))||(!decide (a0.f.2.2.2.2.2.1=a1.f.2.2.2.2.2.1))) then some (false) else Option.bind (GA a0.f.2.2.2.1 a1.f.2.2.2.1) (fun a=>if !a then some (false) else Option.bind (JN a0.f.2.1 a1.f.2.1) (fun b=>if((!b)||(!decide ((a0.f.2.2.2.2.2.2.length:Int)=(a1.f.2.2.2.2.2.2.length:Int)))) then some (false) else(Fm a0 a1 self)))
def Ef:Nat→Go.L.Qv→Go.L.Qv→Option (Bool)
 | 0=>fun _ _=>none
 | n+1=>Df (Ef n)
def GN:Go.L.Qv→Go.L.Qv→Option (Bool):=Ef 1000
theorem MF(self:Go.L.Qv→Go.L.Qv→Option (Bool))(hself:∀ (w:World) (H:PH) (hH:Le H (hp w)) {a0:Go.L.Qv} {a1:Go.L.Qv} {l:Value} {m:Value} {o:Value} {p:Value} {u:Value} {x:Value} (aj:AI .st H l (a0.f.2.1)) (ak:AI .byte H m (a0.f.2.2.2.1)) (aa:AI .Bc H o (a0.f.2.2.2.2.2.2)) (al:AI .st H p (a1.f.2.1)) (am:AI .byte H u (a1.f.2.2.2.1)) (ae:AI .Bc H x (a1.f.2.2.2.2.2.2)) {r:Bool} (h:self a0 a1=some r),Ok Tryz.prog 17 [.agg #[No a0.f.1,l,AaJ a0.f.2.2.1,m,No a0.f.2.2.2.2.1,No a0.f.2.2.2.2.2.1,o],.agg #[No a1.f.1,p,AaJ a1.f.2.2.1,u,No a1.f.2.2.2.2.1,No a1.f.2.2.2.2.2.1,x]] w (fun v w'=>Ext w w'∧v=.bool r))(w:World)(H:PH)(hH:Le H (hp w)){a0:Go.L.Qv}{a1:Go.L.Qv}{l:Value}{m:Value}{o:Value}{p:Value}{u:Value}{x:Value}(aj:AI .st H l (a0.f.2.1))(ak:AI .byte H m (a0.f.2.2.2.1))(aa:AI .Bc H o (a0.f.2.2.2.2.2.2))(al:AI .st H p (a1.f.2.1))(am:AI .byte H u (a1.f.2.2.2.1))(ae:AI .Bc H x (a1.f.2.2.2.2.2.2)){r:Bool}(h:Df self a0 a1=some r):
  Ok Tryz.prog 17 [.agg #[No a0.f.1,l,AaJ a0.f.2.2.1,m,No a0.f.2.2.2.2.1,No a0.f.2.2.2.2.2.1,o],.agg #[No a1.f.1,p,AaJ a1.f.2.2.1,u,No a1.f.2.2.2.2.1,No a1.f.2.2.2.2.2.1,x]] w (fun v w'=>Ext w w'∧v=.bool r):=by
 refine A4 (n:=76) [(0,.agg #[No a0.f.1,l,AaJ a0.f.2.2.1,m,No a0.f.2.2.2.2.1,No a0.f.2.2.2.2.2.1,o]),(1,.agg #[No a1.f.1,p,AaJ a1.f.2.2.1,u,No a1.f.2.2.2.2.1,No a1.f.2.2.2.2.2.1,x])] func17 rfl rfl rfl rfl rfl ?_;have hL:=AO.start w;refine Ak<|CK (t:=26) rfl rfl rfl hL fun w1 b1 bd bi _=>CK (t:=26) rfl rfl rfl bd fun w2 b2 k bj _=>AA 1 rfl<|Bn (σ:=Unit) (fun(_:Unit)=>[(2,(AaH b1)),(3,(AaH b2))]) (fun(_:Unit) wr=>AO w [.box b2 [No a1.f.1,p,AaJ a1.f.2.2.1,u,No a1.f.2.2.2.2.1,No a1.f.2.2.2.2.2.1,x] 26,.box b1 [No a0.f.1,l,AaJ a0.f.2.2.1,m,No a0.f.2.2.2.2.1,No a0.f.2.2.2.2.2.1,o] 26] wr∧(Fm a0 a1 self)=some r) ?_ ?_
 ·refine Ak<|Ae (Af rfl AbP rfl Cc (by decide)) rfl<|Ae (Ag 1 rfl AaT rfl k rfl rfl) rfl<|Ae (Af rfl AbP rfl Cc (by decide)) rfl<|Ae (Ag 0 rfl AaT rfl k rfl rfl) rfl<|Aq 2 rfl<|G9 6 17 (.bool ((!decide (a0.f.1=a1.f.1))||(!decide (a0.f.2.2.1=a1.f.2.2.1)))) (fun ap=>?_) ?_
  ·refine AQ (s:=11) rfl (fun e=>?_) (fun e=>?_)
   ·iterate 5 refine Ai rfl rfl e rfl ?_
    refine Ae (A1 rfl e rfl) rfl<|ap.to 5 (O9 e) rfl rfl
   refine Aa rfl rfl e<|Ae (Af rfl AbP rfl Fu (by decide)) rfl<|Aa rfl rfl e<|Ae (Ag 1 rfl Abb rfl k rfl rfl) rfl<|Aa rfl rfl e<|Ae (Af rfl AbP rfl Fu (by decide)) rfl<|Aa rfl rfl e<|Ae (Ag 0 rfl Abb rfl k rfl rfl) rfl<|Aa rfl rfl e<|Ae (ML rfl rfl) rfl<|Ae (A3 rfl e rfl) rfl<|ap.to 5 (OA e) rfl rfl
  refine Aq 1 rfl<|G9 6 24 (.bool (((!decide (a0.f.1=a1.f.1))||(!decide (a0.f.2.2.1=a1.f.2.2.1)))||(!decide (a0.f.2.2.2.2.1=a1.f.2.2.2.2.1)))) (fun aq=>?_) ?_
  ·refine AQ (s:=18) rfl (fun g=>?_) (fun g=>?_)
   ·iterate 5 refine Ai rfl rfl g rfl ?_
    refine Ae (A1 rfl g rfl) rfl<|aq.to 5 (O9 g) rfl rfl
   refine Aa rfl rfl g<|Ae (Af rfl AbP rfl Cc (by decide)) rfl<|Aa rfl rfl g<|Ae (Ag 1 rfl AaT rfl k rfl rfl) rfl<|Aa rfl rfl g<|Ae (Af rfl AbP rfl Cc (by decide)) rfl<|Aa rfl rfl g<|Ae (Ag 0 rfl AaT rfl k rfl rfl) rfl<|Aa rfl rfl g<|Ae (Ad rfl) rfl<|Ae (A3 rfl g rfl) rfl<|aq.to 5 (OA g) rfl rfl
  refine Aq 1 rfl<|G9 6 31 (.bool ((((!decide (a0.f.1=a1.f.1))||(!decide (a0.f.2.2.1=a1.f.2.2.1)))||(!decide (a0.f.2.2.2.2.1=a1.f.2.2.2.2.1)))||(!decide (a0.f.2.2.2.2.2.1=a1.f.2.2.2.2.2.1)))) (fun ar=>?_) ?_
  ·refine AQ (s:=25) rfl (fun i=>?_) (fun i=>?_)
   ·iterate 5 refine Ai rfl rfl i rfl ?_
    refine Ae (A1 rfl i rfl) rfl<|ar.to 5 (O9 i) rfl rfl
   refine Aa rfl rfl i<|Ae (Af rfl AbP rfl Cc (by decide)) rfl<|Aa rfl rfl i<|Ae (Ag 1 rfl AaT rfl k rfl rfl) rfl<|Aa rfl rfl i<|Ae (Af rfl AbP rfl Cc (by decide)) rfl<|Aa rfl rfl i<|Ae (Ag 0 rfl AaT rfl k rfl rfl) rfl<|Aa rfl rfl i<|Ae (Ad rfl) rfl<|Ae (A3 rfl i rfl) rfl<|ar.to 5 (OA i) rfl rfl
  refine Aq 1 rfl<|AQ (s:=32) rfl (fun c=>?_) (fun c=>?_)
  ·have h:=G5 c h
   iterate 6 refine Ai rfl rfl c rfl ?_
   refine Ae (A1 rfl c rfl) rfl<|Aq 1 rfl ?_
   iterate 6 refine Ai rfl rfl rfl rfl ?_
   refine Ae (A1 rfl rfl rfl) rfl<|Aq 1 rfl ?_
   iterate 7 refine Ai rfl rfl rfl rfl ?_
   refine Ae (A1 rfl rfl rfl) rfl<|Ac<|Cy rfl<|A9 1 rfl<|Ay<|Bt ?_
   cases h
   refine Am rfl rfl ?_;exact⟨k.ext,rfl⟩
  have h:=G6 c h;refine Aa rfl rfl c<|Ae (Af rfl AbP rfl Fw (by decide)) rfl<|Aa rfl rfl c<|Ae (Ag 1 rfl Abe rfl k rfl rfl) rfl<|Aa rfl rfl c<|Ae (Af rfl AbP rfl Fw (by decide)) rfl<|Aa rfl rfl c<|Ae (Ag 0 rfl Abe rfl k rfl rfl) rfl<|Aa rfl rfl c ?_;refine Ax h fun bt a7 h=>?_;refine AF rfl rfl k (Ly _ _ (As hH k) (ak.mono (Ah hH)) (am.mono (Ah hH)) a7) fun bu bk z bf=>Aa rfl rfl c<|Ae (Ad rfl) rfl<|Ae (A3 rfl c rfl) rfl<|Aq 1 rfl<|AQ (s:=40) rfl (fun d=>?_) (fun d=>?_)
  ·have h:=G5 d h
   iterate 6 refine Ai rfl rfl d rfl ?_
   refine Ae (A1 rfl d rfl) rfl<|Aq 1 rfl ?_
   iterate 7 refine Ai rfl rfl rfl rfl ?_
   refine Ae (A1 rfl rfl rfl) rfl<|Ac<|Cy rfl<|A9 1 rfl<|Ay<|Bt ?_
   cases h
   refine Am rfl rfl ?_;exact⟨z.ext,rfl⟩
  have h:=G6 d h;refine Aa rfl rfl d<|Ae (Af rfl AbP rfl Jm (by decide)) rfl<|Aa rfl rfl d<|Ae (Ag 1 rfl AbE rfl z rfl rfl) rfl<|Aa rfl rfl d<|Ae (Af rfl AbP rfl Jm (by decide)) rfl<|Aa rfl rfl d<|Ae (Ag 0 rfl AbE rfl z rfl rfl) rfl<|Aa rfl rfl d ?_;refine Ax h fun be a8 h=>?_;refine AF rfl rfl z (Su _ _ (As hH z) (aj.mono (Ah hH)) (al.mono (Ah hH)) a8) fun bv bl ab bg=>Aa rfl rfl d<|Ae (Ad rfl) rfl<|Ae (A3 rfl d rfl) rfl<|Aq 1 rfl<|G9 8 56 (.bool ((!be)||(!decide ((a0.f.2.2.2.2.2.2.length:Int)=(a1.f.2.2.2.2.2.2.length:Int))))) (fun au=>?_) ?_
  ·refine AQ (s:=48) rfl (fun b=>?_) (fun b=>?_)
   ·iterate 7 refine Ai rfl rfl b rfl ?_
    refine Ae (A1 rfl b rfl) rfl<|au.to 7 (O9 b) rfl rfl
   refine Aa rfl rfl b<|Ae (Af rfl AbP rfl Hr (by decide)) rfl<|Aa rfl rfl b<|Ae (Ag 1 rfl AcV rfl ab rfl rfl) rfl<|Aa rfl rfl b<|Ae (Bo rfl AcV aa) rfl<|Aa rfl rfl b<|Ae (Af rfl AbP rfl Hr (by decide)) rfl<|Aa rfl rfl b<|Ae (Ag 0 rfl AcV rfl ab rfl rfl) rfl<|Aa rfl rfl b<|Ae (Bo rfl AcV ae) rfl ?_;refine Aa rfl rfl b<|Ae (Ad rfl) rfl<|Ae (A3 rfl b rfl) rfl<|au.to 7 (OA b) rfl rfl
  refine Ac<|Bl rfl h (fun a9 h=>?_) (fun a9 h=>?_)
  ·refine A9 1 rfl<|Ay<|Bt ?_
   cases h
   refine Am rfl rfl ?_;exact⟨ab.ext,rfl⟩
  refine Au<|A6 () (Sub.of rfl) ⟨ab,h⟩
 rintro _ bm ⟨ba,h⟩;refine Bn (σ:=Unit) (fun(_:Unit)=>[]) (fun(_:Unit) wr=>AO w [.box b2 [No a1.f.1,p,AaJ a1.f.2.2.1,u,No a1.f.2.2.2.2.1,No a1.f.2.2.2.2.2.1,x] 26,.box b1 [No a0.f.1,l,AaJ a0.f.2.2.1,m,No a0.f.2.2.2.2.1,No a0.f.2.2.2.2.2.1,o] 26] wr∧DQ=some r) ?_ ?_
 ·refine A9 1 rfl<|A2 ?_;obtain⟨af,h⟩:=AY h;refine Bw (σ:=Int×Nat) (fun⟨j,n⟩=>[(2,(AaH b1)),(3,(AaH b2)),(5,No j)]) (fun⟨j,n⟩ wr=>AO w [.box b2 [No a1.f.1,p,AaJ a1.f.2.2.1,u,No a1.f.2.2.2.2.1,No a1.f.2.2.2.2.2.1,x] 26,.box b1 [No a0.f.1,l,AaJ a0.f.2.2.1,m,No a0.f.2.2.2.2.1,No a0.f.2.2.2.2.2.1,o] 26] wr∧FT (CH a0 a1 self) n j=some r) (fun⟨j,n⟩=>n) ((0:Int),af) (Sub.of rfl) ⟨ba,h⟩ ?_;rintro⟨j,nn100⟩ bh ⟨ac,h⟩;obtain⟨af,bn,rfl,h,ad⟩:=AX h;refine A7<|Bk 1 rfl<|Ae (Af rfl AbP rfl Hr (by decide)) rfl<|Ae (Ag 1 rfl AcV rfl ac rfl rfl) rfl<|Ae (Bo rfl AcV aa) rfl<|AA 1 rfl<|AM rfl h (fun ax h=>?_) (fun ax h=>?_)
  ·refine Au<|Ao<|A7<|A2<|EH (.q 0 (.q 1 (.q 2 (.q 3 (.q 4 (.q 5 (.q 6 (.q 7 (.q 8 (.q 9 (.q 10 (.q 11 (.tail 12))))))))))))) mixed (by kernel_rfl) (fun bb ay=>?_);have a:=ac.call ay;refine BH (Af rfl AbP rfl Hr (by decide)) rfl rfl<|BH (Ag 1 rfl AcV rfl a rfl rfl) rfl rfl<|CD 1 rfl ?_;refine Az h fun ag h=>?_;refine HE rfl rfl rfl AcV Bh aa j.toNat (EM ag) (AW ag) rfl ?_;rintro bo _ e106t0 az;obtain⟨_,_,rfl,rfl,⟨_,_,rfl,⟨e106v1,rfl,e106h1⟩,⟨_,_,rfl,rfl,⟨_,_,rfl,⟨e106v3,rfl,e106h3⟩,⟨_,_,rfl,rfl,⟨_,_,rfl,rfl,⟨e106v6,rfl,e106h6⟩⟩⟩⟩⟩⟩⟩:=Go.E.Rp.CM e106t0;refine BH (C1 rfl AbP rfl Bh az (hH.trans a.arg)) rfl rfl<|BH (Af rfl AbP rfl Hr (by decide)) rfl rfl<|BH (Ag 0 rfl AcV rfl a rfl rfl) rfl rfl<|CD 1 rfl ?_;refine Az h fun ah h=>?_;refine HE rfl rfl rfl AcV Bh ae j.toNat (EM ah) (AW ah) rfl ?_;rintro bp _ e108t0 a2;obtain⟨_,_,rfl,rfl,⟨_,_,rfl,⟨e108v1,rfl,e108h1⟩,⟨_,_,rfl,rfl,⟨_,_,rfl,⟨e108v3,rfl,e108h3⟩,⟨_,_,rfl,rfl,⟨_,_,rfl,rfl,⟨e108v6,rfl,e108h6⟩⟩⟩⟩⟩⟩⟩:=Go.E.Rp.CM e108t0;refine BH (C1 rfl AbP rfl Bh a2 (hH.trans a.arg)) rfl rfl ?_
   refine Ax h fun bq a3 h=>?_;have av:=(fun(aw:World) (y:Ext bb aw)=>hself aw _ (Le.refl _) ((e106h1.mono (hH.trans a.arg)).mono y.le) ((e106h3.mono (hH.trans a.arg)).mono y.le) ((e106h6.mono (hH.trans a.arg)).mono y.le) ((e108h1.mono (hH.trans a.arg)).mono y.le) ((e108h3.mono (hH.trans a.arg)).mono y.le) ((e108h6.mono (hH.trans a.arg)).mono y.le) a3);refine EI rfl rfl rfl av<|CD 1 rfl<|BQ (fun br a4=>?_);have ai:=a.call a4;refine Ac<|Bl rfl h (fun a5 h=>?_) (fun a5 h=>?_)
   ·refine A9 1 rfl<|Ay<|Aw<|Av<|BK ?_;have h:=BV.out h ad;refine Aw<|Bt ?_
    cases h
    refine Am rfl rfl ?_;exact⟨ai.ext,rfl⟩
   refine Au<|A8<|Ao<|Ar<|Aq 1 rfl ?_;refine Az h fun a6 h=>?_;refine Ae (AK rfl rfl rfl a6) rfl<|Aq 1 rfl<|AL ?_;have h:=BV.again h ad;refine AN ((j+(1:Int)),af) (Sub.of rfl) ⟨ai,h⟩ (Nat.lt_succ_self _)
  refine Br<|AD<|A5 ?_;have h:=BV.out h ad;refine Bd<|A6 () (Sub.nil _) ⟨ac,h⟩
 rintro _ bs ⟨bc,h⟩;refine A9 1 rfl<|Ay ?_
 cases h
 refine Am rfl rfl ?_;exact⟨bc.ext,rfl⟩
theorem Om(n:Nat):∀ (w:World) (H:PH) (hH:Le H (hp w)) {a0:Go.L.Qv} {a1:Go.L.Qv} {a:Value} {b:Value} {c:Value} {d:Value} {e:Value} {g:Value} (i:AI .st H a (a0.f.2.1)) (j:AI .byte H b (a0.f.2.2.2.1)) (k:AI .Bc H c (a0.f.2.2.2.2.2.2)) (l:AI .st H d (a1.f.2.1)) (m:AI .byte H e (a1.f.2.2.2.1)) (o:AI .Bc H g (a1.f.2.2.2.2.2.2)) {r:Bool} (h:Ef n a0 a1=some r),Ok Tryz.prog 17 [.agg #[No a0.f.1,a,AaJ a0.f.2.2.1,b,No a0.f.2.2.2.2.1,No a0.f.2.2.2.2.2.1,c],.agg #[No a1.f.1,d,AaJ a1.f.2.2.1,e,No a1.f.2.2.2.2.1,No a1.f.2.2.2.2.2.1,g]] w (fun v w'=>Ext w w'∧v=.bool r):=by
 induction n with
 | zero=>intros;rename_i h;cases h
 | succ n ih=>exact @MF (Ef n) ih
theorem LC(w:World)(H:PH)(hH:Le H (hp w)){a0:Go.L.Qv}{a1:Go.L.Qv}{a:Value}{b:Value}{c:Value}{d:Value}{e:Value}{g:Value}(i:AI .st H a (a0.f.2.1))(j:AI .byte H b (a0.f.2.2.2.1))(k:AI .Bc H c (a0.f.2.2.2.2.2.2))(l:AI .st H d (a1.f.2.1))(m:AI .byte H e (a1.f.2.2.2.1))(n:AI .Bc H g (a1.f.2.2.2.2.2.2)){r:Bool}(h:GN a0 a1=some r):Ok Tryz.prog 17 [.agg #[No a0.f.1,a,AaJ a0.f.2.2.1,b,No a0.f.2.2.2.2.1,No a0.f.2.2.2.2.2.1,c],.agg #[No a1.f.1,d,AaJ a1.f.2.2.1,e,No a1.f.2.2.2.2.1,No a1.f.2.2.2.2.2.1,g]] w (fun v w'=>Ext w w'∧v=.bool r):=Om 1000 w H hH i j k l m n h
def Hl(a:AaK):Option (AaK):=
 AU (([(34:UInt8)]).length+a.length≤9223372036854775807) (AU (([(34:UInt8)]++a).length+([(34:UInt8)]).length≤9223372036854775807) (some ((([(34:UInt8)]++a)++[(34:UInt8)]))))
def CI(a0:Go.L.Qv):AaK×Int→Option ((AaK×Int) ⊕ (AaK)):=fun⟨b,a⟩=>
 if a<(a0.f.2.1.length:Int) then AU (b.length+([32]:AaK).length≤9223372036854775807) (AU (0≤a∧a<(a0.f.2.1.length:Int)) (AU ((b++([32]:AaK)).length+(a0.f.2.1.getD a.toNat default).length≤9223372036854775807) (AU (BL (a+(1:Int))) (some (Sum.inl (((b++([32]:AaK))++a0.f.2.1.getD a.toNat default),(a+(1:Int)))))))) else Option.map Sum.inr (Hl b)
def Hm(a0:Go.L.Qv)(s:AaK×Int):Option (AaK):=Go.L.run (CI a0) s
def Hn(a0:Go.L.Qv)(self2:(List Go.L.Qv)→AaK→Int→Int→Option (AaK)):Option (AaK):=
 Option.bind (self2 a0.f.2.2.2.2.2.2 ([]:AaK) (8:Int) (9:Int)) (fun a=>AU (([33]:AaK).length+a.length≤9223372036854775807) (some ((([33]:AaK)++a))))
def G3(_self1:Go.L.Qv→Option (AaK))(self2:(List Go.L.Qv)→AaK→Int→Int→Option (AaK))(a0:Go.L.Qv):Option (AaK):=
 if a0.f.1=(1:Int) then AU (0≤(0:Int)∧(0:Int)<(a0.f.2.1.length:Int)) (some (a0.f.2.1.getD ((0:Int).toNat) default)) else(if a0.f.1=(2:Int) then AU (0≤(0:Int)∧(0:Int)<(a0.f.2.1.length:Int)) ((Hm a0) (a0.f.2.1.getD ((0:Int).toNat) default,(1:Int))) else(if a0.f.1=(3:Int) then AU (0≤(0:Int)∧(0:Int)<(a0.f.2.1.length:Int)) (AU ((a0.f.2.1.getD ((0:Int).toNat) default).length+([126]:AaK).length≤9223372036854775807) (Option.bind (I3 a0.f.2.2.2.2.1) (fun a=>AU ((a0.f.2.1.getD ((0:Int).toNat) default++([126]:AaK)).length+a.length≤9223372036854775807) (AU (((a0.f.2.1.getD ((0:Int).toNat) default++([126]:AaK))++a).length+([126]:AaK).length≤9223372036854775807) (AU (0≤(1:Int)∧(1:Int)<(a0.f.2.1.length:Int)) (AU ((((a0.f.2.1.getD ((0:Int).toNat) default++([126]:AaK))++a)++([126]:AaK)).length+(a0.f.2.1.getD ((1:Int).toNat) default).length≤9223372036854775807) (some (((((a0.f.2.1.getD ((0:Int).toNat) default++([126]:AaK))++a)++([126]:AaK))++a0.f.2.1.getD ((1:Int).toNat) default))))))))) else(if a0.f.1=(4:Int) then Option.bind (Kr a0.f.2.2.2.1) (fun e=>some (e)) else(if a0.f.1=(5:Int) then AU (([47]:AaK).length+a0.f.2.2.1.length≤9223372036854775807) (some ((([47]:AaK)++a0.f.2.2.1))) else(if a0.f.1=(6:Int) then AU (([47]:AaK).length+a0.f.2.2.1.length≤9223372036854775807) (AU ((([47]:AaK)++a0.f.2.2.1).length+([61]:AaK).length≤9223372036854775807) (Option.bind (I3 a0.f.2.2.2.2.1) (fun b=>AU (((([47]:AaK)++a0.f.2.2.1)++([61]:AaK)).length+b.length≤9223372036854775807) (AU ((((([47]:AaK)++a0.f.2.2.1)++([61]:AaK))++b).length+([46,46]:AaK).length≤9223372036854775807) (Option.bind (I3 a0.f.2.2.2.2.2.1) (fun c=>AU (((((([47]:AaK)++a0.f.2.2.1)++([61]:AaK))++b)++([46,46]:AaK)).length+c.length≤9223372036854775807) (some ((((((([47]:AaK)++a0.f.2.2.1)++([61]:AaK))++b)++([46,46]:AaK))++c))))))))) else(if a0.f.1=(7:Int) then AU (([47]:AaK).length+a0.f.2.2.1.length≤9223372036854775807) (AU ((([47]:AaK)++a0.f.2.2.1).length+([61]:AaK).length≤9223372036854775807) (Option.bind (Kr a0.f.2.2.2.1) (fun d=>AU (((([47]:AaK)++a0.f.2.2.1)++([61]:AaK)).length+d.length≤9223372036854775807) (some ((((([47]:AaK)++a0.f.2.2.1)++([61]:AaK))++d)))))) else(if a0.f.1=(8:Int) then Option.bind (self2 a0.f.2.2.2.2.2.2 ([38]:AaK) (9:Int) (0:Int)) (fun g=>some (g)) else(if a0.f.1=(9:Int) then Option.bind (self2 a0.f.2.2.2.2.2.2 ([124]:AaK) (0:Int) (0:Int)) (fun h=>some (h)) else(Hn a0 self2)))))))))
theorem MG{self1:Go.L.Qv→Option (AaK)}{self2:(List Go.L.Qv)→AaK→Int→Int→Option (AaK)}(_hself1:∀ (w:World) (H:PH) (hH:Le H (hp w)) {a0:Go.L.Qv} {c:Value} {e:Value} {g:Value} (i:AI .st H c (a0.f.2.1)) (x:AI .byte H e (a0.f.2.2.2.1)) (s:AI .Bc H g (a0.f.2.2.2.2.2.2)) {r:AaK} (h:self1 a0=some r),Ok Tryz.prog 16 [.agg #[No a0.f.1,c,AaJ a0.f.2.2.1,e,No a0.f.2.2.2.2.1,No a0.f.2.2.2.2.2.1,g]] w (fun v w'=>Ext w w'∧v=(AaJ r)))(hself2:∀ (w:World) (H:PH) (hH:Le H (hp w)) {a0:List Go.L.Qv} {a1:AaK} {a2:Int} {a3:Int} {c:Value} (i:AI .Bc H c (a0)) {r:AaK} (h:self2 a0 a1 a2 a3=some r),Ok Tryz.prog 42 [c,AaJ a1,No a2,No a3] w (fun v w'=>Ext w w'∧v=(AaJ r)))(w:World)(H:PH)(hH:Le H (hp w)){a0:Go.L.Qv}{c:Value}{e:Value}{g:Value}(i:AI .st H c (a0.f.2.1))(x:AI .byte H e (a0.f.2.2.2.1))(s:AI .Bc H g (a0.f.2.2.2.2.2.2)){r:AaK}(h:G3 self1 self2 a0=some r):
  Ok Tryz.prog 16 [.agg #[No a0.f.1,c,AaJ a0.f.2.2.1,e,No a0.f.2.2.2.2.1,No a0.f.2.2.2.2.2.1,g]] w (fun v w'=>Ext w w'∧v=(AaJ r)):=by
 refine A4 (n:=107) [(0,.agg #[No a0.f.1,c,AaJ a0.f.2.2.1,e,No a0.f.2.2.2.2.1,No a0.f.2.2.2.2.2.1,g])] func16 rfl rfl rfl rfl rfl ?_;have hL:=AO.start w;refine Ak<|CK (t:=26) rfl rfl rfl hL fun w1 b1 a cv _=>AA 1 rfl<|Bn (σ:=Unit) (fun(_:Unit)=>[(1,(AaH b1))]) (fun(_:Unit) wr=>AO w [.box b1 [No a0.f.1,c,AaJ a0.f.2.2.1,e,No a0.f.2.2.2.2.1,No a0.f.2.2.2.2.2.1,g] 26] wr∧(Hn a0 self2)=some r) ?_ ?_
 ·refine Ak<|Ae (Af rfl AbP rfl Cc (by decide)) rfl<|Ae (Ag 0 rfl AaT rfl a rfl rfl) rfl<|Ac<|A2<|A9 2 rfl<|AM rfl h (fun ai h=>?_) (fun ai h=>?_)
  ·refine Ak<|Ae (Af rfl AbP rfl Jm (by decide)) rfl<|Ae (Ag 0 rfl AbE rfl a rfl rfl) rfl ?_;refine Az h fun z h=>?_;refine Bb rfl rfl AbE Fu i ((0:Int).toNat) (EM z) (AW z) rfl ?_;rintro cw _ rfl aj;refine Ae (Be rfl Abb rfl aj (hH.trans a.arg)) rfl<|AA 1 rfl<|Ay<|Aw<|Bt ?_
   cases h
   refine Am rfl rfl ?_;exact⟨a.ext,rfl⟩
  refine A9 2 rfl<|AM rfl h (fun ak h=>?_) (fun ak h=>?_)
  ·refine Ak<|Ae (Af rfl AbP rfl Jm (by decide)) rfl<|Ae (Ag 0 rfl AbE rfl a rfl rfl) rfl ?_;refine Az h fun aa h=>?_;refine Bb rfl rfl AbE Fu i ((0:Int).toNat) (EM aa) (AW aa) rfl ?_;rintro cx _ rfl al;refine Ae (Be rfl Abb rfl al (hH.trans a.arg)) rfl<|AA 1 rfl<|Bn (σ:=AaK) (fun k=>[(3,(AaJ k))]) (fun k wr=>AO w [.box b1 [No a0.f.1,c,AaJ a0.f.2.2.1,e,No a0.f.2.2.2.2.1,No a0.f.2.2.2.2.2.1,g] 26] wr∧Hl k=some r) ?_ ?_
   ·refine A9 1 rfl<|A2 ?_;obtain⟨y,h⟩:=AY h;refine Bw (σ:=AaK×Int×Nat) (fun⟨d,b,n⟩=>[(1,(AaH b1)),(3,(AaJ d)),(4,No b)]) (fun⟨d,b,n⟩ wr=>AO w [.box b1 [No a0.f.1,c,AaJ a0.f.2.2.1,e,No a0.f.2.2.2.2.1,No a0.f.2.2.2.2.2.1,g] 26] wr∧FT (CI a0) n (d,b)=some r) (fun⟨d,b,n⟩=>n) (a0.f.2.1.getD ((0:Int).toNat) default,(1:Int),y) (Sub.of rfl) ⟨a,h⟩ ?_;rintro⟨d,b,nn149⟩ cj ⟨m,h⟩;obtain⟨y,cy,rfl,h,ab⟩:=AX h;refine A7<|Bk 1 rfl<|Ae (Af rfl AbP rfl Jm (by decide)) rfl<|Ae (Ag 0 rfl AbE rfl m rfl rfl) rfl<|Ae (Bo rfl AbE i) rfl<|AA 1 rfl<|AM rfl h (fun am h=>?_) (fun am h=>?_)
    ·refine Au<|Ao<|A7<|A2<|Ar<|Aq 1 rfl ?_;refine Az h fun an h=>?_;refine Ae (Dw rfl rfl an) rfl<|Ae (Af rfl AbP rfl Jm (by decide)) rfl<|Ae (Ag 0 rfl AbE rfl m rfl rfl) rfl<|Aq 1 rfl ?_;refine Az h fun ac h=>?_;refine Bb rfl rfl AbE Fu i b.toNat (EM ac) (AW ac) rfl ?_;rintro cz _ rfl ao;refine Ae (Be rfl Abb rfl ao (hH.trans m.arg)) rfl ?_;refine Az h fun ap h=>?_;refine Ae (Dw rfl rfl ap) rfl<|Aq 1 rfl<|AL<|A8<|Ao<|Ar<|Aq 1 rfl ?_;refine Az h fun aq h=>?_;refine Ae (AK rfl rfl rfl aq) rfl<|Aq 1 rfl<|AL ?_;have h:=BV.again h ab;refine AN (((d++([32]:AaK))++a0.f.2.1.getD b.toNat default),(b+(1:Int)),y) (Sub.of rfl) ⟨m,h⟩ (Nat.lt_succ_self _)
    refine Br<|AD<|A5 ?_;have h:=BV.out h ab;refine Bd<|A6 d (Sub.of rfl) ⟨m,h⟩
   rintro k ck ⟨ar,h⟩;refine Ak<|Bu (r:=.byte) (l:=[(34:UInt8)]) rfl (fun _=>Ik _ _) rfl (show 1≤9223372036854775807 by decide) hH ar (.c1 rfl .nil) fun c0 c2 cl ad cd au=>Ae (MJ rfl Abe Ab9 Abb au (As hH ad)) rfl<|Aq 1 rfl ?_;refine Az h fun av h=>?_;refine Ae (Dw rfl rfl av) rfl<|Bu (r:=.byte) (l:=[(34:UInt8)]) rfl (fun _=>Ik _ _) rfl (show 1≤9223372036854775807 by decide) hH ad (.c1 rfl .nil) fun c3 c4 cm ae ce aw=>Ae (MJ rfl Abe Ab9 Abb aw (As hH ae)) rfl ?_;refine Az h fun ax h=>?_;refine Ae (Dw rfl rfl ax) rfl<|AA 1 rfl<|Ay<|Aw<|Bt ?_
   cases h
   refine Am rfl rfl ?_;exact⟨ae.ext,rfl⟩
  refine A9 2 rfl<|AM rfl h (fun ay h=>?_) (fun ay h=>?_)
  ·refine EH (.q 0 (.q 1 (.q 2 (.q 3 (.q 4 (.q 5 (.q 6 (.q 7 (.q 8 (.q 9 (.q 10 (.q 11 (.q 12 (.q 13 (.q 14 (.q 15 (.tail 16))))))))))))))))) mixed (by kernel_rfl) (fun c5 az=>?_);have j:=a.call az;refine BH (Af rfl AbP rfl Jm (by decide)) rfl rfl<|BH (Ag 0 rfl AbE rfl j rfl rfl) rfl rfl ?_;refine Az h fun af h=>?_;refine HE rfl rfl rfl AbE Fu i ((0:Int).toNat) (EM af) (AW af) rfl ?_;rintro c6 _ rfl a4;refine BH (Be rfl Abb rfl a4 (hH.trans j.arg)) rfl rfl ?_;refine Az h fun a5 h=>?_;refine BH (Dw rfl rfl a5) rfl rfl<|BH (Af rfl AbP rfl Cc (by decide)) rfl rfl<|BH (Ag 0 rfl AaT rfl j rfl rfl) rfl rfl ?_;refine Ax h fun c7 a6 h=>?_;refine EI rfl rfl rfl (fun c8 cn=>Kz _ _ (Le.refl _) a6) ?_;refine Az h fun a7 h=>?_;refine BH (Dw rfl rfl a7) rfl rfl ?_;refine Az h fun a8 h=>?_;refine BH (Dw rfl rfl a8) rfl rfl<|BH (Af rfl AbP rfl Jm (by decide)) rfl rfl<|BH (Ag 0 rfl AbE rfl j rfl rfl) rfl rfl ?_;refine Az h fun ag h=>?_;refine HE rfl rfl rfl AbE Fu i ((1:Int).toNat) (EM ag) (AW ag) rfl ?_;rintro c9 _ rfl a9;refine BH (Be rfl Abb rfl a9 (hH.trans j.arg)) rfl rfl ?_
   refine Az h fun ba h=>?_;refine BH (Dw rfl rfl ba) rfl rfl<|CD 1 rfl<|BQ (fun da bb=>?_);have bc:=j.call bb;refine Ac<|Ay<|Aw<|Bt ?_
   cases h
   refine Am rfl rfl ?_;exact⟨bc.ext,rfl⟩
  refine A9 2 rfl<|AM rfl h (fun bd h=>?_) (fun bd h=>?_)
  ·refine Ak<|Ae (Af rfl AbP rfl Fw (by decide)) rfl<|Ae (Ag 0 rfl Abe rfl a rfl rfl) rfl ?_;refine Ax h fun db be h=>?_;refine AF rfl rfl a (NG _ _ (As hH a) (x.mono (Ah hH)) be) fun dc co bf cf=>AA 1 rfl<|Ay<|Aw<|Bt ?_
   cases h
   refine Am rfl rfl ?_;exact⟨bf.ext,rfl⟩
  refine A9 2 rfl<|AM rfl h (fun bg h=>?_) (fun bg h=>?_)
  ·refine Ak<|Ae (Af rfl AbP rfl Fu (by decide)) rfl<|Ae (Ag 0 rfl Abb rfl a rfl rfl) rfl ?_;refine Az h fun bh h=>?_;refine Ae (Dw rfl rfl bh) rfl<|AA 1 rfl<|Ay<|Aw<|Bt ?_
   cases h
   refine Am rfl rfl ?_;exact⟨a.ext,rfl⟩
  refine A9 2 rfl<|AM rfl h (fun bi h=>?_) (fun bi h=>?_)
  ·refine EH (.q 0 (.q 1 (.q 2 (.q 3 (.q 4 (.q 5 (.q 6 (.q 7 (.q 8 (.q 9 (.q 10 (.q 11 (.q 12 (.q 13 (.tail 14))))))))))))))) mixed (by kernel_rfl) (fun dd bj=>?_);have o:=a.call bj;refine BH (Af rfl AbP rfl Fu (by decide)) rfl rfl<|BH (Ag 0 rfl Abb rfl o rfl rfl) rfl rfl ?_;refine Az h fun bk h=>?_;refine BH (Dw rfl rfl bk) rfl rfl ?_;refine Az h fun bl h=>?_;refine BH (Dw rfl rfl bl) rfl rfl<|BH (Af rfl AbP rfl Cc (by decide)) rfl rfl<|BH (Ag 0 rfl AaT rfl o rfl rfl) rfl rfl ?_;refine Ax h fun de bm h=>?_;refine EI rfl rfl rfl (fun df cp=>Kz _ _ (Le.refl _) bm) ?_;refine Az h fun bn h=>?_;refine BH (Dw rfl rfl bn) rfl rfl ?_;refine Az h fun bo h=>?_;refine BH (Dw rfl rfl bo) rfl rfl<|BH (Af rfl AbP rfl Cc (by decide)) rfl rfl<|BH (Ag 0 rfl AaT rfl o rfl rfl) rfl rfl ?_;refine Ax h fun dg bp h=>?_;refine EI rfl rfl rfl (fun dh cq=>Kz _ _ (Le.refl _) bp) ?_;refine Az h fun bq h=>?_;refine BH (Dw rfl rfl bq) rfl rfl<|CD 1 rfl<|BQ (fun di br=>?_);have bs:=o.call br;refine Ac<|Ay<|Aw<|Bt ?_
   cases h
   refine Am rfl rfl ?_;exact⟨bs.ext,rfl⟩
  refine A9 2 rfl<|AM rfl h (fun bt h=>?_) (fun bt h=>?_)
  ·refine EH (.q 0 (.q 1 (.q 2 (.q 3 (.q 4 (.q 5 (.q 6 (.q 7 (.q 8 (.tail 9)))))))))) mixed (by kernel_rfl) (fun dj bu=>?_);have p:=a.call bu;refine BH (Af rfl AbP rfl Fu (by decide)) rfl rfl<|BH (Ag 0 rfl Abb rfl p rfl rfl) rfl rfl ?_;refine Az h fun bv h=>?_;refine BH (Dw rfl rfl bv) rfl rfl ?_;refine Az h fun bw h=>?_;refine BH (Dw rfl rfl bw) rfl rfl<|BH (Af rfl AbP rfl Fw (by decide)) rfl rfl<|BH (Ag 0 rfl Abe rfl p rfl rfl) rfl rfl ?_;refine Ax h fun dk bx h=>?_;refine EI rfl rfl rfl (fun dl bz=>NG _ _ (Le.refl _) ((x.mono (hH.trans p.arg)).mono bz.le) bx) ?_;refine Az h fun b0 h=>?_;refine BH (Dw rfl rfl b0) rfl rfl<|CD 1 rfl<|BQ (fun dm b2=>?_);have b3:=p.call b2;refine Ac<|Ay<|Aw<|Bt ?_
   cases h
   refine Am rfl rfl ?_;exact⟨b3.ext,rfl⟩
  refine A9 2 rfl<|AM rfl h (fun b4 h=>?_) (fun b4 h=>?_)
  ·refine Ak<|Ae (Af rfl AbP rfl Hr (by decide)) rfl<|Ae (Ag 0 rfl AcV rfl a rfl rfl) rfl ?_;refine Ax h fun dn b5 h=>?_;refine AF rfl rfl a (hself2 _ _ (As hH a) (s.mono (Ah hH)) b5) fun dp cr b6 cg=>AA 1 rfl<|Ay<|Aw<|Bt ?_
   cases h
   refine Am rfl rfl ?_;exact⟨b6.ext,rfl⟩
  refine A9 2 rfl<|AM rfl h (fun b7 h=>?_) (fun b7 h=>?_)
  ·refine Ak<|Ae (Af rfl AbP rfl Hr (by decide)) rfl<|Ae (Ag 0 rfl AcV rfl a rfl rfl) rfl ?_;refine Ax h fun dq b8 h=>?_;refine AF rfl rfl a (hself2 _ _ (As hH a) (s.mono (Ah hH)) b8) fun dr cs b9 ch=>AA 1 rfl<|Ay<|Aw<|Bt ?_
   cases h
   refine Am rfl rfl ?_;exact⟨b9.ext,rfl⟩
  refine Au<|A8<|A6 () (Sub.of rfl) ⟨a,h⟩
 rintro _ ct ⟨u,h⟩;refine Ak<|Ae (Af rfl AbP rfl Hr (by decide)) rfl<|Ae (Ag 0 rfl AcV rfl u rfl rfl) rfl ?_;refine Ax h fun ds ca h=>?_;refine AF rfl rfl u (hself2 _ _ (As hH u) (s.mono (Ah hH)) ca) ?_;intro dt cu cb ci;refine Az h fun cc h=>?_;refine Ae (Dw rfl rfl cc) rfl<|AA 1 rfl<|Ay ?_
 cases h
 refine Am rfl rfl ?_;exact⟨cb.ext,rfl⟩
def E0(a0:List Go.L.Qv)(a:Int)(b:AaK)(self1:Go.L.Qv→Option (AaK))(d:Bool):Option ((AaK×Int) ⊕ (AaK)):=
 if d then AU (b.length+([40]:AaK).length≤9223372036854775807) (AU (0≤a∧a<(a0.length:Int)) (Option.bind (self1 (a0.getD a.toNat default)) (fun c=>AU ((b++([40]:AaK)).length+c.length≤9223372036854775807) (AU (((b++([40]:AaK))++c).length+([41]:AaK).length≤9223372036854775807) (AU (BL (a+(1:Int))) (some (Sum.inl ((((b++([40]:AaK))++c)++([41]:AaK)),(a+(1:Int)))))))))) else AU (0≤a∧a<(a0.length:Int)) (Option.bind (self1 (a0.getD a.toNat default)) (fun e=>AU (b.length+e.length≤9223372036854775807) (AU (BL (a+(1:Int))) (some (Sum.inl ((b++e),(a+(1:Int))))))))
def E1(a0:List Go.L.Qv)(a2:Int)(a3:Int)(a:Int)(self1:Go.L.Qv→Option (AaK))(b:AaK):Option ((AaK×Int) ⊕ (AaK)):=
 AU (0≤a∧a<(a0.length:Int)) (if(a0.getD a.toNat default).f.1=a2 then(E0 a0 a b self1) true else AU (0≤a∧a<(a0.length:Int)) ((E0 a0 a b self1) (decide ((a0.getD a.toNat default).f.1=a3))))
def Gm(a:AaK):Option (AaK):=
 some (a)
def Cd(a0:List Go.L.Qv)(a1:AaK)(a2:Int)(a3:Int)(self1:Go.L.Qv→Option (AaK)):AaK×Int→Option ((AaK×Int) ⊕ (AaK)):=fun⟨b,a⟩=>
 if a<(a0.length:Int) then(if(0:Int)<a then AU (b.length+a1.length≤9223372036854775807) ((E1 a0 a2 a3 a self1) (b++a1)) else(E1 a0 a2 a3 a self1) b) else Option.map Sum.inr (Gm b)
def Ks(a0:List Go.L.Qv)(a1:AaK)(a2:Int)(a3:Int)(self1:Go.L.Qv→Option (AaK))(s:AaK×Int):Option (AaK):=Go.L.run (Cd a0 a1 a2 a3 self1) s
def HM(self1:Go.L.Qv→Option (AaK))(_self2:(List Go.L.Qv)→AaK→Int→Int→Option (AaK))(a0:List Go.L.Qv)(a1:AaK)(a2:Int)(a3:Int):Option (AaK):=
 (Ks a0 a1 a2 a3 self1) (([]:AaK),(0:Int))
theorem NH{self1:Go.L.Qv→Option (AaK)}{self2:(List Go.L.Qv)→AaK→Int→Int→Option (AaK)}(hself1:∀ (w:World) (H:PH) (hH:Le H (hp w)) {a0:Go.L.Qv} {e:Value} {y:Value} {z:Value} (j:AI .st H e (a0.f.2.1)) (_h0_1:AI .byte H y (a0.f.2.2.2.1)) (_h0_2:AI .Bc H z (a0.f.2.2.2.2.2.2)) {r:AaK} (h:self1 a0=some r),Ok Tryz.prog 16 [.agg #[No a0.f.1,e,AaJ a0.f.2.2.1,y,No a0.f.2.2.2.2.1,No a0.f.2.2.2.2.2.1,z]] w (fun v w'=>Ext w w'∧v=(AaJ r)))(_hself2:∀ (w:World) (H:PH) (hH:Le H (hp w)) {a0:List Go.L.Qv} {a1:AaK} {a2:Int} {a3:Int} {e:Value} (j:AI .Bc H e (a0)) {r:AaK} (h:self2 a0 a1 a2 a3=some r),Ok Tryz.prog 42 [e,AaJ a1,No a2,No a3] w (fun v w'=>Ext w w'∧v=(AaJ r)))(w:World)(H:PH)(hH:Le H (hp w)){a0:List Go.L.Qv}{a1:AaK}{a2:Int}{a3:Int}{e:Value}(j:AI .Bc H e (a0)){r:AaK}(h:HM self1 self2 a0 a1 a2 a3=some r):
  Ok Tryz.prog 42 [e,AaJ a1,No a2,No a3] w (fun v w'=>Ext w w'∧v=(AaJ r)):=by
 refine A4 (n:=55) [(0,e),(1,(AaJ a1)),(2,No a2),(3,No a3)] func42 rfl rfl rfl rfl rfl ?_;have hL:=AO.start w;refine A9 1 rfl<|A9 1 rfl<|Bn (σ:=AaK) (fun k=>[(9,(AaJ k))]) (fun k wr=>AO w [] wr∧Gm k=some r) ?_ ?_
 ·refine A9 1 rfl<|A2 ?_;obtain⟨m,h⟩:=AY h;refine Bw (σ:=AaK×Int×Nat) (fun⟨c,a,n⟩=>[(0,e),(1,(AaJ a1)),(2,No a2),(3,No a3),(9,(AaJ c)),(10,No a)]) (fun⟨c,a,n⟩ wr=>AO w [] wr∧FT (Cd a0 a1 a2 a3 self1) n (c,a)=some r) (fun⟨c,a,n⟩=>n) (([]:AaK),(0:Int),m) (Sub.of rfl) ⟨hL,h⟩ ?_;rintro⟨c,a,nn123⟩ a6 ⟨o,h⟩;obtain⟨m,aa,rfl,h,p⟩:=AX h;refine A7<|Bk 2 rfl<|Ae (Bo rfl AcV j) rfl<|AA 1 rfl<|AM rfl h (fun ab h=>?_) (fun ab h=>?_)
  ·refine Au<|Ao<|A7<|A2<|Bn (σ:=AaK) (fun d=>[(0,e),(1,(AaJ a1)),(2,No a2),(3,No a3),(9,(AaJ d)),(10,No a)]) (fun d wr=>AO w [] wr∧(E1 a0 a2 a3 a self1) d=some aa) ?_ ?_
   ·refine A9 2 rfl<|AM rfl h (fun ac h=>?_) (fun ac h=>?_)
    ·refine Ar<|Aq 2 rfl ?_;refine Az h fun ad h=>?_;refine Ae (Dw rfl rfl ad) rfl<|Aq 1 rfl<|AL<|A6 (c++a1) (Sub.of rfl) ⟨o,h⟩
    refine Au<|A6 c (Sub.of rfl) ⟨o,h⟩
   rintro d a7 ⟨l,h⟩;refine Bn (σ:=Bool) (fun g=>[(0,e),(1,(AaJ a1)),(2,No a2),(3,No a3),(9,(AaJ d)),(10,No a),(37,.bool g)]) (fun g wr=>AO w [] wr∧(E0 a0 a d self1) g=some aa) ?_ ?_
   ·refine Ar<|Aq 2 rfl ?_;refine Az h fun q h=>?_;refine Bb rfl rfl AcV Bh j a.toNat (EM q) (AW q) rfl ?_;rintro bb _ e153t0 ae;obtain⟨_,_,rfl,rfl,⟨_,_,rfl,⟨e153v1,rfl,e153h1⟩,⟨_,_,rfl,rfl,⟨_,_,rfl,⟨e153v3,rfl,e153h3⟩,⟨_,_,rfl,rfl,⟨_,_,rfl,rfl,⟨e153v6,rfl,e153h6⟩⟩⟩⟩⟩⟩⟩:=Go.E.Rp.CM e153t0;refine Ae (Af rfl AbP rfl Cc (by decide)) rfl ?_;have af:=ae.add 0;refine Ae (Be rfl AaT rfl af (hH.trans l.arg)) rfl<|Aq 3 rfl<|AQ (s:=29) rfl (fun b=>?_) (fun b=>?_)
    ·have h:=BO (of_decide_eq_true b) h
     iterate 7 refine Ai rfl rfl b rfl ?_
     refine Ae (A1 rfl b rfl) rfl<|AL<|A6 true (Sub.of rfl) ⟨l,h⟩
    have h:=BP (of_decide_eq_false b) h;refine Aa rfl rfl b<|Ae (Ad rfl) rfl<|Aa rfl rfl b<|Ae (Ad rfl) rfl<|Aa rfl rfl b ?_;refine Az h fun t h=>?_;refine Bb rfl rfl AcV Bh j a.toNat (EM t) (AW t) rfl ?_;rintro bc _ e159t0 ag;obtain⟨_,_,rfl,rfl,⟨_,_,rfl,⟨e159v1,rfl,e159h1⟩,⟨_,_,rfl,rfl,⟨_,_,rfl,⟨e159v3,rfl,e159h3⟩,⟨_,_,rfl,rfl,⟨_,_,rfl,rfl,⟨e159v6,rfl,e159h6⟩⟩⟩⟩⟩⟩⟩:=Go.E.Rp.CM e159t0;refine Aa rfl rfl b<|Ae (Af rfl AbP rfl Cc (by decide)) rfl ?_;have ah:=ag.add 0;refine Aa rfl rfl b<|Ae (Be rfl AaT rfl ah (hH.trans l.arg)) rfl<|Aa rfl rfl b<|Ae (Ad rfl) rfl<|Aa rfl rfl b<|Ae (Ad rfl) rfl<|Ae (A3 rfl b rfl) rfl<|AL<|A6 (decide ((a0.getD a.toNat default).f.1=a3)) (Sub.of rfl) ⟨l,h⟩
   rintro g a8 ⟨i,h⟩;refine Bl rfl h (fun ai h=>?_) (fun ai h=>?_)
   ·refine Ar<|Aq 1 rfl ?_;refine Az h fun aj h=>?_;refine Ae (Dw rfl rfl aj) rfl<|Aq 2 rfl ?_;refine Az h fun u h=>?_;refine Bb rfl rfl AcV Bh j a.toNat (EM u) (AW u) rfl ?_;rintro bd _ e166t0 ak;obtain⟨_,_,rfl,rfl,⟨_,_,rfl,⟨e166v1,rfl,e166h1⟩,⟨_,_,rfl,rfl,⟨_,_,rfl,⟨e166v3,rfl,e166h3⟩,⟨_,_,rfl,rfl,⟨_,_,rfl,rfl,⟨e166v6,rfl,e166h6⟩⟩⟩⟩⟩⟩⟩:=Go.E.Rp.CM e166t0;refine Ae (C1 rfl AbP rfl Bh ak (hH.trans i.arg)) rfl ?_;refine Ax h fun ax al h=>?_;refine AF rfl rfl i (hself1 (a0:=(a0.getD a.toNat default)) _ _ (As hH i) (e166h1.mono (Ah hH)) (e166h3.mono (Ah hH)) (e166h6.mono (Ah hH)) al) ?_;intro be a9 am a4;refine Az h fun an h=>?_;refine Ae (Dw rfl rfl an) rfl ?_;refine Az h fun ao h=>?_;refine Ae (Dw rfl rfl ao) rfl<|Aq 1 rfl<|AL<|A8<|Ao<|Ar<|Aq 1 rfl ?_;refine Az h fun ap h=>?_;refine Ae (AK rfl rfl rfl ap) rfl<|Aq 1 rfl<|AL ?_;have h:=BV.again h p;refine AN ((((d++([40]:AaK))++ax)++([41]:AaK)),(a+(1:Int)),m) (Sub.of rfl) ⟨am,h⟩ (Nat.lt_succ_self _)
   refine Ar<|Aq 3 rfl ?_;refine Az h fun x h=>?_;refine Bb rfl rfl AcV Bh j a.toNat (EM x) (AW x) rfl ?_;rintro bf _ e174t0 aq;obtain⟨_,_,rfl,rfl,⟨_,_,rfl,⟨e174v1,rfl,e174h1⟩,⟨_,_,rfl,rfl,⟨_,_,rfl,⟨e174v3,rfl,e174h3⟩,⟨_,_,rfl,rfl,⟨_,_,rfl,rfl,⟨e174v6,rfl,e174h6⟩⟩⟩⟩⟩⟩⟩:=Go.E.Rp.CM e174t0;refine Ae (C1 rfl AbP rfl Bh aq (hH.trans i.arg)) rfl ?_;refine Ax h fun ay ar h=>?_;refine AF rfl rfl i (hself1 (a0:=(a0.getD a.toNat default)) _ _ (As hH i) (e174h1.mono (Ah hH)) (e174h3.mono (Ah hH)) (e174h6.mono (Ah hH)) ar) ?_;intro bg ba au a5;refine Az h fun av h=>?_;refine Ae (Dw rfl rfl av) rfl<|Aq 1 rfl<|AL<|A8<|Ao<|Ar<|Aq 1 rfl ?_;refine Az h fun aw h=>?_;refine Ae (AK rfl rfl rfl aw) rfl<|Aq 1 rfl<|AL ?_;have h:=BV.again h p;refine AN ((d++ay),(a+(1:Int)),m) (Sub.of rfl) ⟨au,h⟩ (Nat.lt_succ_self _)
  refine Br<|AD<|A5 ?_;have h:=BV.out h p;refine Bd<|A6 c (Sub.of rfl) ⟨o,h⟩
 rintro k bh ⟨az,h⟩;refine A9 2 rfl<|Ay ?_
 cases h
 refine Am rfl rfl ?_;exact⟨az.ext,rfl⟩
def BJ:Nat→(Go.L.Qv→Option (AaK))×((List Go.L.Qv)→AaK→Int→Int→Option (AaK))
 | 0=>(fun _=>none,fun _ _ _ _=>none)
 | n+1=>(G3 ((BJ n).1) ((BJ n).2),HM ((BJ n).1) ((BJ n).2))
def GO:Go.L.Qv→Option (AaK):=(BJ 1000).1
theorem Na(n:Nat):(∀ (w:World) (H:PH) (hH:Le H (hp w)) {a0:Go.L.Qv} {a:Value} {b:Value} {c:Value} (d:AI .st H a (a0.f.2.1)) (e:AI .byte H b (a0.f.2.2.2.1)) (g:AI .Bc H c (a0.f.2.2.2.2.2.2)) {r:AaK} (h:((BJ n).1) a0=some r),Ok Tryz.prog 16 [.agg #[No a0.f.1,a,AaJ a0.f.2.2.1,b,No a0.f.2.2.2.2.1,No a0.f.2.2.2.2.2.1,c]] w (fun v w'=>Ext w w'∧v=(AaJ r)))∧(∀ (w:World) (H:PH) (hH:Le H (hp w)) {a0:List Go.L.Qv} {a1:AaK} {a2:Int} {a3:Int} {a:Value} (d:AI .Bc H a (a0)) {r:AaK} (h:((BJ n).2) a0 a1 a2 a3=some r),Ok Tryz.prog 42 [a,AaJ a1,No a2,No a3] w (fun v w'=>Ext w w'∧v=(AaJ r))):=by
 induction n with
 | zero=>exact⟨(by intros;rename_i h;cases h),(by intros;rename_i h;cases h)⟩
 | succ n ih=>exact⟨MG ih.1 ih.2,NH ih.1 ih.2⟩
theorem LD(w:World)(H:PH)(hH:Le H (hp w)){a0:Go.L.Qv}{a:Value}{b:Value}{c:Value}(d:AI .st H a (a0.f.2.1))(e:AI .byte H b (a0.f.2.2.2.1))(g:AI .Bc H c (a0.f.2.2.2.2.2.2)){r:AaK}(h:GO a0=some r):Ok Tryz.prog 16 [.agg #[No a0.f.1,a,AaJ a0.f.2.2.1,b,No a0.f.2.2.2.2.1,No a0.f.2.2.2.2.2.1,c]] w (fun v w'=>Ext w w'∧v=(AaJ r)):=(Na 1000).1 w H hH d e g h
def IY(a0:Go.L.Qv):Option ((Int×Int)):=
 Option.bind (Lk a0 (0:Int) (1:Int)) (fun a=>if a.2.1=(0:Int) then Option.bind (GO a0) (fun c=>if(200:Int)<(c.length:Int) then Option.bind (IM (14:Int) (-1:Int)) (fun b=>some ((b.1,b.2))) else some ((a.2.1,a.2.2))) else some ((a.2.1,a.2.2)))
theorem OI(w:World)(H:PH)(hH:Le H (hp w)){a0:Go.L.Qv}{d:Value}{e:Value}{g:Value}(j:AI .st H d (a0.f.2.1))(k:AI .byte H e (a0.f.2.2.2.1))(l:AI .Bc H g (a0.f.2.2.2.2.2.2)){r:(Int×Int)}(h:IY a0=some r):
  Ok Tryz.prog 12 [.agg #[No a0.f.1,d,AaJ a0.f.2.2.1,e,No a0.f.2.2.2.2.1,No a0.f.2.2.2.2.2.1,g]] w (fun v w'=>Ext w w'∧v=.agg #[No r.1,No r.2]):=by
 refine A4 (n:=21) [(0,.agg #[No a0.f.1,d,AaJ a0.f.2.2.1,e,No a0.f.2.2.2.2.1,No a0.f.2.2.2.2.2.1,g])] func12 rfl rfl rfl rfl rfl ?_;have hL:=AO.start w;refine Ak<|CK (t:=26) rfl rfl rfl hL fun w1 b1 aa al _=>AG AR rfl rfl aa fun w2 b2 m am _=>Ac<|Ak<|Ae (AE 1 rfl AbP rfl Bh m rfl) rfl ?_;refine Ax h fun x3 ab h=>?_;refine AF rfl rfl m (Pn (a0:=a0) _ _ (As hH m) (j.mono (Ah hH)) (k.mono (Ah hH)) (l.mono (Ah hH)) ab) fun w4 au ac an=>Aq 3 rfl<|AG AR rfl rfl ac fun w5 b5 ad ao _=>Aq 1 rfl<|Aj 0 rfl rfl rfl AR ad rfl rfl (AH rfl (AH rfl Cj)) fun w6 b ap=>Ac<|A7<|Ak<|Ae (Af rfl Abs rfl Cc (by decide)) rfl<|Ae (Ag 0 rfl AaT rfl b rfl rfl) rfl<|Aq 2 rfl<|AQ (s:=13) rfl (fun a=>?_) (fun a=>?_)
 ·have h:=BO (of_decide_eq_true a) h;refine Aa rfl rfl a<|Ae (AE 2 rfl AbP rfl Bh b rfl) rfl<|Aa rfl rfl a ?_;refine Ax h fun x9 ae h=>?_;refine AF rfl rfl b (LD (a0:=a0) _ _ (As hH b) (j.mono (Ah hH)) (k.mono (Ah hH)) (l.mono (Ah hH)) ae) fun av aq c af=>Aa rfl rfl a<|Ae (De rfl Abb) rfl<|Aa rfl rfl a<|Ae (Ad rfl) rfl<|Ae (A1 rfl a rfl) rfl<|Ac<|AM rfl h (fun x h=>?_) (fun x h=>?_)
  ·refine Ar ?_;refine Ax h fun aw y h=>?_;refine AF rfl rfl c (GY _ _ (As hH c) y) fun ax ar z ag=>Aj 0 rfl rfl rfl AR z rfl rfl (AH rfl (AH rfl Cj)) fun ay o ah=>AL<|Ao<|Ak<|Ae (AE 0 rfl Abs rfl AR o rfl) rfl<|Aj 1 rfl rfl rfl AR o rfl rfl (AH rfl (AH rfl Cj)) fun az p ai=>Ac<|Ay ?_
   cases h
   refine BB rfl (.cell rfl Abs rfl AR (AT (i:=1) p rfl)) ?_;exact⟨p.ext,rfl⟩
  refine Au<|Ao<|Ak<|Ae (AE 0 rfl Abs rfl AR c rfl) rfl<|Aj 1 rfl rfl rfl AR c rfl rfl (AH rfl (AH rfl Cj)) fun a1 q aj=>Ac<|Ay ?_
  cases h
  refine BB rfl (.cell rfl Abs rfl AR (AT (i:=1) q rfl)) ?_;exact⟨q.ext,rfl⟩
 have h:=BP (of_decide_eq_false a) h
 iterate 4 refine Ai rfl rfl a rfl ?_
 refine Ae (A3 rfl a rfl) rfl<|Ac<|Cw rfl<|Au<|Ao<|Ak<|Ae (AE 0 rfl Abs rfl AR b rfl) rfl<|Aj 1 rfl rfl rfl AR b rfl rfl (AH rfl (AH rfl Cj)) fun a2 u ak=>Ac<|Ay ?_
 cases h
 refine BB rfl (.cell rfl Abs rfl AR (AT (i:=1) u rfl)) ?_;exact⟨u.ext,rfl⟩
end Go.Proofs.YtekmbcbgknmhiaaGreatDoor
end
noncomputable section
namespace Go.L
open Go
def Smq(B:Nat):Nat→Qv→Prop
 | 0,_=>True
 | d+1,q=>q.f.2.1.length≤B∧q.f.2.2.1.length≤B∧q.f.2.2.2.1.length≤B∧q.f.2.2.2.2.2.2.length≤B∧(∀ x∈q.f.2.1,x.length≤B)∧BL q.f.2.2.2.2.1∧BL q.f.2.2.2.2.2.1∧∀ p∈q.f.2.2.2.2.2.2,Smq B d p
end Go.L
namespace Go.Proofs.YtekmbcbgknmhiaaGreatDoor
open Go Go.L
def Vc:List (List UInt8)→Int
 | []=>0
 | w::l=>if(wf w).1=0 then Vc l else(wf w).1
theorem Acy{w:List UInt8}(h:(wf w).1=0):wf w=(0,0):=by
 unfold wf at h ⊢
 split at h
 ·cases h
 ·rename_i a;rw [if_neg a]
  split at h
  ·rename_i b;rw [if_pos b]
  ·cases h
theorem Acz{w:List UInt8}(h:(pf w).1=0):pf w=(0,0):=by
 unfold pf at h ⊢
 split at h
 ·cases h
 ·rename_i a;rw [if_neg a]
  split at h
  ·cases h
  ·rename_i b;rw [if_neg b]
theorem Qf(k:Int)(ws:List (List UInt8))(p d:List UInt8)(l h:Int)(ss:List Qv):(Qv.mk k ws p d l h ss).f=(k,ws,p,d,l,h,ss):=rfl
theorem SR{ws:List (List UInt8)}(hl:ws.length≤1000000000){b:Int→Option (Int ⊕ Int)}{m:Option Int}
  (a:∀ i:Nat,i<ws.length→b (i:Int)=if(wf (ws.getD i default)).1=0 then some (.inl ((i:Int)+1)) else some (.inr (wf (ws.getD i default)).1)) (h2:b (ws.length:Int)=m.map Sum.inr):Go.L.run b 0=if Vc ws=0 then m else some (Vc ws):=by
 have key:∀ (d i:Nat),i+d=ws.length→Go.L.run b (i:Int)=if Vc (ws.drop i)=0 then m else some (Vc (ws.drop i)):=by
  intro d
  induction d with
  | zero=>
   intro i hi;rw [List.drop_eq_nil_of_le (by omega),if_pos (by rfl),show i=ws.length by omega];exact Bm h2
  | succ d ih=>
   intro i hi;have hb:=a i (by omega);rw [List.drop_eq_getElem_cons (by omega),Vc];have hg:ws.getD i default=ws[i]:=by rw [List.getD_eq_getElem?_getD,List.getElem?_eq_getElem (by omega)];rfl
   rw [hg] at hb
   by_cases hw:(wf ws[i]).1=0
   ·rw [if_pos hw] at hb ⊢;rw [BA hb];exact ih (i+1) (by omega)
   ·rw [if_neg hw] at hb ⊢;rw [if_neg hw];exact Bm (m:=some _) hb
 exact key ws.length 0 (by omega)
def Lw(q:Qv):Bool:=q.f.2.2.2.2.2.2.any fun s=>decide (s.f.1=q.f.1)
theorem YQ{l:List Qv}{k:Int}(hl:l.length≤1000000000){σ ρ:Type}{b:σ→Option (σ ⊕ ρ)}{st:Nat→σ}{m y:Option ρ}
  (a:∀ i:Nat,i<l.length→b (st i)=if(l.getD i default).f.1=k then y.map Sum.inr else some (.inl (st (i+1)))) (h2:b (st l.length)=m.map Sum.inr):Go.L.run b (st 0)=if(l.any fun s=>decide (s.f.1=k)) then y else m:=by
 have key:∀ (d i:Nat),i+d=l.length→Go.L.run b (st i)=if((l.drop i).any fun s=>decide (s.f.1=k)) then y else m:=by
  intro d
  induction d with
  | zero=>
   intro i hi;rw [List.drop_eq_nil_of_le (by omega),if_neg (by simp),show i=l.length by omega];exact Bm h2
  | succ d ih=>
   intro i hi;have hb:=a i (by omega);have hg:l.getD i default=l[i]:=by rw [List.getD_eq_getElem?_getD,List.getElem?_eq_getElem (by omega)];rfl
   rw [hg] at hb;rw [List.drop_eq_getElem_cons (by omega),List.any_cons]
   by_cases hw:l[i].f.1=k
   ·rw [if_pos hw] at hb;rw [decide_eq_true hw,Bool.true_or,if_pos rfl];exact Bm hb
   ·rw [if_neg hw] at hb;rw [BA hb,decide_eq_false hw,Bool.false_or];exact ih (i+1) (by omega)
 exact key l.length 0 (by omega)
end Go.Proofs.YtekmbcbgknmhiaaGreatDoor
namespace Go.Proofs.YtekmbcbgknmhiaaGreatDoor
open Go Go.L
theorem Aa0{q:Qv}(hl:q.f.2.2.2.2.2.2.length≤1000000000):∃ u,AS q.f.2.2.2.2.2.2 q=some (Lw q,u):=by
 unfold AS BN Ci;obtain⟨k,ws,pat,data,low,high,subs⟩:=q;simp only [Qf] at hl ⊢
 have key:∃ r,Go.L.run (Bf subs) (k,ws,pat,data,low,high,subs,0)=some r∧decide (0≤r.1)=Lw (.mk k ws pat data low high subs):=by
  have:∀ (d i:Nat),i+d=subs.length→∃ r,Go.L.run (Bf subs) (k,ws,pat,data,low,high,subs,(i:Int))=some r∧decide (0≤r.1)=(subs.drop i).any fun s=>decide (s.f.1=k):=by
   intro d
   induction d with
   | zero=>
    intro i hi;refine⟨(-1,.mk k ws pat data low high subs),Bm (m:=some _) ?_,?_⟩
    ·unfold Bf;simp only;rw [if_neg (by omega)]
     rfl
    ·rw [List.drop_eq_nil_of_le (by omega)]
     rfl
   | succ d ih=>
    intro i hi;have hg:subs.getD i default=subs[i]:=by rw [List.getD_eq_getElem?_getD,List.getElem?_eq_getElem (by omega)];rfl
    rw [List.drop_eq_getElem_cons (by omega),List.any_cons]
    have hb:Bf subs (k,ws,pat,data,low,high,subs,(i:Int))=if subs[i].f.1=k then some (.inr ((i:Int),.mk k ws pat data low high subs)) else some (.inl (k,ws,pat,data,low,high,subs,((i+1:Nat):Int))):=by
     unfold Bf;simp only;rw [if_pos (by omega),An ⟨by omega,by omega⟩,Int.toNat_natCast,hg];unfold Hu;simp only [Option.bind_some,Qf]
     by_cases hk:subs[i].f.1=k
     ·simp [hk]
     ·simp only [hk,decide_false,Bool.false_eq_true,if_false];rw [An (by constructor <;> omega)]
      rfl
    by_cases hk:subs[i].f.1=k
    ·rw [if_pos hk] at hb;refine⟨_,Bm (m:=some _) hb,?_⟩;rw [decide_eq_true hk,Bool.true_or];exact decide_eq_true (by omega)
    ·rw [if_neg hk] at hb;rw [BA hb,decide_eq_false hk,Bool.false_or];exact ih (i+1) (by omega)
  exact this subs.length 0 (by omega)
 obtain⟨r,a,h2⟩:=key;rw [a,Option.bind_some,h2];exact⟨_,rfl⟩
def UQ(q:Qv):Bool:=
 let k:=q.f.1
 let n:=q.f.2.1.length
 let m:=q.f.2.2.2.2.2.2.length
 (if k=1 then decide (n=1) else if k=2 then decide (2≤n∧n≤16) else if k=3 then decide (n=2) else decide (n=0)) &&
 (decide (k=5∨k=6∨k=7)||decide (q.f.2.2.1=[]))&&(decide (k=4∨k=7)||decide (q.f.2.2.2.1=[])) &&
 (decide (k=3∨k=6)||decide (q.f.2.2.2.2.1=0))&&(decide (k=6)||decide (q.f.2.2.2.2.2.1=0)) &&
 (if k=8∨k=9 then decide (2≤m)&&!Lw q else if k=10 then decide (m=1) else decide (m=0))
theorem Xv{q:Qv}(hl:q.f.2.2.2.2.2.2.length≤1000000000)(hk:1≤q.f.1∧q.f.1≤10):H6 q=some (UQ q):=by
 obtain⟨u,hc⟩:=Aa0 hl;unfold H6 BW;rw [hc];clear hc;unfold UQ;clear hl;generalize Lw q=B;generalize q.f.1=k at hk ⊢;generalize q.f.2.1.length=n;have hd:∀ l:List UInt8,l=[]↔l.length=0:=fun l=>List.length_eq_zero_iff.symm;have hd':([]=q.f.2.2.1)↔q.f.2.2.1.length=0:=by rw [eq_comm,hd]
 generalize q.f.2.2.2.2.1=low;generalize q.f.2.2.2.1=data;generalize q.f.2.2.2.2.2.1=high;generalize q.f.2.2.2.2.2.2.length=m;obtain rfl | rfl | rfl | rfl | rfl | rfl | rfl | rfl | rfl | rfl:k=1∨k=2∨k=3∨k=4∨k=5∨k=6∨k=7∨k=8∨k=9∨k=10:=by omega
 all_goals simp only [Int.reduceEq,if_true,if_false,hd',decide_true,decide_false,Bool.or_false,Bool.or_true,Bool.false_or,Bool.true_or,Bool.not_true,Bool.not_false,Bool.false_eq_true,Option.bind_some,List.length_nil,cond_true,cond_false,or_false,or_true,false_or,true_or,hd,List.nil_eq]
 all_goals (repeat' split)
 all_goals (refine congrArg some (Bool.eq_iff_iff.2 ?_))
 all_goals clear hd hd'
 all_goals (simp only [Bool.and_eq_true,decide_eq_true_eq,Bool.or_eq_true,Bool.false_eq_true,Bool.not_eq_true',Bool.not_eq_true,true_iff,false_iff,iff_true,iff_false,Bool.true_eq_false,Int.natCast_eq_zero,and_true,true_and] at *)
 all_goals first | omega | exact⟨fun h=>⟨by omega,by omega,h⟩,fun h=>h.2.2⟩
theorem Ob{q:Qv}(h:UQ q=true):q.f.2.1.length≤16:=by
 unfold UQ at h;simp only [Bool.and_eq_true] at h;have:=h.1.1.1.1.1
 split at this
 ·simp at this;omega
 ·split at this
  ·simp at this;omega
  ·split at this
   ·simp at this;omega
   ·simp at this;simp [this]
def nt(q:Qv):Int:=if(q.f.1=3∧(q.f.2.2.2.2.1<1∨2048<q.f.2.2.2.2.1))∨(q.f.1=6∧q.f.2.2.2.2.2.1<q.f.2.2.2.2.1) then 4 else if q.f.1=4∧q.f.2.2.2.1.length=0 then 10 else if 64<q.f.2.2.2.1.length then 3 else 0
def nf(q:Qv):Int:=if 1≤q.f.1∧q.f.1≤10 then(if UQ q=true then(if Vc q.f.2.1=0 then(if(pf q.f.2.2.1).1=0 then nt q else(pf q.f.2.2.1).1) else Vc q.f.2.1) else 6) else 5
theorem TO{q:Qv}(hl:q.f.2.2.2.2.2.2.length≤1000000000):Fy q=some (nf q):=by
 unfold Fy nf
 by_cases hk:1≤q.f.1∧q.f.1≤10
 ·rw [if_neg (by simp;omega),if_pos hk,Xv hl hk,Option.bind_some]
  cases hF:UQ q with
  | false=>rfl
  | true=>
   rw [if_neg (by decide),if_pos rfl];have hw:=Ob hF;unfold Gz;rw [SR (ws:=q.f.2.1) (b:=CP q) (m:=DS q) (by omega) ?A ?B]
   ·by_cases c:Vc q.f.2.1=0
    ·rw [if_pos c,if_pos c];unfold DS;rw [Xs,Option.bind_some]
     by_cases a:(pf q.f.2.2.1).1=0
     ·rw [if_pos (by rw [Acz a];exact⟨rfl,rfl⟩),if_pos a];unfold DR nt;clear hl hw hF c a;generalize q.f.1=k at hk ⊢;generalize q.f.2.2.2.1.length=n;generalize q.f.2.2.2.2.1=low;generalize q.f.2.2.2.2.2.1=high;simp only [Bool.and_eq_true,decide_eq_true_eq,Bool.or_eq_true]
      repeat' split
      all_goals first | rfl | (exfalso;omega)
     ·rw [if_neg (fun h=>a h.1),if_neg a]
    ·rw [if_neg c,if_neg c]
   ·intro i hi;unfold CP;rw [if_pos (by omega),An ⟨by omega,by omega⟩,Int.toNat_natCast,YI,Option.bind_some]
    by_cases a:(wf (q.f.2.1.getD i default)).1=0
    ·rw [if_pos (by rw [Acy a];exact⟨rfl,rfl⟩),if_pos a,An (by constructor <;> omega)]
    ·rw [if_neg (fun h=>a h.1),if_neg a]
     rfl
   ·unfold CP;rw [if_neg (by omega)]
 ·rw [if_pos (by simp;omega),if_neg hk]
theorem TP{q:Qv}(hl:q.f.2.2.2.2.2.2.length≤1000000000):JB q=some (nf q):=by
 have e:q.f.2.1.length≤16→Dh q=some (if Vc q.f.2.1=0 then(if(pf q.f.2.2.1).1=0 then nt q else(pf q.f.2.2.1).1) else Vc q.f.2.1):=fun hw=>by
  unfold Dh LA;rw [SR (ws:=q.f.2.1) (b:=FE q) (m:=HK q) (by omega) ?A ?B]
  ·by_cases d:Vc q.f.2.1=0
   ·rw [if_pos d,if_pos d];unfold HK;rw [Xq,Option.bind_some]
    by_cases c:(pf q.f.2.2.1).1=0
    ·rw [if_pos c,if_pos c];unfold nt;clear hl hw d c;generalize q.f.1=k;generalize q.f.2.2.2.1.length=n;generalize q.f.2.2.2.2.1=low;generalize q.f.2.2.2.2.2.1=high;simp only [Bool.and_eq_true,decide_eq_true_eq,Bool.or_eq_true,Bool.not_eq_true',decide_eq_false_iff_not]
     repeat' split
     all_goals first | rfl | (exfalso;omega)
    ·rw [if_neg c,if_neg c]
   ·rw [if_neg d,if_neg d]
  ·intro i hi;unfold FE;rw [if_pos (by omega),An ⟨by omega,by omega⟩,Int.toNat_natCast,TK,Option.bind_some]
   by_cases c:(wf (q.f.2.1.getD i default)).1=0
   ·rw [if_pos c,if_pos c,An (by constructor <;> omega)]
   ·rw [if_neg c,if_neg c]
    rfl
  ·unfold FE;rw [if_neg (by omega)]
 have g:HL q=if Lw q=true∧q.f.1<10 then some 6 else Dh q:=by
  unfold HL LB
  by_cases j:q.f.1<10
  ·have:=YQ (k:=q.f.1) hl (b:=Ec q) (st:=fun i=>(i:Int)) (m:=Dh q) (y:=some 6) (fun i hi=>?_) ?_
   ·unfold Lw;simp only [j,and_true];exact this
   ·unfold Ec;rw [if_pos (by simp;omega),An ⟨by omega,by omega⟩,Int.toNat_natCast,An (by constructor <;> omega)]
    rfl
   ·unfold Ec;rw [if_neg (by simp)]
  ·rw [if_neg (fun h=>j h.2)];refine Bm ?_;unfold Ec;rw [if_neg (by simp;omega)]
 unfold JB nf
 by_cases hk:1≤q.f.1∧q.f.1≤10
 ·rw [if_pos hk,if_pos hk,An ⟨by omega,by omega⟩,An ⟨by omega,by omega⟩,g];have hX:UQ q=true→Dh q=_:=fun h=>e (Ob h);clear g e hl
  revert hX
  generalize (if Vc q.f.2.1=0 then(if(pf q.f.2.2.1).1=0 then nt q else(pf q.f.2.2.1).1) else Vc q.f.2.1)=r;generalize Dh q=X;have hd:∀ l:List UInt8,l=[]↔l.length=0:=fun l=>List.length_eq_zero_iff.symm;unfold UQ
  have hB:Lw q=true→0<q.f.2.2.2.2.2.2.length:=fun h=>by
   unfold Lw at h
   cases hs:q.f.2.2.2.2.2.2 with
   | nil=>rw [hs] at h;cases h
   | cons a l=>simp
  revert hB
  generalize Lw q=B;generalize q.f.1=k at hk ⊢;generalize q.f.2.1.length=n;simp only [hd];generalize q.f.2.2.1.length=pn;generalize q.f.2.2.2.2.1=low;generalize q.f.2.2.2.1.length=dn;generalize q.f.2.2.2.2.2.1=high;generalize q.f.2.2.2.2.2.2.length=m;intro hB hX;obtain rfl | rfl | rfl | rfl | rfl | rfl | rfl | rfl | rfl | rfl:k=1∨k=2∨k=3∨k=4∨k=5∨k=6∨k=7∨k=8∨k=9∨k=10:=by omega
  all_goals (cases B <;> simp at hX hB ⊢ <;> (repeat' split) <;> first | rfl | (exfalso;omega) | (intros;exfalso;omega) | (rw [hX] <;> omega))
 ·rw [if_neg hk,if_neg hk]
end Go.Proofs.YtekmbcbgknmhiaaGreatDoor
end
noncomputable section
namespace Go.Proofs.YtekmbcbgknmhiaaGreatDoor
open Go Go.L
def Sq(q:Qv):Prop:=∀ d,Smq 1048576 d q
theorem Sq.open{q:Qv}(h:Sq q):q.f.2.1.length≤1048576∧q.f.2.2.1.length≤1048576∧q.f.2.2.2.1.length≤1048576∧q.f.2.2.2.2.2.2.length≤1048576∧(∀ x∈q.f.2.1,x.length≤1048576)∧BL q.f.2.2.2.2.1∧BL q.f.2.2.2.2.2.1:=
 ⟨(h 1).1,(h 1).2.1,(h 1).2.2.1,(h 1).2.2.2.1,(h 1).2.2.2.2.1,(h 1).2.2.2.2.2.1,(h 1).2.2.2.2.2.2.1⟩
theorem Sq.sub{q:Qv}(h:Sq q){p:Qv}(hp:p∈q.f.2.2.2.2.2.2):Sq p:=fun d=>(h (d+1)).2.2.2.2.2.2.2 p hp
theorem Sq.len{q:Qv}(h:Sq q):q.f.2.2.2.2.2.2.length≤1000000000:=by have:=h.open.2.2.2.1;omega
def X5(f:Qv→Int→Int→Int×(Int×Int))(lev:Int):List Qv→Int→Int×(Int×Int)
 | [],num=>(num,(0,0))
 | s::l,num=>if(f s num lev).2.1=0 then X5 f lev l (f s num lev).1 else(0,(f s num lev).2)
def ck:Nat→Qv→Int→Int→Int×(Int×Int)
 | 0,_,_,_=>(0,(0,0))
 | n+1,q,num,lev=>if 40≤num∨8<lev then(0,(2,num)) else if nf q=0 then X5 (ck n) (lev+1) q.f.2.2.2.2.2.2 (num+1) else(0,(nf q,num))
def CkP(r:Int×(Int×Int)):Prop:=0≤r.1∧(r.2.1=0→r.2=(0,0))
theorem AaZ{f:Qv→Int→Int→Int×(Int×Int)}{lev:Int}:∀ (l:List Qv) (num:Int),0≤num→(∀ s∈l,∀ num,0≤num→CkP (f s num lev))→CkP (X5 f lev l num)
 | [],num,h,_=>⟨h,fun _=>rfl⟩
 | s::l,num,h,hf=>by
  have a:=hf s (List.mem_cons_self ..) num h;unfold X5
  split
  ·exact AaZ l _ a.1 (fun s hs=>hf s (List.mem_cons_of_mem _ hs))
  ·exact⟨Int.le_refl _,fun e=>absurd e (by assumption)⟩
theorem Wu{l:List Qv}(hl:l.length≤1000000000){f:Qv→Int→Int→Int×(Int×Int)}{lev:Int}{b:Int×Int→Option ((Int×Int) ⊕ (Int×(Int×Int)))}
  (hp:∀ s∈l,∀ num,0≤num→CkP (f s num lev))
  (a:∀ (i:Nat) (num:Int),0≤num→i<l.length→b (num,(i:Int))=if(f (l.getD i default) num lev).2.1=0 then some (.inl ((f (l.getD i default) num lev).1,(i:Int)+1)) else some (.inr (0,(f (l.getD i default) num lev).2)))
  (h2:∀ num,b (num,(l.length:Int))=some (.inr (num,(0,0)))) (num:Int) (hn:0≤num):Go.L.run b (num,0)=some (X5 f lev l num):=by
 have key:∀ (d i:Nat) (num:Int),0≤num→i+d=l.length→Go.L.run b (num,(i:Int))=some (X5 f lev (l.drop i) num):=by
  intro d
  induction d with
  | zero=>
   intro i num hn hi;rw [List.drop_eq_nil_of_le (by omega),show i=l.length by omega];exact Bm (m:=some _) (h2 num)
  | succ d ih=>
   intro i num hn hi;have hb:=a i num hn (by omega);have hg:l.getD i default=l[i]:=by rw [List.getD_eq_getElem?_getD,List.getElem?_eq_getElem (by omega)];rfl
   rw [hg] at hb;rw [List.drop_eq_getElem_cons (by omega),X5]
   by_cases hw:(f l[i] num lev).2.1=0
   ·rw [if_pos hw] at hb ⊢;rw [BA hb];exact ih (i+1) _ (hp _ (List.getElem_mem _) num hn).1 (by omega)
   ·rw [if_neg hw] at hb ⊢;exact Bm (m:=some _) hb
 exact key l.length 0 num hn (by omega)
theorem PR{l:List Qv}{i:Nat}(h:i<l.length):l.getD i default∈l:=by
 rw [List.getD_eq_getElem?_getD,List.getElem?_eq_getElem h];exact List.getElem_mem _
theorem YR:∀ (n:Nat) (q:Qv) (num lev:Int),Sq q→0≤num→1≤lev→lev≤9→10≤lev+n→
  DN n q num lev=some (ck n q num lev)∧Ed n q num lev=some (ck n q num lev)∧CkP (ck n q num lev)
 | 0,q,num,lev,_,_,_,a,h2=>by omega
 | n+1,q,num,lev,hq,hn,g,j,k=>by
  show DM (DN n) q num lev=_∧G2 (Ed n) q num lev=_∧_
  unfold DM G2 ck
  by_cases b:40≤num∨8<lev
  ·rw [if_pos b,if_pos b,if_pos b];exact⟨rfl,rfl,by show(0:Int)≤0;omega,fun e=>by cases e⟩
  ·rw [if_neg b,if_neg b,if_neg b,TO hq.len,TP hq.len,Option.bind_some,Option.bind_some]
   by_cases a:nf q=0
   ·rw [if_pos a,if_pos a,if_pos a,An (by constructor <;> omega),An (by constructor <;> omega)]
    have ih:∀ s∈q.f.2.2.2.2.2.2,∀ num,0≤num→DN n s num (lev+1)=some (ck n s num (lev+1))∧Ed n s num (lev+1)=some (ck n s num (lev+1))∧CkP (ck n s num (lev+1)):=
     fun s hs num hn=>YR n s num (lev+1) (hq.sub hs) hn (by omega) (by omega) (by omega)
    have hp:∀ s∈q.f.2.2.2.2.2.2,∀ num,0≤num→CkP (ck n s num (lev+1)):=fun s hs num hn=>(ih s hs num hn).2.2;refine⟨?_,?_,AaZ _ _ (by omega) hp⟩
    ·refine Wu hq.len hp (fun i num hn hi=>?_) (fun num=>?_) _ (by omega)
     ·unfold Dl;simp only;obtain⟨c,_,d⟩:=ih _ (PR hi) num hn;rw [if_pos (by omega),An ⟨by omega,by omega⟩,Int.toNat_natCast,An (by constructor <;> omega),c,Option.bind_some]
      by_cases h2:(ck n (q.f.2.2.2.2.2.2.getD i default) num (lev+1)).2.1=0
      ·rw [if_pos (by rw [d.2 h2];exact⟨rfl,rfl⟩),if_pos h2,An (by have:=hq.len;constructor <;> omega)]
      ·rw [if_neg (fun h=>h2 h.1),if_neg h2]
       rfl
     ·unfold Dl;simp only;rw [if_neg (by omega)]
      rfl
    ·refine Wu hq.len hp (fun i num hn hi=>?_) (fun num=>?_) _ (by omega)
     ·unfold EF;simp only;obtain⟨_,c,d⟩:=ih _ (PR hi) num hn;rw [if_pos (by omega),An ⟨by omega,by omega⟩,Int.toNat_natCast,An (by constructor <;> omega),c,Option.bind_some]
      by_cases h2:(ck n (q.f.2.2.2.2.2.2.getD i default) num (lev+1)).2.1=0
      ·rw [if_pos h2,if_pos h2,An (by have:=hq.len;constructor <;> omega)]
      ·rw [if_neg h2,if_neg h2]
       rfl
     ·unfold EF;simp only;rw [if_neg (by omega)]
      rfl
   ·rw [if_neg a,if_neg a,if_neg a];exact⟨rfl,rfl,by show(0:Int)≤0;omega,fun e=>absurd e a⟩
def Vq:Nat→Qv→Prop
 | 0,_=>False
 | n+1,q=>nf q=0∧∀ s∈q.f.2.2.2.2.2.2,Vq n s
def nq:Nat→Qv→Nat
 | 0,_=>0
 | n+1,q=>1+(q.f.2.2.2.2.2.2.map (nq n)).sum
theorem YS{f:Qv→Int→Int→Int×(Int×Int)}{lev:Int}{g:Qv→Nat}{V:Qv→Prop}:∀ (l:List Qv) (num:Int),(∀ s∈l,∀ num,(f s num lev).2.1=0→(f s num lev).1=num+g s∧(f s num lev).1≤40∧V s)→num≤40→(X5 f lev l num).2.1=0→
  (X5 f lev l num).1=num+(l.map g).sum∧(X5 f lev l num).1≤40∧∀ s∈l,V s
 | [],num,_,h,_=>⟨by simp [X5],h,by simp⟩
 | s::l,num,hf,h,he=>by
  unfold X5 at he ⊢;have hs:=hf s (List.mem_cons_self ..) num
  split at he
  ·rename_i a;rw [if_pos a];obtain⟨b,c,d⟩:=hs a;obtain⟨e,i,j⟩:=YS l _ (fun s hs=>hf s (List.mem_cons_of_mem _ hs)) c he;refine⟨by rw [e,b];simp;omega,i,fun x hx=>?_⟩
   rcases List.mem_cons.1 hx with rfl | hx
   ·exact d
   ·exact j x hx
  ·rename_i a;exact absurd he a
theorem Aba:∀ (n:Nat) (q:Qv) (num lev:Int),10≤lev+n→lev≤9→∀ m:Nat,lev+m=9→(ck n q num lev).2.1=0→(ck n q num lev).1=num+nq m q∧(ck n q num lev).1≤40∧Vq m q
 | 0,q,num,lev,h,h',_,_=>by omega
 | n+1,q,num,lev,h,h',m,hm=>by
  unfold ck
  by_cases b:40≤num∨8<lev
  ·rw [if_pos b];intro e
   cases e
  ·rw [if_neg b]
   by_cases a:nf q=0
   ·rw [if_pos a];intro he;obtain⟨m,rfl⟩:∃ k,m=k+1:=⟨m - 1,by omega⟩;obtain⟨c,d,f⟩:=YS (g:=nq m) (V:=Vq m) _ (num+1) (fun s hs num he=>Aba n s num (lev+1) (by omega) (by omega) m (by omega) he) (by omega) he;exact⟨by rw [c];unfold nq;omega,d,a,f⟩
   ·rw [if_neg a];intro e;exact absurd e a
end Go.Proofs.YtekmbcbgknmhiaaGreatDoor
end
noncomputable section
namespace Go.L
open Go
def hxd(n:Nat):UInt8:=([48,49,50,51,52,53,54,55,56,57,97,98,99,100,101,102]:List UInt8).getD n 0
def Vd(c:UInt8):List UInt8:=if(32≤c.toNat∧c.toNat≤126)∧c.toNat≠39∧c.toNat≠92 then[c] else[92,hxd (c.toNat / 16),hxd (c.toNat % 16)]
def quo(l:List UInt8):List UInt8:=39::l.flatMap Vd++[39]
theorem TQ(c:UInt8):1≤(Vd c).length∧(Vd c).length≤3:=by
 unfold Vd
 split <;> simp
theorem RQ:∀ l:List UInt8,(l.flatMap Vd).length≤3 * l.length
 | []=>by simp
 | c::l=>by
  have a:=RQ l;have h2:=(TQ c).2;rw [List.flatMap_cons,List.length_append,List.length_cons];omega
end Go.L
namespace Go.Proofs.YtekmbcbgknmhiaaGreatDoor
open Go Go.L
theorem Qp{n:Nat}(h:n<16):H3 (n:Int)=some (hxd n):=by
 have:∀ k:Fin 16,H3 ((k.val:Nat):Int)=some (hxd k.val):=by
  intro k;unfold H3
  split
  ·rw [An (by have:=k.isLt;constructor <;> omega)]
   revert k
   decide
  ·rw [An (by have:=k.isLt;constructor <;> omega),An (by have:=k.isLt;constructor <;> omega)]
   revert k
   decide
 exact this ⟨n,h⟩
theorem SS{l:List UInt8}(hl:l.length≤1000000000):Kr l=some (quo l):=by
 unfold Kr NF
 have key:∀ (d i:Nat) (o:List UInt8),o.length≤3 * i+1→i+d=l.length→Go.L.run (FW l) (o,(i:Int))=some (o++(l.drop i).flatMap Vd++[39]):=by
  intro d
  induction d with
  | zero=>
   intro i o ho hi;rw [List.drop_eq_nil_of_le (by omega)];refine Bm (m:=some _) ?_;unfold FW Ll;simp only;rw [if_neg (by omega),An (by constructor <;> simp <;> omega)];simp
  | succ d ih=>
   intro i o ho hi;have hg:l.getD i default=l[i]:=by rw [List.getD_eq_getElem?_getD,List.getElem?_eq_getElem (by omega)];rfl
   have hb:FW l (o,(i:Int))=some (.inl (o++Vd l[i],((i+1:Nat):Int))):=by
    have a:∀ b:Bool,(b=true↔((32≤l[i].toNat∧l[i].toNat≤126)∧l[i].toNat≠39∧l[i].toNat≠92))→GM l o (i:Int) b=some (.inl (o++Vd l[i],((i+1:Nat):Int))):=fun b hb=>by
     have hc:l[i].toNat<256:=UInt8.toNat_lt _;unfold GM Vd;rw [Int.toNat_natCast,hg]
     by_cases h:b=true
     ·rw [if_pos h,if_pos (hb.1 h),An ⟨by omega,by omega⟩,An (by constructor <;> simp <;> omega),An (by constructor <;> omega)]
      rfl
     ·rw [if_neg h,if_neg (fun e=>h (hb.2 e)),An ⟨by omega,by omega⟩,An ⟨by omega,by omega,by omega⟩];rw [show((l[i].toNat:Nat):Int) / 16=((l[i].toNat / 16:Nat):Int) by omega,Qp (by omega),Option.bind_some,An ⟨by omega,by omega⟩,An ⟨by omega,by omega,by omega⟩];rw [show((l[i].toNat:Nat):Int) % 16=((l[i].toNat % 16:Nat):Int) by omega,Qp (by omega),Option.bind_some,An (by constructor <;> simp <;> omega),An (by constructor <;> omega)]
      rfl
    unfold FW;simp only;rw [if_pos (by omega),An ⟨by omega,by omega⟩,An ⟨by omega,by omega⟩,An ⟨by omega,by omega⟩,Int.toNat_natCast,hg]
    by_cases c:(32:Int)≤(l[i].toNat:Int)∧(l[i].toNat:Int)≤126
    ·rw [if_pos c]
     by_cases h2:(l[i].toNat:Int)=39
     ·rw [if_pos h2,a false (by simp;omega)]
     ·rw [if_neg h2,a _ (by simp;omega)]
    ·rw [if_neg c,a false (by simp;omega)]
   have:=(TQ l[i]).2;rw [BA hb,ih (i+1) _ (by rw [List.length_append];omega) (by omega),List.drop_eq_getElem_cons (by omega:i<l.length),List.flatMap_cons];simp
 exact key l.length 0 [39] (by simp) (by omega)
theorem SU{l:List UInt8}(hl:l.length≤1000000000):Gr l=some (quo l):=by
 unfold Gr Iy
 have key:∀ (d i:Nat) (o:List UInt8),o.length≤3 * i+1→i+d=l.length→Go.L.run (Dg l) (o,(i:Int))=some (o++(l.drop i).flatMap Vd++[39]):=by
  intro d
  induction d with
  | zero=>
   intro i o ho hi;rw [List.drop_eq_nil_of_le (by omega)];refine Bm (m:=some _) ?_;unfold Dg GI;simp only;rw [if_neg (by omega),An (by constructor <;> simp <;> omega)];simp
  | succ d ih=>
   intro i o ho hi;have hg:l.getD i default=l[i]:=by rw [List.getD_eq_getElem?_getD,List.getElem?_eq_getElem (by omega)];rfl
   have hb:Dg l (o,(i:Int))=some (.inl (o++Vd l[i],((i+1:Nat):Int))):=by
    have hc:l[i].toNat<256:=UInt8.toNat_lt _
    have b:(l[i] >>> (4:UInt8)).toNat=l[i].toNat / 16:=by
     have:∀ n:Fin 256,(UInt8.ofNat n.val >>> (4:UInt8)).toNat=n.val / 16:=by decide +kernel
     have h:=this ⟨l[i].toNat,hc⟩
     rwa [UInt8.ofNat_toNat] at h
    have c:(l[i] &&& (15:UInt8)).toNat=l[i].toNat % 16:=by
     have:∀ n:Fin 256,(UInt8.ofNat n.val &&& (15:UInt8)).toNat=n.val % 16:=by decide +kernel
     have h:=this ⟨l[i].toNat,hc⟩
     rwa [UInt8.ofNat_toNat] at h
    unfold Dg Vd;simp only;rw [if_pos (by omega),An ⟨by omega,by omega⟩,Int.toNat_natCast,hg,b,c]
    by_cases a:(32≤l[i].toNat∧l[i].toNat≤126)∧l[i].toNat≠39∧l[i].toNat≠92
    ·rw [if_neg (by omega),if_pos a,An (by constructor <;> simp <;> omega),An (by constructor <;> omega)]
     rfl
    ·rw [if_pos (by omega),if_neg a,An ⟨by omega,by simp;omega⟩,An ⟨by omega,by simp;omega⟩,An (by constructor <;> simp <;> omega),An (by constructor <;> omega)]
     rfl
   have:=(TQ l[i]).2;rw [BA hb,ih (i+1) _ (by rw [List.length_append];omega) (by omega),List.drop_eq_getElem_cons (by omega:i<l.length),List.flatMap_cons];simp
 exact key l.length 0 [39] (by simp) (by omega)
end Go.Proofs.YtekmbcbgknmhiaaGreatDoor
namespace Go.Proofs.YtekmbcbgknmhiaaGreatDoor
open Go Go.L
theorem OJ{n:Int}(hn:BL n):I3 n=some (Lib.itoa n):=by
 unfold I3
 by_cases a:n=0
 ·subst a;rw [if_pos rfl];exact congrArg some (by rw [Lib.itoa,if_neg (by omega),Lib.decDigits,dif_pos (by decide)];rfl)
 rw [if_neg a];unfold MS
 have fin:∀ l:List UInt8,l.length≤30→Go.L.run (Ee n) (l,0)=some ((if n<0 then[45] else[])++l):=fun l hl=>by
  refine Bm (m:=some _) ?_;unfold Ee Ky;simp only;rw [if_pos trivial]
  by_cases hn:n<0
  ·rw [if_pos hn,if_pos hn,An (by constructor <;> simp <;> omega)]
  ·rw [if_neg hn,if_neg hn]
   rfl
 have key:∀ (k:Nat) (s:Int) (l:List UInt8),s.natAbs<10 ^ k→l.length+k≤30→BL s→(s=0→l≠[])→Go.L.run (Ee n) (l,s)=some ((if n<0 then[45] else[])++((if s=0 then[] else Lib.decDigits s.natAbs)++l)):=by
  intro k
  induction k with
  | zero=>
   intro s l hs hl hi _;obtain rfl:s=0:=by omega
   rw [fin l (by omega),if_pos rfl]
   rfl
  | succ k ih=>
   intro s l hs hl hi _
   by_cases hz:s=0
   ·subst hz;rw [fin l (by omega),if_pos rfl]
    rfl
   ·have hb:Ee n (l,s)=some (.inl ([UInt8.ofNat (48+s.natAbs % 10)]++l,Int.tdiv s 10)):=by
     have b:∀ d:Int,d=((s.natAbs % 10:Nat):Int)→Hx l s d=some (.inl ([UInt8.ofNat (48+s.natAbs % 10)]++l,Int.tdiv s 10)):=fun d hd=>by
      unfold Hx;rw [An (by constructor <;> omega),An (by constructor <;> simp <;> omega),An ⟨hi.1,hi.2,by decide⟩]
      have:u8 (48+d)=UInt8.ofNat (48+s.natAbs % 10):=by
       unfold u8
       congr 1
       omega
      rw [this]
     unfold Ee;simp only;rw [if_neg hz,An ⟨hi.1,hi.2,by decide⟩]
     have hm:Int.tmod s 10=if 0≤s then((s.natAbs % 10:Nat):Int) else -((s.natAbs % 10:Nat):Int):=by
      split
      ·rw [Int.tmod_eq_emod_of_nonneg (by assumption)];omega
      ·rw [show s = -(-s) by omega,Int.neg_tmod,Int.tmod_eq_emod_of_nonneg (by omega)];omega
     rw [hm]
     split
     ·split
      ·omega
      ·exact b _ rfl
     ·split
      ·rw [An (by constructor <;> omega)];exact b _ (by omega)
      ·exact b _ (by omega)
    have hd:(Int.tdiv s 10).natAbs=s.natAbs / 10:=by rw [Int.natAbs_tdiv];rfl
    have hp:10 ^ (k+1)=10 * 10 ^ k:=by rw [Nat.pow_succ,Nat.mul_comm]
    have e:=hi;rw [BA hb,ih _ _ (by rw [hd];omega) (by simp;omega) (by constructor <;> omega) (by simp),if_neg hz]
    congr 2
    have hdd:Lib.decDigits s.natAbs=if h:s.natAbs<10 then[UInt8.ofNat (48+s.natAbs)] else Lib.decDigits (s.natAbs / 10)++[UInt8.ofNat (48+s.natAbs % 10)]:=by rw [Lib.decDigits]
    rw [hdd]
    by_cases c:s.natAbs<10
    ·rw [dif_pos c,if_pos (by omega),Nat.mod_eq_of_lt c]
     rfl
    ·rw [dif_neg c,if_neg (by omega),hd];simp
 rw [key 19 n [] (by have:=hn.1;have:=hn.2;omega) (by simp) hn (fun h=>absurd h a),if_neg a,List.append_nil];unfold Lib.itoa
 split
 ·rfl
 ·rw [show n.natAbs=n.toNat by omega];rfl
theorem Po{n:Int}(hn:BL n):(Lib.itoa n).length≤30:=by
 have key:∀ (k u:Nat),u<10 ^ (k+1)→(Lib.decDigits u).length≤k+1:=by
  intro k
  induction k with
  | zero=>intro u h;rw [Lib.decDigits,dif_pos (by simpa using h)];simp
  | succ k ih=>
   intro u h;rw [Lib.decDigits]
   split
   ·simp
   ·have:10 ^ (k+1+1)=10 * 10 ^ (k+1):=by rw [Nat.pow_succ,Nat.mul_comm]
    have:=ih (u / 10) (by omega);simp;omega
 unfold Lib.itoa;have a:=hn.1;have h2:=hn.2
 split
 ·have:=key 18 n.natAbs (by omega);simp;omega
 ·have:=key 18 n.toNat (by omega);omega
end Go.Proofs.YtekmbcbgknmhiaaGreatDoor
end
noncomputable section
namespace Go.L
open Go
def par(f:Qv→List UInt8)(ks:List Int)(s:Qv):List UInt8:=if s.f.1∈ks then([40]++f s)++[41] else f s
def tb(f:Qv→List UInt8)(q:Qv):List UInt8:=
 if q.f.1=1 then q.f.2.1.getD 0 default else if q.f.1=2 then([34]++Lib.join q.f.2.1 [32])++[34]
 else if q.f.1=3 then(((q.f.2.1.getD 0 default++[126])++Lib.itoa q.f.2.2.2.2.1)++[126])++q.f.2.1.getD 1 default
 else if q.f.1=4 then quo q.f.2.2.2.1 else if q.f.1=5 then[47]++q.f.2.2.1
 else if q.f.1=6 then(((([47]++q.f.2.2.1)++[61])++Lib.itoa q.f.2.2.2.2.1)++[46,46])++Lib.itoa q.f.2.2.2.2.2.1
 else if q.f.1=7 then(([47]++q.f.2.2.1)++[61])++quo q.f.2.2.2.1
 else if q.f.1=8 then Lib.join (q.f.2.2.2.2.2.2.map (par f [9])) [38] else if q.f.1=9 then Lib.join (q.f.2.2.2.2.2.2.map (par f [])) [124]
 else[33]++Lib.join (q.f.2.2.2.2.2.2.map (par f [8,9])) []
def tx:Nat→Qv→List UInt8
 | 0,_=>[]
 | n+1,q=>tb (tx n) q
theorem Wv(sep:List UInt8)(x:List UInt8)(r:List (List UInt8)):Lib.joinTail sep (x::r)=sep++x++Lib.joinTail sep r:=by
 simp [Lib.joinTail]
theorem SV(x:List UInt8)(r:List (List UInt8)):Lib.lens (x::r)=x.length+Lib.lens r:=by simp [Lib.lens]
theorem join_le(l:List (List UInt8))(sep:List UInt8):(Lib.join l sep).length≤sep.length * l.length+Lib.lens l:=by
 cases l with
 | nil=>simp [Lib.join_nil]
 | cons x r=>
  rw [Lib.join_length];have:=Nat.mul_le_mul_left sep.length (Nat.le_succ r.length);simp only [List.length_cons,Nat.succ_eq_add_one] at this ⊢;omega
theorem Aa1(f:Qv→List UInt8)(ks:List Int)(s:Qv):(par f ks s).length≤(f s).length+2:=by
 unfold par
 split <;> simp
end Go.L
namespace Go.Proofs.YtekmbcbgknmhiaaGreatDoor
open Go Go.L
theorem YT:∀ {ws:List (List UInt8)},Vc ws=0→∀ w∈ws,wf w=(0,0)
 | [],_=>by simp
 | w::l,h=>by
  unfold Vc at h
  split at h
  ·rename_i a;intro x hx
   rcases List.mem_cons.1 hx with rfl | hx
   ·exact Acy a
   ·exact YT h x hx
  ·rename_i a;exact absurd h a
theorem YU{w:List UInt8}(h:wf w=(0,0)):w.length≤64:=by
 unfold wf at h
 split at h
 ·cases h
 ·omega
theorem YV{w:List UInt8}(h:pf w=(0,0)):w.length≤64:=by
 unfold pf at h
 split at h
 ·cases h
 ·omega
theorem Oc{q:Qv}(h:nf q=0):(1≤q.f.1∧q.f.1≤10)∧UQ q=true∧(∀ w∈q.f.2.1,wf w=(0,0))∧pf q.f.2.2.1=(0,0)∧nt q=0:=by
 unfold nf at h
 split at h
 ·rename_i b
  split at h
  ·rename_i h2
   split at h
   ·rename_i h3
    split at h
    ·rename_i a;exact⟨b,h2,YT h3,Acz a,h⟩
    ·rename_i a;exact absurd h a
   ·rename_i h3;exact absurd h h3
  ·cases h
 ·cases h
theorem Ww{q:Qv}(h:nt q=0):q.f.2.2.2.1.length≤64:=by
 unfold nt at h
 split at h
 ·cases h
 ·split at h
  ·cases h
  ·split at h
   ·cases h
   ·omega
theorem NI{q:Qv}(h:UQ q=true):(q.f.1=1→q.f.2.1.length=1)∧(q.f.1=2→2≤q.f.2.1.length)∧(q.f.1=3→q.f.2.1.length=2)∧(q.f.1=10→q.f.2.2.2.2.2.2.length=1)∧(q.f.1=8∨q.f.1=9→2≤q.f.2.2.2.2.2.2.length):=by
 unfold UQ at h;simp only [Bool.and_eq_true] at h;obtain⟨⟨⟨⟨⟨a,_⟩,_⟩,_⟩,_⟩,b⟩:=h;refine⟨fun e=>?_,fun e=>?_,fun e=>?_,fun e=>?_,fun e=>?_⟩
 ·rw [e] at a;simpa using a
 ·rw [e] at a;simp at a;omega
 ·rw [e] at a;simpa using a
 ·rw [e] at b;simpa using b
 ·rw [if_pos e] at b;simp at b;exact b.1
theorem TR{l:List Qv}{g:Qv→Nat}{f:Qv→List UInt8}(h:∀ s∈l,(f s).length+1≤3000 * g s):Lib.lens (l.map f)+l.length≤3000 * (l.map g).sum:=by
 induction l with
 | nil=>simp [Lib.lens]
 | cons a l ih=>
  have b:=h a (List.mem_cons_self ..);have:=ih fun s hs=>h s (List.mem_cons_of_mem _ hs);simp only [List.length_cons,List.map_cons,List.sum_cons,SV];omega
theorem YW{l:List (List UInt8)}(h:∀ w∈l,w.length≤64):Lib.lens l≤64 * l.length:=by
 induction l with
 | nil=>simp [Lib.lens]
 | cons a l ih=>
  have b:=h a (List.mem_cons_self ..);have:=ih fun s hs=>h s (List.mem_cons_of_mem _ hs);simp only [List.length_cons,SV];omega
theorem PS{l:List (List UInt8)}(h:∀ w∈l,w.length≤64)(i:Nat):(l.getD i default).length≤64:=by
 rw [List.getD_eq_getElem?_getD]
 cases e:l[i]? with
 | none=>decide
 | some w=>exact h w (List.mem_of_getElem? e)
theorem V8:∀ (d:Nat) (q:Qv),Sq q→Vq d q→(tx d q).length+3≤3000 * nq d q
 | 0,_,_,h=>h.elim
 | d+1,q,hq,hv=>by
  obtain⟨hk,hF,hw,hp,ht⟩:=Oc hv.1;have hw':∀ w∈q.f.2.1,w.length≤64:=fun w h=>YU (hw w h);have hd:=Ww ht;have hp:=YV hp;have hwn:=Ob hF
  have hs:∀ ks,∀ s∈q.f.2.2.2.2.2.2,(par (tx d) ks s).length+1≤3000 * nq d s:=fun ks s hs=>by
   have l:=V8 d s (hq.sub hs) (hv.2 s hs);have h2:=Aa1 (tx d) ks s;omega
  have e:=Po hq.open.2.2.2.2.2.1;have g:=Po hq.open.2.2.2.2.2.2
  have hqu:(quo q.f.2.2.2.1).length≤3 * q.f.2.2.2.1.length+2:=by
   have:=RQ q.f.2.2.2.1;simp [quo]
   simpa using this
  have i:=PS hw' 0;have j:=PS hw' 1;have hwl:=YW hw';unfold tx tb nq;have b:=join_le (q.f.2.2.2.2.2.2.map (par (tx d) [9])) [38];have c:=join_le (q.f.2.2.2.2.2.2.map (par (tx d) [])) [124];have a:=join_le (q.f.2.2.2.2.2.2.map (par (tx d) [8,9])) [];have m:=TR (hs [9]);have n:=TR (hs []);have k:=TR (hs [8,9]);have j2:=join_le q.f.2.1 [32];simp only [List.length_map,List.length_cons,List.length_nil] at b c a j2
  repeat' split
  all_goals first | omega | (simp only [List.length_append,List.length_cons,List.length_nil];omega)
end Go.Proofs.YtekmbcbgknmhiaaGreatDoor
end
noncomputable section
namespace Go.Proofs.YtekmbcbgknmhiaaGreatDoor
open Go Go.L
theorem AbB{l:List Int}(hl:l.length≤1000)(a:Int):Cs l a=some (decide (a∈l)):=by
 have key:∀ (d i:Nat),i+d=l.length→∃ r,Go.L.run (BS l a) (i:Int)=some r∧(0≤r↔a∈l.drop i):=by
  intro d
  induction d with
  | zero=>
   intro i hi;refine⟨-1,Bm (m:=some (-1)) ?_,by rw [List.drop_eq_nil_of_le (by omega)];simp⟩;unfold BS Dz;rw [if_neg (by omega)]
  | succ d ih=>
   intro i hi;have hil:i<l.length:=by omega
   rw [drop_cons hil]
   have hb:BS l a (i:Int)=if a=l.getD i default then some (.inr (i:Int)) else some (.inl ((i+1:Nat):Int)):=by
    unfold BS;rw [if_pos (by omega),An (by omega),Int.toNat_natCast,An (by constructor <;> omega)]
    rfl
   by_cases h:a=l.getD i default
   ·rw [if_pos h] at hb;exact⟨_,Bm (m:=some (i:Int)) hb,by rw [h];simp⟩
   ·rw [if_neg h] at hb;obtain⟨r,b,h2⟩:=ih (i+1) (by omega);refine⟨r,by rw [BA hb,b],h2.trans ?_⟩;rw [List.mem_cons];exact⟨.inr,fun hh=>hh.resolve_left h⟩
 unfold Cs Ev E3;obtain⟨r,b,h2⟩:=key l.length 0 (by omega);rw [show((0:Nat):Int)=0 from rfl] at b;rw [b,Option.bind_some]
 congr 1
 simpa using h2
theorem YX{l:List Qv}(hl:l.length≤2000000){f:Qv→Option (List UInt8)}{f2:List Qv→List UInt8→List Int→Option (List UInt8)}{g:Qv→List UInt8}{sep:List UInt8}{ks:List Int}(hk:ks.length≤1000)
  (hf:∀ s∈l,f s=some (g s)) (hg:∀ s∈l,(g s).length≤1000000) (hj:(Lib.join (l.map (par g ks)) sep).length≤1000000):DO f f2 l sep ks=some (Lib.join (l.map (par g ks)) sep):=by
 unfold DO Gj
 have key:∀ (d i:Nat) (o:List (List UInt8)),o.length=i→i+d=l.length→Go.L.run (Co l sep ks f) (o,(i:Int))=Qm (o++(l.drop i).map (par g ks)) sep:=by
  intro d
  induction d with
  | zero=>
   intro i o ho hi;rw [List.drop_eq_nil_of_le (by omega)];refine Bm ?_;unfold Co Ex;simp only;rw [if_neg (by omega)];simp
  | succ d ih=>
   intro i o ho hi;have hil:i<l.length:=by omega
   have hm:=PR hil;have hgl:=hg _ hm
   have hb:Co l sep ks f (o,(i:Int))=some (.inl (o++[par g ks (l.getD i default)],((i+1:Nat):Int))):=by
    unfold Co D0 par;simp only;rw [if_pos (by omega),An ⟨by omega,by omega⟩,Int.toNat_natCast,hf _ hm,Option.bind_some,AbB hk,Option.bind_some]
    by_cases h:(l.getD i default).f.1∈ks
    ·rw [decide_eq_true h,if_pos rfl,if_pos h,An (by simp [-List.getD_eq_getElem?_getD];omega),An (by simp [-List.getD_eq_getElem?_getD];omega),An (by constructor <;> simp [-List.getD_eq_getElem?_getD] <;> omega),An (by constructor <;> omega)]
     rfl
    ·rw [decide_eq_false h,if_neg (by decide),if_neg h,An (by constructor <;> simp [-List.getD_eq_getElem?_getD] <;> omega),An (by constructor <;> omega)]
     rfl
   rw [BA hb,ih (i+1) _ (by simp [ho]) (by omega),drop_cons hil];simp
 have:=key l.length 0 [] rfl (by omega);rw [show((0:Nat):Int)=0 from rfl] at this;rw [this];unfold Qm;rw [List.nil_append,List.drop_zero,An ⟨by rw [List.length_map];omega,by omega⟩]
theorem V9{l:List Qv}(hl:l.length≤2000000){f:Qv→Option (List UInt8)}{f2:List Qv→List UInt8→Int→Int→Option (List UInt8)}{g:Qv→List UInt8}{sep:List UInt8}{ks:List Int}{c j:Int}(hk:∀ s∈l,(s.f.1=c∨s.f.1=j)↔s.f.1∈ks)
  (hf:∀ s∈l,f s=some (g s)) (hg:∀ s∈l,(g s).length≤1000000) (hsep:sep.length≤10) (hj:(Lib.join (l.map (par g ks)) sep).length≤1000000):HM f f2 l sep c j=some (Lib.join (l.map (par g ks)) sep):=by
 unfold HM Ks
 have k:∀ (i:Nat) (o:List UInt8),i<l.length→o.length≤10000000→E1 l c j (i:Int) f o=some (.inl (o++par g ks (l.getD i default),((i+1:Nat):Int))):=fun i o hil ho=>by
  have hm:=PR hil;have hgl:=hg _ hm
  have n:∀ b:Bool,(b=true↔(l.getD i default).f.1∈ks)→E0 l (i:Int) o f b=some (.inl (o++par g ks (l.getD i default),((i+1:Nat):Int))):=fun b hb=>by
   unfold E0 par;rw [Int.toNat_natCast,hf _ hm]
   by_cases h:b=true
   ·rw [if_pos h,if_pos (hb.1 h),An (by simp [-List.getD_eq_getElem?_getD];omega),An ⟨by omega,by omega⟩,Option.bind_some,An (by simp [-List.getD_eq_getElem?_getD];omega),An (by simp [-List.getD_eq_getElem?_getD];omega),An (by constructor <;> omega)];simp
   ·rw [if_neg h,if_neg (fun e=>h (hb.2 e)),An ⟨by omega,by omega⟩,Option.bind_some,An (by omega),An (by constructor <;> omega)]
    rfl
  unfold E1;rw [An ⟨by omega,by omega⟩,An ⟨by omega,by omega⟩,Int.toNat_natCast]
  by_cases h:(l.getD i default).f.1=c
  ·rw [if_pos h,n true (by simpa using (hk _ hm).1 (.inl h))]
  ·rw [if_neg h,n _ (by rw [decide_eq_true_eq,← hk _ hm];exact⟨.inr,fun e=>e.resolve_left h⟩)]
 have key:∀ (d i:Nat) (o:List UInt8),1≤i→i+d=l.length→o.length+(Lib.joinTail sep ((l.drop i).map (par g ks))).length≤1000000→Go.L.run (Cd l sep c j f) (o,(i:Int))=some (o++Lib.joinTail sep ((l.drop i).map (par g ks))):=by
  intro d
  induction d with
  | zero=>
   intro i o ho hi _;rw [List.drop_eq_nil_of_le (by omega)];refine Bm (m:=some _) ?_;unfold Cd Gm;simp only;rw [if_neg (by omega)];simp [Lib.joinTail]
  | succ d ih=>
   intro i o ho hi hlen;have hil:i<l.length:=by omega
   rw [drop_cons hil,List.map_cons,Wv] at hlen ⊢;rw [List.length_append,List.length_append] at hlen
   have hb:Cd l sep c j f (o,(i:Int))=some (.inl ((o++sep)++par g ks (l.getD i default),((i+1:Nat):Int))):=by
    unfold Cd;simp only;rw [if_pos (by omega),if_pos (by omega),An (by omega),k i _ hil (by simp [-List.getD_eq_getElem?_getD];omega)]
   rw [BA hb,ih (i+1) _ (by omega) (by omega) (by simp;simp at hlen;omega)];simp
 cases l with
 | nil=>
  refine Bm (m:=some _) ?_;unfold Cd Gm;simp only;rw [if_neg (by simp)]
  rfl
 | cons a r=>
  have hb:Cd (a::r) sep c j f ([],0)=some (.inl (par g ks a,1)):=by
   unfold Cd;simp only;rw [if_pos (by simp),if_neg (by omega)];exact k 0 [] (by simp) (by simp)
  rw [List.map_cons,Lib.join_cons] at hj ⊢;rw [List.length_append] at hj;rw [BA hb];exact key r.length 1 _ (by omega) (by simp [-List.getD_eq_getElem?_getD];omega) (by simpa using hj)
theorem VA{q:Qv}(hw:∀ w∈q.f.2.1,w.length≤64)(hl:q.f.2.1.length≤16)(a:1≤q.f.2.1.length):Hm q (q.f.2.1.getD 0 default,1)=some (([34]++Lib.join q.f.2.1 [32])++[34]):=by
 unfold Hm
 have key:∀ (d i:Nat) (o:List UInt8),i+d=q.f.2.1.length→o.length≤65 * i→Go.L.run (CI q) (o,(i:Int))=some (([34]++(o++Lib.joinTail [32] (q.f.2.1.drop i)))++[34]):=by
  intro d
  induction d with
  | zero=>
   intro i o hi ho;rw [List.drop_eq_nil_of_le (by omega)];refine Bm (m:=some _) ?_;unfold CI Hl;simp only;rw [if_neg (by omega),An (by simp [-List.getD_eq_getElem?_getD];omega),An (by simp [-List.getD_eq_getElem?_getD];omega)];simp [Lib.joinTail]
  | succ d ih=>
   intro i o hi ho;have hil:i<q.f.2.1.length:=by omega
   have hwl:=PS hw i;rw [drop_cons hil,Wv]
   have hb:CI q (o,(i:Int))=some (.inl ((o++[32])++q.f.2.1.getD i default,((i+1:Nat):Int))):=by
    unfold CI;simp only;rw [if_pos (by omega),An (by simp [-List.getD_eq_getElem?_getD];omega),An ⟨by omega,by omega⟩,Int.toNat_natCast,An (by simp [-List.getD_eq_getElem?_getD];omega),An (by constructor <;> omega)]
    rfl
   rw [BA hb,ih (i+1) _ (by omega) (by simp [-List.getD_eq_getElem?_getD];omega)];simp
 obtain⟨w,r,hwr⟩:=List.exists_cons_of_ne_nil (List.ne_nil_of_length_pos a);have hwl:=PS hw 0;have:=key (q.f.2.1.length - 1) 1 (q.f.2.1.getD 0 default) (by omega) (by omega);rw [show((1:Nat):Int)=1 from rfl] at this;rw [this,hwr,Lib.join_cons]
 rfl
theorem Aa2{q:Qv}{f:Qv→List UInt8}(hq:Sq q)(hn:nf q=0)(ht:(tb f q).length≤1000000){s1:Qv→Option (List UInt8)}{b:List Qv→List UInt8→List Int→Option (List UInt8)}{r1:Qv→Option (List UInt8)}{r2:List Qv→List UInt8→Int→Int→Option (List UInt8)}
  (g:q.f.1=8→b q.f.2.2.2.2.2.2 [38] [9]=some (tb f q)∧r2 q.f.2.2.2.2.2.2 [38] 9 0=some (tb f q)) (i:q.f.1=9→b q.f.2.2.2.2.2.2 [124] []=some (tb f q)∧r2 q.f.2.2.2.2.2.2 [124] 0 0=some (tb f q))
  (d:q.f.1=10→b q.f.2.2.2.2.2.2 [] [8,9]=some (Lib.join (q.f.2.2.2.2.2.2.map (par f [8,9])) [])∧r2 q.f.2.2.2.2.2.2 [] 8 9=some (Lib.join (q.f.2.2.2.2.2.2.map (par f [8,9])) [])) :
  Ea s1 b q=some (tb f q)∧G3 r1 r2 q=some (tb f q):=by
 obtain⟨hk,hF,hw,hp,hnt⟩:=Oc hn;have hw':∀ w∈q.f.2.1,w.length≤64:=fun w h=>YU (hw w h);have hd:=Ww hnt;have hp:=YV hp;have hwn:=Ob hF;obtain⟨f1,f2,f3,_⟩:=NI hF;have a:=hq.open.2.2.2.2.2.1;have c:=hq.open.2.2.2.2.2.2;have l:=Po a;have m:=Po c;have n:=PS hw' 0;have o:=PS hw' 1;have hwl:=YW hw';have j2:=join_le q.f.2.1 [32];simp only [List.length_cons,List.length_nil] at j2;have j:OW q.f.2.2.2.2.1=some (Lib.itoa q.f.2.2.2.2.1):=by unfold OW;rw [An ⟨a.1,a.2⟩]
 have k:OW q.f.2.2.2.2.2.1=some (Lib.itoa q.f.2.2.2.2.2.1):=by unfold OW;rw [An ⟨c.1,c.2⟩]
 have hqu:(quo q.f.2.2.2.1).length≤3 * q.f.2.2.2.1.length+2:=by
  have:=RQ q.f.2.2.2.1;simp [quo]
  simpa using this
 unfold Ea G3 Hn;obtain e | e | e | e | e | e | e | e | e | e:q.f.1=1∨q.f.1=2∨q.f.1=3∨q.f.1=4∨q.f.1=5∨q.f.1=6∨q.f.1=7∨q.f.1=8∨q.f.1=9∨q.f.1=10:=by omega
 ·have:=f1 e;simp only [tb,e,if_true];rw [An ⟨by omega,by omega⟩];exact⟨rfl,rfl⟩
 ·have:=f2 e;simp only [tb,e,Int.reduceEq,if_true,if_false]
  constructor
  ·unfold Qm;rw [An ⟨by omega,by omega⟩,Option.bind_some,An (by simp [-List.getD_eq_getElem?_getD];omega),An (by simp [-List.getD_eq_getElem?_getD];omega)]
  ·rw [An ⟨by omega,by omega⟩];exact VA hw' hwn (by omega)
 ·have:=f3 e;simp only [tb,e,Int.reduceEq,if_true,if_false];rw [j,OJ a];simp only [Option.bind_some]
  constructor
  all_goals (rw [An ⟨by omega,by omega⟩,An (by simp [-List.getD_eq_getElem?_getD];omega),An (by simp [-List.getD_eq_getElem?_getD];omega),An (by simp [-List.getD_eq_getElem?_getD];omega),An ⟨by omega,by omega⟩,An (by simp [-List.getD_eq_getElem?_getD];omega)];rfl)
 ·simp only [tb,e,Int.reduceEq,if_true,if_false];rw [SU (by omega),SS (by omega)];exact⟨rfl,rfl⟩
 ·simp only [tb,e,Int.reduceEq,if_true,if_false];rw [An (by simp [-List.getD_eq_getElem?_getD];omega)];exact⟨rfl,rfl⟩
 ·simp only [tb,e,Int.reduceEq,if_true,if_false];rw [j,k,OJ a,OJ c];simp only [Option.bind_some]
  constructor
  all_goals (rw [An (by simp [-List.getD_eq_getElem?_getD];omega),An (by simp [-List.getD_eq_getElem?_getD];omega),An (by simp [-List.getD_eq_getElem?_getD];omega),An (by simp [-List.getD_eq_getElem?_getD];omega),An (by simp [-List.getD_eq_getElem?_getD];omega)])
 ·simp only [tb,e,Int.reduceEq,if_true,if_false];rw [SU (by omega),SS (by omega)];simp only [Option.bind_some]
  constructor
  all_goals (rw [An (by simp [-List.getD_eq_getElem?_getD];omega),An (by simp [-List.getD_eq_getElem?_getD];omega),An (by simp [-List.getD_eq_getElem?_getD];omega)])
 ·simp only [e,Int.reduceEq,if_true,if_false];rw [(g e).1,(g e).2];exact⟨rfl,rfl⟩
 ·simp only [e,Int.reduceEq,if_true,if_false];rw [(i e).1,(i e).2];exact⟨rfl,rfl⟩
 ·simp only [tb,e,Int.reduceEq,if_true,if_false,List.length_append] at ht ⊢;rw [(d e).1,(d e).2];simp only [Option.bind_some];rw [An (by omega)];exact⟨rfl,rfl⟩
theorem Aa3{l:List Qv}{g:Qv→Nat}{s:Qv}(h:s∈l):g s≤(l.map g).sum:=by
 induction l with
 | nil=>cases h
 | cons a l ih=>
  rw [List.map_cons,List.sum_cons]
  rcases List.mem_cons.1 h with rfl | h
  ·omega
  ·have:=ih h;omega
theorem Wx:∀ (d:Nat) (q:Qv),Sq q→Vq d q→nq d q≤200→∀ n,2 * d≤n→(B9 n).1 q=some (tx d q)∧(BJ n).1 q=some (tx d q)
 | 0,_,_,h,_,_,_=>h.elim
 | d+1,q,hq,hv,hc,n,hn=>by
  obtain⟨n,rfl⟩:∃ m,n=m+2:=⟨n - 2,by omega⟩;have hlen:=V8 (d+1) q hq hv;have hsl:=hq.open.2.2.2.1
  have hsum:∀ s∈q.f.2.2.2.2.2.2,nq d s≤200:=fun s hs=>by
   have:nq d s≤(q.f.2.2.2.2.2.2.map (nq d)).sum:=Aa3 hs;unfold nq at hc;omega
  have ih:∀ s∈q.f.2.2.2.2.2.2,(B9 n).1 s=some (tx d s)∧(BJ n).1 s=some (tx d s):=fun s hs=>Wx d s (hq.sub hs) (hv.2 s hs) (hsum s hs) n (by omega)
  have hgl:∀ s∈q.f.2.2.2.2.2.2,(tx d s).length≤1000000:=fun s hs=>by
   have:=V8 d s (hq.sub hs) (hv.2 s hs);have:=hsum s hs;omega
  have a:∀ s∈q.f.2.2.2.2.2.2,1≤s.f.1:=fun s hs=>by
   have:=hv.2 s hs
   cases d with
   | zero=>exact this.elim
   | succ d=>exact(Oc this.1).1.1
  have ht:(tb (tx d) q).length≤1000000:=by
   show(tx (d+1) q).length≤_
   omega
  have hT:∀ sep ks,ks.length≤1000→(Lib.join (q.f.2.2.2.2.2.2.map (par (tx d) ks)) sep).length≤1000000→(B9 (n+1)).2 q.f.2.2.2.2.2.2 sep ks=some (Lib.join (q.f.2.2.2.2.2.2.map (par (tx d) ks)) sep):=fun sep ks hk hj=>YX (f2:=(B9 n).2) (by omega) hk (fun s hs=>(ih s hs).1) hgl hj
  have hB:∀ sep ks b c,(∀ s∈q.f.2.2.2.2.2.2,(s.f.1=b∨s.f.1=c)↔s.f.1∈ks)→sep.length≤10→(Lib.join (q.f.2.2.2.2.2.2.map (par (tx d) ks)) sep).length≤1000000→(BJ (n+1)).2 q.f.2.2.2.2.2.2 sep b c=some (Lib.join (q.f.2.2.2.2.2.2.map (par (tx d) ks)) sep):=
   fun sep ks b c hk hs hj=>V9 (f2:=(BJ n).2) (by omega) hk (fun s hs=>(ih s hs).2) hgl hs hj
  refine Aa2 (s1:=(B9 (n+1)).1) (r1:=(BJ (n+1)).1) hq hv.1 ht (fun e=>?_) (fun e=>?_) (fun e=>?_)
  ·simp only [tb,e,Int.reduceEq,if_true,if_false] at ht ⊢;exact⟨hT _ _ (by simp) ht,hB _ [9] _ _ (fun s hs=>by have:=a s hs;simp;omega) (by simp) ht⟩
  ·simp only [tb,e,Int.reduceEq,if_true,if_false] at ht ⊢;exact⟨hT _ _ (by simp) ht,hB _ [] _ _ (fun s hs=>by have:=a s hs;simp;omega) (by simp) ht⟩
  ·simp only [tb,e,Int.reduceEq,if_true,if_false,List.length_append] at ht;exact⟨hT _ _ (by simp) (by omega),hB _ [8,9] _ _ (fun s hs=>by simp) (by simp) (by omega)⟩
def Wy(q:Qv):Int×Int:=if(ck 1000 q 0 1).2.1=0 then(if 200<(tx 8 q).length then(14,-1) else(0,0)) else(ck 1000 q 0 1).2
theorem TS{q:Qv}(h:(ck 1000 q 0 1).2.1=0):Vq 8 q∧nq 8 q≤40:=by
 obtain⟨a,h2,h3⟩:=Aba 1000 q 0 1 (by omega) (by omega) 8 (by omega) h;exact⟨h3,by omega⟩
theorem RR{q:Qv}(hq:Sq q):DP q=some (if(Wy q).1=0 then tx 8 q else[],Wy q):=by
 unfold DP J3 Wy;obtain⟨a,_,h3⟩:=YR 1000 q 0 1 hq (by omega) (by omega) (by omega) (by omega);rw [a,Option.bind_some]
 by_cases h:(ck 1000 q 0 1).2.1=0
 ·obtain⟨hv,hc⟩:=TS h;rw [if_pos (by rw [h3.2 h];exact⟨rfl,rfl⟩),if_pos h];unfold L9;rw [(Wx 8 q hq hv (by omega) 1000 (by omega)).1,Option.bind_some]
  by_cases hl:200<(tx 8 q).length
  ·rw [if_pos (by omega),if_pos hl]
   rfl
  ·rw [if_neg (by omega),if_neg hl]
   rfl
 ·rw [if_neg (fun e=>h e.1),if_neg h,if_neg h]
theorem Qq{q:Qv}(hq:Sq q):CV q=some (Wy q):=by
 unfold CV;rw [RR hq]
 rfl
theorem S2{q:Qv}(hq:Sq q):IY q=some (Wy q):=by
 unfold IY Lk Wy;obtain⟨_,a,h3⟩:=YR 1000 q 0 1 hq (by omega) (by omega) (by omega) (by omega);rw [a,Option.bind_some]
 by_cases h:(ck 1000 q 0 1).2.1=0
 ·obtain⟨hv,hc⟩:=TS h;rw [if_pos h,if_pos h];unfold GO;rw [(Wx 8 q hq hv (by omega) 1000 (by omega)).2,Option.bind_some]
  by_cases hl:200<(tx 8 q).length
  ·rw [if_pos (by omega),if_pos hl]
   rfl
  ·rw [if_neg (by omega),if_neg hl,h3.2 h]
 ·rw [if_neg h,if_neg h]
theorem VB{q:Qv}(h:(Wy q).1=0):Vq 8 q∧nq 8 q≤40∧(tx 8 q).length≤200∧Wy q=(0,0):=by
 unfold Wy at h ⊢
 by_cases a:(ck 1000 q 0 1).2.1=0
 ·rw [if_pos a] at h ⊢
  by_cases h2:200<(tx 8 q).length
  ·rw [if_pos h2] at h
   cases h
  ·rw [if_neg h2];exact⟨(TS a).1,(TS a).2,by omega,rfl⟩
 ·rw [if_neg a] at h;exact absurd h a
theorem TT{q:Qv}(hq:Sq q)(h:(Wy q).1=0):GO q=some (tx 8 q):=by
 obtain⟨hv,hc,_⟩:=VB h;unfold GO;exact(Wx 8 q hq hv (by omega) 1000 (by omega)).2
end Go.Proofs.YtekmbcbgknmhiaaGreatDoor
end
noncomputable section
namespace Go.L
open Go
def wb(c:UInt8):Prop:=(48≤c.toNat∧c.toNat≤57)∨(97≤c.toNat∧c.toNat≤122)∨128≤c.toNat
def pb(c:UInt8):Prop:=(48≤c.toNat∧c.toNat≤57)∨(97≤c.toNat∧c.toNat≤122)∨c.toNat=47∨c.toNat=35∨c.toNat=42∨c.toNat=45∨c.toNat=95∨c.toNat=46
theorem AbC{l:List UInt8}:∀ k,k<Sf l→128≤bt l k:=by
 intro k hk;unfold Sf at hk;unfold cont at hk
 split at hk
 ·split at hk
  ·rename_i a;have:=of_decide_eq_true a;obtain h | h:k=0∨k=1:=by omega
   all_goals subst h;omega
  ·omega
 ·split at hk
  ·split at hk
   ·rename_i a;have h2:=of_decide_eq_true a.1;have h3:=of_decide_eq_true a.2.1;obtain h | h | h:k=0∨k=1∨k=2:=by omega
    all_goals subst h;omega
   ·omega
  ·split at hk
   ·split at hk
    ·rename_i a;have h2:=of_decide_eq_true a.1;have h3:=of_decide_eq_true a.2.1;have b:=of_decide_eq_true a.2.2.1;obtain h | h | h | h:k=0∨k=1∨k=2∨k=3:=by omega
     all_goals subst h;omega
    ·omega
   ·omega
theorem Aa4{c:UInt8}(h:asc c.toNat=true):wb (II c):=by
 have h:=of_decide_eq_true h;unfold II wb
 split
 ·rename_i a
  have:(c+32).toNat=c.toNat+32:=by
   rw [UInt8.toNat_add];have:(32:UInt8).toNat=32:=rfl;omega
  omega
 ·omega
theorem AbD{l:List UInt8}:∀ c∈(l.take (MQ l)).map II,wb c:=by
 intro c hc;obtain⟨b,hb,rfl⟩:=List.mem_map.1 hc;obtain⟨k,hk,rfl⟩:=List.mem_iff_getElem.1 hb;rw [List.length_take] at hk;rw [List.getElem_take];have hkl:k<l.length:=by omega
 have hbt:(l[k]'hkl).toNat=bt l k:=by unfold bt;rw [List.getD_eq_getElem?_getD,List.getElem?_eq_getElem hkl];rfl
 unfold MQ at hk
 split at hk
 ·rename_i h;obtain rfl:k=0:=by omega
  exact Aa4 (by rw [hbt];exact h)
 ·have:=AbC (l:=l) k (by omega);rw [Ws (by omega)];exact .inr (.inr (by omega))
theorem VC{cur:List UInt8}{fr at':Nat}(h:∀ c∈cur,wb c):∀ x∈fin cur fr at',x.1≠[]∧∀ c∈x.1,wb c:=by
 intro x hx;unfold fin at hx
 split at hx
 ·cases hx
 ·rename_i a;obtain rfl:=List.mem_singleton.1 hx;exact⟨a,h⟩
theorem VD{a:List UInt8}:∀ (f at':Nat) (cur:List UInt8) (fr:Nat),(∀ c∈cur,wb c)→∀ x∈Uc a f at' cur fr,x.1≠[]∧∀ c∈x.1,wb c
 | 0,at',cur,fr,h=>VC h
 | f+1,at',cur,fr,h=>by
  unfold Uc
  split
  ·rename_i b
   split
   ·intro x hx
    rcases List.mem_append.1 hx with hx | hx
    ·exact VC h x hx
    ·exact VD f _ [] _ (by simp) x hx
   ·refine VD f _ _ _ fun c hc=>?_
    rcases List.mem_append.1 hc with hc | hc
    ·exact h c hc
    ·exact AbD c hc
  ·exact VC h
theorem Abc:∀ {l:List (List UInt8)} {a:Int},0≤a→wr true a l<0→∀ x∈l,∀ c∈x,pb c
 | [],_,_,_=>by simp
 | y::l,a,ha,h=>by
  unfold wr at h
  split at h
  ·rename_i b;intro x hx
   rcases List.mem_cons.1 hx with rfl | hx
   ·simp only [Bool.or_eq_true,Bool.true_and,decide_eq_true_eq] at b
    rcases b with (b | b) | b | b
    ·unfold Xl at b;rw [Bool.and_eq_true,List.all_eq_true] at b;intro c hc;have:=of_decide_eq_true (b.2 c hc);unfold pb;omega
    all_goals (subst b;intro c hc;simp at hc;subst hc;unfold pb;decide)
   ·exact Abc (by omega) h x hx
  ·omega
theorem TU{c:UInt8}:∀ (s cur:List UInt8),c∈cur∨c∈s→c=47∨∃ x∈QQ cur s,c∈x
 | [],cur,h=>.inr ⟨cur,by simp [QQ],by simpa using h⟩
 | b::s,cur,h=>by
  unfold QQ
  split
  ·rename_i hb
   rcases h with h | h
   ·exact .inr ⟨cur,List.mem_cons_self ..,h⟩
   ·rcases List.mem_cons.1 h with rfl | h
    ·exact .inl hb
    ·rcases TU s [] (.inr h) with h | ⟨x,a,h2⟩
     ·exact .inl h
     ·exact .inr ⟨x,List.mem_cons_of_mem _ a,h2⟩
  ·refine TU s (cur++[b]) ?_
   rcases h with h | h
   ·exact .inl (by simp [h])
   ·rcases List.mem_cons.1 h with rfl | h
    ·exact .inl (by simp)
    ·exact .inr h
end Go.L
namespace Go.Proofs.YtekmbcbgknmhiaaGreatDoor
open Go Go.L
theorem Abd{w:List UInt8}(h:wf w=(0,0)):w≠[]∧∀ c∈w,wb c:=by
 unfold wf at h
 split at h
 ·cases h
 ·split at h
  ·rename_i b
   cases hw:wds w with
   | nil=>rw [hw] at b;cases b
   | cons x r=>
    rw [hw] at b;have hx:x.1=w:=(List.cons.inj b).1;have:=VD (a:=w) (w.length+1) 0 [] 0 (by simp) x (by show x∈wds w;rw [hw];exact List.mem_cons_self ..);rw [hx] at this;exact this
  ·cases h
theorem Ac0{s:List UInt8}(h:pf s=(0,0)):∀ c∈s,pb c:=by
 unfold pf at h
 split at h
 ·cases h
 ·split at h
  ·cases h
  ·rename_i b;intro c hc;have h2:=Abc (l:=sl s) (a:=0) (by omega) (by omega);unfold sl at h2;rw [if_neg (by rintro rfl;cases hc)] at h2
   rcases TU s [] (.inr hc) with rfl | ⟨x,hx,hcx⟩
   ·unfold pb;decide
   ·exact h2 x hx c hcx
end Go.Proofs.YtekmbcbgknmhiaaGreatDoor
end
noncomputable section
namespace Go.L
open Go
def UR(c:UInt8):Prop:=48≤c.toNat∧c.toNat≤57
theorem RS{k:Nat}(h:k<10):(UInt8.ofNat (48+k)).toNat=48+k:=by rw [UInt8.toNat_ofNat'];omega
theorem Xw(u:Nat):u<18446744073709551616→∀ r,Lib.parseUint10 0 (Lib.decDigits u++r)=Lib.parseUint10 u r:=by
 induction u using Nat.strongRecOn with
 | ind u ih=>
  intro hu r;rw [Lib.decDigits]
  by_cases h:u<10
  ·rw [dif_pos h]
   show Lib.parseUint10 0 (UInt8.ofNat (48+u)::r)=_
   rw [Lib.parseUint10,RS h,if_pos (by omega),if_neg (by omega),if_neg (by omega)]
   congr 1
   omega
  ·rw [dif_neg h,List.append_assoc,ih (u / 10) (by omega) (by omega)]
   show Lib.parseUint10 (u / 10) (UInt8.ofNat (48+u % 10)::r)=_
   rw [Lib.parseUint10,RS (by omega),if_pos (by omega),if_neg (by omega),if_neg (by omega)]
   congr 1
   omega
theorem QR(u:Nat):Lib.decDigits u≠[]∧∀ c∈Lib.decDigits u,UR c:=by
 induction u using Nat.strongRecOn with
 | ind u ih=>
  have hd:∀ k,k<10→UR (UInt8.ofNat (48+k)):=fun k hk=>by unfold UR;rw [RS hk];omega
  rw [Lib.decDigits]
  by_cases h:u<10
  ·rw [dif_pos h];refine⟨by simp,fun c hc=>?_⟩;obtain rfl:=List.mem_singleton.1 hc;exact hd u h
  ·rw [dif_neg h];refine⟨by simp,fun c hc=>?_⟩
   rcases List.mem_append.1 hc with hc | hc
   ·exact(ih (u / 10) (by omega)).2 c hc
   ·obtain rfl:=List.mem_singleton.1 hc;exact hd _ (by omega)
theorem SX(n:Int):∃ c r,Lib.itoa n=c::r∧(UR c∨c=45)∧∀ b∈r,UR b:=by
 unfold Lib.itoa
 split
 ·exact⟨_,_,rfl,.inr rfl,(QR _).2⟩
 ·obtain⟨a,h2⟩:=QR n.toNat;obtain⟨c,r,h⟩:=List.exists_cons_of_ne_nil a;rw [h] at h2;exact⟨c,r,h,.inl (h2 c (List.mem_cons_self ..)),fun b hb=>h2 b (List.mem_cons_of_mem _ hb)⟩
theorem Xx{n:Int}(hn:BL n):Lib.atoiAll (Lib.itoa n)=.ok n:=by
 have b:=hn.1;have d:=hn.2
 have hmag:∀ u:Nat,u<18446744073709551616→Lib.parseMag (Lib.decDigits u)=.ok u:=fun u hu=>by
  unfold Lib.parseMag;have:=Xw u hu [];rw [List.append_nil] at this;rw [if_neg (QR u).1,this]
  rfl
 unfold Lib.itoa
 split
 ·unfold Lib.atoiAll;simp only;rw [if_pos (by decide),hmag _ (by omega)];simp only;rw [if_neg (fun h=>h.1 (by decide)),if_neg (fun h=>by omega),if_pos (by decide)]
  congr 1
  omega
 ·obtain⟨a,h2⟩:=QR n.toNat;have hm:=hmag n.toNat (by omega);obtain⟨c,r,h⟩:=List.exists_cons_of_ne_nil a;rw [h] at h2 hm ⊢;have hc:=h2 c (List.mem_cons_self ..);unfold UR at hc;unfold Lib.atoiAll;simp only;rw [if_neg (by omega),hm];simp only;rw [if_neg (fun h=>by omega),if_neg (fun h=>by omega),if_neg (by omega)]
  congr 1
  omega
theorem RT{c:UInt8}{t:List UInt8}:∀ w:List UInt8,c∉w→Lib.indexByte (w++c::t) c=w.length
 | [],_=>by simp [Lib.indexByte]
 | b::w,h=>by
  have hb:b≠c:=fun e=>h (by simp [e]);have ih:=RT (t:=t) w (fun e=>h (List.mem_cons_of_mem _ e));rw [List.cons_append,Lib.indexByte,if_neg (by simpa using hb),ih,if_neg (by simp)];simp
theorem PT{c:UInt8}:∀ w:List UInt8,c∉w→Lib.indexByte w c = -1
 | [],_=>rfl
 | b::w,h=>by
  have hb:b≠c:=fun e=>h (by simp [e]);have ih:=PT w (fun e=>h (List.mem_cons_of_mem _ e));rw [Lib.indexByte,if_neg (by simpa using hb),ih,if_pos (by decide)]
theorem Kt(c:UInt8)(x:List UInt8)(r:List (List UInt8)):Lib.joinTail [c] (x::r)=c::(x++Lib.joinTail [c] r):=by simp [Lib.joinTail]
theorem VE{c:UInt8}:∀ (r:List (List UInt8)) (w:List UInt8),(∀ x∈w::r,c∉x)→Lib.split (Lib.join (w::r) [c]) [c]=w::r:=by
 have cnt:∀ (r:List (List UInt8)) (w:List UInt8),(∀ x∈w::r,c∉x)→(w++Lib.joinTail [c] r).count c=r.length:=by
  intro r
  induction r with
  | nil=>
   intro w h;have:=h w (List.mem_cons_self ..)
   simpa [Lib.joinTail] using List.count_eq_zero.2 this
  | cons x r ih=>
   intro w h;rw [Kt,List.count_append,List.count_eq_zero.2 (h w (List.mem_cons_self ..)),List.count_cons_self,ih x (fun y hy=>h y (List.mem_cons_of_mem _ hy))];simp
 have key:∀ (r:List (List UInt8)) (w:List UInt8),(∀ x∈w::r,c∉x)→Lib.splitK [c] 0 r.length (w++Lib.joinTail [c] r)=w::r:=by
  intro r
  induction r with
  | nil=>intro w _;simp [Lib.splitK,Lib.joinTail]
  | cons x r ih=>
   intro w h;have hi:Lib.index (w++Lib.joinTail [c] (x::r)) [c]=w.length:=by rw [Lib.index_one,Kt];exact RT w (h w (List.mem_cons_self ..))
   rw [List.length_cons,Lib.splitK,hi,if_neg (by simp)];simp only [Int.toNat_natCast,Nat.add_zero,List.take_left',List.length_cons,List.length_nil];rw [Kt,List.drop_append,List.drop_eq_nil_of_le (by omega),show w.length+(0+1) - w.length=1 by omega,List.drop_succ_cons,List.drop_zero,List.nil_append,ih x (fun y hy=>h y (List.mem_cons_of_mem _ hy))]
 intro r w h;unfold Lib.split;rw [Lib.join_cons,Lib.count_one,cnt r w h,key r w h]
end Go.L
end
noncomputable section
namespace Go.L
open Go
def Xy(one:List UInt8→Option (Qv×List UInt8))(sg:UInt8):Nat→List Qv→List UInt8→Option (List Qv×List UInt8)
 | 0,_,_=>none
 | k+1,l,r=>if r.head? = some sg then(one r.tail).bind fun x=>Xy one sg k (l++[x.1]) x.2 else some (l,r)
def Wz(one:List UInt8→Option (Qv×List UInt8))(kind:Int)(sg:UInt8)(r:List UInt8):Option (Qv×List UInt8):=
 (one r).bind fun x=>(Xy one sg (x.2.length+1) [x.1] x.2).map fun y=>(if y.1.length=1 then x.1 else .mk kind [] [] [] 0 0 y.1,y.2)
def W0(one:List UInt8→Option (Qv×List UInt8)):List UInt8→Option (Qv×List UInt8):=Wz (Wz one 8 38) 9 124
def PU(lf:List UInt8→Option (Qv×List UInt8)):Nat→List UInt8→Option (Qv×List UInt8)
 | 0,_=>none
 | n+1,r=>if r.head? = some 33 then(PU lf n r.tail).map fun x=>(.mk 10 [] [] [] 0 0 [x.1],x.2)
  else if r.head? = some 40 then(W0 (PU lf n) r.tail).bind fun x=>if x.2.head? = some 41 then some (x.1,x.2.tail) else none
  else lf r
def Pp(cs:List UInt8)(r:List UInt8):Prop:=∀ c,r.head? = some c→c∈cs
theorem Pp.cons{cs:List UInt8}{c:UInt8}{r:List UInt8}(h:c∈cs):Pp cs (c::r):=fun x hx=>by
 obtain rfl:=Option.some.inj hx;exact h
theorem Pp.mono{cs ds:List UInt8}{r:List UInt8}(h:Pp cs r)(hs:∀ c∈cs,c∈ds):Pp ds r:=fun c hc=>hs c (h c hc)
theorem US{one:List UInt8→Option (Qv×List UInt8)}{sg:UInt8}{g:Qv→List UInt8}{cs rest:List UInt8}(hsg:sg∈cs)(hr:Pp cs rest)(hn:rest.head?≠some sg):
  ∀ (l:List Qv) (acc:List Qv) (k:Nat),(∀ x∈l,∀ r,Pp cs r→one (g x++r)=some (x,r))→l.length<k→Xy one sg k acc (Lib.joinTail [sg] (l.map g)++rest)=some (acc++l,rest)
 | l,acc,0,_,hk=>by omega
 | [],acc,k+1,_,_=>by
  show Xy one sg (k+1) acc ([]++rest)=_
  rw [List.nil_append,Xy,if_neg hn,List.append_nil]
 | x::l,acc,k+1,h,hk=>by
  rw [List.map_cons,Kt,List.cons_append,Xy,List.head?_cons,if_pos rfl,List.tail_cons,List.append_assoc,h x (List.mem_cons_self ..),Option.bind_some,US hsg hr hn l _ k (fun y hy=>h y (List.mem_cons_of_mem _ hy)) (by simp at hk;omega)]
  ·simp
  ·cases l with
   | nil=>exact hr
   | cons y l=>rw [List.map_cons,Kt];exact Pp.cons hsg
theorem W2(c:UInt8)(g:Qv→List UInt8):∀ l:List Qv,l.length≤(Lib.joinTail [c] (l.map g)).length
 | []=>by simp
 | x::l=>by
  have:=W2 c g l;rw [List.map_cons,Kt];simp;omega
theorem UT{one:List UInt8→Option (Qv×List UInt8)}{kind:Int}{sg:UInt8}{g:Qv→List UInt8}{cs rest:List UInt8}(hsg:sg∈cs)(hr:Pp cs rest)(hn:rest.head?≠some sg){l:List Qv}(hl:2≤l.length)
  (h:∀ x∈l,∀ r,Pp cs r→one (g x++r)=some (x,r)):Wz one kind sg (Lib.join (l.map g) [sg]++rest)=some (.mk kind [] [] [] 0 0 l,rest):=by
 cases l with
 | nil=>simp at hl
 | cons s l=>
  unfold Wz;rw [List.map_cons,Lib.join_cons,List.append_assoc,h s (List.mem_cons_self ..),Option.bind_some]
  ·show Option.map _ (Xy one sg _ [s] (Lib.joinTail [sg] (l.map g)++rest))=_
   rw [US hsg hr hn l [s] _ (fun y hy=>h y (List.mem_cons_of_mem _ hy)) (by have:=W2 sg g l;rw [List.length_append];omega)];simp only [Option.map_some,List.length_append,List.length_cons,List.length_nil] at hl ⊢;rw [if_neg (by omega)]
   rfl
  ·cases l with
   | nil=>exact hr
   | cons y l=>rw [List.map_cons,Kt];exact Pp.cons hsg
theorem TV{one:List UInt8→Option (Qv×List UInt8)}{kind:Int}{sg:UInt8}{t rest:List UInt8}{q:Qv}(h:one t=some (q,rest))(hn:rest.head?≠some sg):Wz one kind sg t=some (q,rest):=by
 unfold Wz;rw [h,Option.bind_some]
 show Option.map _ (Xy one sg _ [q] rest)=_
 rw [Xy,if_neg hn]
 rfl
end Go.L
namespace Go.Proofs.YtekmbcbgknmhiaaGreatDoor
open Go Go.L
def Ac1(lf:List UInt8→Option (Qv×List UInt8)):Prop:=∀ d q rest,Sq q→Vq (d+1) q→q.f.1≤7→Pp [38,124,41] rest→lf (tx (d+1) q++rest)=some (q,rest)
theorem join_one(x:List UInt8)(sep:List UInt8):Lib.join [x] sep=x:=by rw [Lib.join_cons];simp [Lib.joinTail]
theorem RU{q:Qv}(h:UQ q=true)(hk:8≤q.f.1∧q.f.1≤10):q=.mk q.f.1 [] [] [] 0 0 q.f.2.2.2.2.2.2:=by
 have hh:q.f.2.1=[]∧q.f.2.2.1=[]∧q.f.2.2.2.1=[]∧q.f.2.2.2.2.1=0∧q.f.2.2.2.2.2.1=0:=by
  unfold UQ at h;simp only [Bool.and_eq_true,Bool.or_eq_true] at h;obtain⟨⟨⟨⟨⟨a,h2⟩,h3⟩,b⟩,c⟩,_⟩:=h;rw [if_neg (by omega),if_neg (by omega),if_neg (by omega)] at a;refine⟨List.eq_nil_of_length_eq_zero (of_decide_eq_true a),?_,?_,?_,?_⟩
  ·exact of_decide_eq_true (h2.resolve_left (fun e=>by have:=of_decide_eq_true e;omega))
  ·exact of_decide_eq_true (h3.resolve_left (fun e=>by have:=of_decide_eq_true e;omega))
  ·exact of_decide_eq_true (b.resolve_left (fun e=>by have:=of_decide_eq_true e;omega))
  ·exact of_decide_eq_true (c.resolve_left (fun e=>by have:=of_decide_eq_true e;omega))
 obtain⟨k,ws,p,dd,lo,hi,ss⟩:=q;obtain⟨a,h2,h3,b,c⟩:=hh;obtain rfl:ws=[]:=a;obtain rfl:p=[]:=h2;obtain rfl:dd=[]:=h3;obtain rfl:lo=0:=b;obtain rfl:hi=0:=c
 rfl
theorem UU{q:Qv}(h:UQ q=true)(hk:q.f.1=8∨q.f.1=9):∀ s∈q.f.2.2.2.2.2.2,s.f.1≠q.f.1:=by
 unfold UQ at h;simp only [Bool.and_eq_true] at h;have h:=h.2;rw [if_pos hk] at h;simp only [Bool.and_eq_true,Bool.not_eq_true',Lw] at h;intro s hs e;have:=List.any_eq_false.1 h.2 s hs;exact this (decide_eq_true e)
theorem RV{f:Qv→List UInt8}{ks:List Int}{s:Qv}(h:s.f.1∈ks):par f ks s=[40]++f s++[41]:=if_pos h
theorem Kg{f:Qv→List UInt8}{ks:List Int}{s:Qv}(h:s.f.1∉ks):par f ks s=f s:=if_neg h
theorem AcO{d:Nat}{q:Qv}(h:q.f.1=8):tx (d+1) q=Lib.join (q.f.2.2.2.2.2.2.map (par (tx d) [9])) [38]:=by
 unfold tx tb;rw [h]
 rfl
theorem AcP{d:Nat}{q:Qv}(h:q.f.1=9):tx (d+1) q=Lib.join (q.f.2.2.2.2.2.2.map (par (tx d) [])) [124]:=by
 unfold tx tb;rw [h]
 rfl
theorem Ac2{d:Nat}{q:Qv}(h:q.f.1=10):tx (d+1) q=[33]++Lib.join (q.f.2.2.2.2.2.2.map (par (tx d) [8,9])) []:=by
 unfold tx tb;rw [h]
 rfl
theorem UW{lf:List UInt8→Option (Qv×List UInt8)}(hlf:Ac1 lf)(hst:∀ d q,Vq (d+1) q→q.f.1≤7→∃ c t,tx (d+1) q=c::t∧c≠33∧c≠40):∀ (d:Nat) (q:Qv),Sq q→Vq d q→
  (∀ n rest,2 * d≤n→Pp [38,124,41] rest→PU lf n (par (tx d) [8,9] q++rest)=some (q,rest))∧
  (∀ n rest,2 * d≤n+1→(q.f.1≠8→2 * d≤n)→Pp [124,41] rest→Wz (PU lf n) 8 38 (par (tx d) [9] q++rest)=some (q,rest))∧
  (∀ n rest,2 * d≤n+1→(q.f.1≠8→q.f.1≠9→2 * d≤n)→Pp [41] rest→W0 (PU lf n) (tx d q++rest)=some (q,rest))
 | 0,_,_,h=>h.elim
 | d+1,q,hq,hv=>by
  obtain⟨hk,hF,_⟩:=Oc hv.1;have ih:∀ s∈q.f.2.2.2.2.2.2,_:=fun s hs=>UW hlf hst d s (hq.sub hs) (hv.2 s hs)
  have J8:q.f.1=8→∀ n rest,2 * (d+1)≤n+1→Pp [124,41] rest→Wz (PU lf n) 8 38 (tx (d+1) q++rest)=some (q,rest):=fun b n rest hn hr=>by
   rw [AcO b];have hsm:=UU hF (.inl b);rw [b] at hsm
   have e:q.f.2.2.2.2.2.2.map (par (tx d) [9])=q.f.2.2.2.2.2.2.map (par (tx d) [8,9]):=List.map_congr_left fun s hs=>by
    by_cases a:s.f.1=9
    ·rw [RV (by simp [a]),RV (by simp [a])]
    ·rw [Kg (by simp [a]),Kg (by simp [a,hsm s hs])]
   rw [e,UT (cs:=[38,124,41]) (by simp) (hr.mono (by simp)) (fun h=>by have:=hr 38 h;simp at this) ((NI hF).2.2.2.2 (.inl b)) (fun x hx r hr=>(ih x hx).1 n r (by omega) hr)];have:=RU hF (by omega);rw [b] at this;rw [← this]
  have J9:q.f.1=9→∀ n rest,2 * (d+1)≤n+1→Pp [41] rest→W0 (PU lf n) (tx (d+1) q++rest)=some (q,rest):=fun a n rest hn hr=>by
   rw [AcP a];have hsm:=UU hF (.inr a);rw [a] at hsm
   have e:q.f.2.2.2.2.2.2.map (par (tx d) [])=q.f.2.2.2.2.2.2.map (par (tx d) [9]):=List.map_congr_left fun s hs=>by
    rw [Kg (by simp),Kg (by simp [hsm s hs])]
   unfold W0;rw [e,UT (cs:=[124,41]) (by simp) (hr.mono (by simp)) (fun h=>by have:=hr 124 h;simp at this) ((NI hF).2.2.2.2 (.inr a)) (fun x hx r hr=>(ih x hx).2.1 n r (by omega) (by omega) hr)];have:=RU hF (by omega);rw [a] at this;rw [← this]
  have Q8:q.f.1=8→∀ n rest,2 * (d+1)≤n+1→Pp [41] rest→W0 (PU lf n) (tx (d+1) q++rest)=some (q,rest):=fun b n rest hn hr=>
   TV (J8 b n rest hn (hr.mono (by simp))) (fun h=>by have:=hr 124 h;simp at this)
  have P1:∀ n rest,2 * (d+1)≤n→Pp [38,124,41] rest→PU lf n (par (tx (d+1)) [8,9] q++rest)=some (q,rest):=fun n rest hn hr=>by
   obtain⟨n,rfl⟩:∃ k,n=k+1:=⟨n - 1,by omega⟩
   by_cases i:q.f.1≤7
   ·rw [Kg (by simp;omega)];obtain⟨c,t,ht,j,l⟩:=hst d q hv i;have:=hlf d q rest hq hv i hr;rw [ht] at this ⊢;rw [List.cons_append] at this ⊢;rw [PU,List.head?_cons,if_neg (by simpa using j),if_neg (by simpa using l),this]
   by_cases g:q.f.1=10
   ·rw [Kg (by simp;omega),Ac2 g];have p:=(NI hF).2.2.2.1 g;obtain⟨s,hs⟩:=List.length_eq_one_iff.1 p;have hnode:=RU hF (by omega);rw [g,hs] at hnode;rw [hs,List.map_cons,List.map_nil,join_one,List.append_assoc,List.singleton_append,PU,List.head?_cons,if_pos rfl,List.tail_cons,(ih s (by rw [hs];simp)).1 n rest (by omega) hr,hnode]
    rfl
   ·rw [RV (by simp;omega),List.append_assoc,List.append_assoc,List.singleton_append,PU,List.head?_cons,if_neg (by decide),if_pos rfl,List.tail_cons]
    have:W0 (PU lf n) (tx (d+1) q++41::rest)=some (q,41::rest):=by
     by_cases b:q.f.1=8
     ·exact Q8 b n _ (by omega) (Pp.cons (by simp))
     ·exact J9 (by omega) n _ (by omega) (Pp.cons (by simp))
    rw [List.singleton_append,this,Option.bind_some,List.head?_cons,if_pos rfl,List.tail_cons]
  have P2:∀ n rest,2 * (d+1)≤n+1→(q.f.1≠8→2 * (d+1)≤n)→Pp [124,41] rest→Wz (PU lf n) 8 38 (par (tx (d+1)) [9] q++rest)=some (q,rest):=fun n rest hn m hr=>by
   by_cases b:q.f.1=8
   ·rw [Kg (by simp;omega)];exact J8 b n rest hn hr
   ·have e:par (tx (d+1)) [9] q=par (tx (d+1)) [8,9] q:=by
     by_cases a:q.f.1=9
     ·rw [RV (by simp [a]),RV (by simp [a])]
     ·rw [Kg (by simp [a]),Kg (by simp [a,b])]
    rw [e];exact TV (P1 n rest (m b) (hr.mono (by simp))) (fun h=>by have:=hr 38 h;simp at this)
  refine⟨P1,P2,fun n rest hn o hr=>?_⟩
  by_cases b:q.f.1=8
  ·exact Q8 b n rest hn hr
  by_cases a:q.f.1=9
  ·exact J9 a n rest hn hr
  ·have:=P2 n rest hn (fun _=>o b a) (hr.mono (by simp));rw [Kg (by simp [a])] at this;exact TV this (fun h=>by have:=hr 124 h;simp at this)
end Go.Proofs.YtekmbcbgknmhiaaGreatDoor
end
noncomputable section
namespace Go.L
open Go
def Mn(cs r:List UInt8):List UInt8×List UInt8:=(r.takeWhile fun c=>!cs.contains c,r.dropWhile fun c=>!cs.contains c)
theorem LF{cs:List UInt8}:∀ {w rest:List UInt8},(∀ c∈w,c∉cs)→Pp cs rest→Mn cs (w++rest)=(w,rest)
 | [],rest,_,hr=>by
  unfold Mn
  cases rest with
  | nil=>rfl
  | cons c r=>
   have:cs.contains c=true:=List.contains_iff_mem.2 (hr c rfl);rw [List.nil_append,List.takeWhile_cons,List.dropWhile_cons,this]
   rfl
 | c::w,rest,h,hr=>by
  have ih:=LF (cs:=cs) (w:=w) (fun c hc=>h c (List.mem_cons_of_mem _ hc)) hr
  have:cs.contains c=false:=by
   rw [Bool.eq_false_iff];exact fun e=>h c (List.mem_cons_self ..) (List.contains_iff_mem.1 e)
  unfold Mn at ih ⊢;rw [List.cons_append,List.takeWhile_cons,List.dropWhile_cons,this];simp only [Bool.not_false,if_true];rw [(Prod.mk.inj ih).1,(Prod.mk.inj ih).2]
def YY:List UInt8→Nat
 | []=>0
 | c::r=>if 48≤c.toNat∧c.toNat≤57 then YY r+1 else 0
def Zx:List UInt8→Nat
 | []=>0
 | c::r=>if(48≤c.toNat∧c.toNat≤57)∨c=45 then YY r+1 else 0
theorem W3:∀ {w rest:List UInt8},(∀ c∈w,UR c)→(∀ c,rest.head? = some c→¬ UR c)→YY (w++rest)=w.length
 | [],[],_,_=>rfl
 | [],c::r,_,h=>by
  have:=h c rfl;unfold UR at this;rw [List.nil_append,YY,if_neg this]
  rfl
 | c::w,rest,h,hr=>by
  have:=h c (List.mem_cons_self ..);unfold UR at this;rw [List.cons_append,YY,if_pos this,W3 (fun c hc=>h c (List.mem_cons_of_mem _ hc)) hr]
  rfl
def QD(r:List UInt8):Option (Int×List UInt8):=match Lib.atoiAll (r.take (Zx r)) with
 | .ok v=>some (v,r.drop (Zx r))
 | _=>none
theorem RW{n:Int}{rest:List UInt8}(hn:BL n)(hr:∀ c,rest.head? = some c→¬ UR c):QD (Lib.itoa n++rest)=some (n,rest):=by
 have ha:=Xx hn;obtain⟨c,r,h,hc,hd⟩:=SX n
 have hl:Zx (Lib.itoa n++rest)=(Lib.itoa n).length:=by
  rw [h,List.cons_append,Zx,if_pos (by unfold UR at hc;exact hc),W3 hd hr]
  rfl
 unfold QD;rw [hl,List.take_left',List.drop_left',ha]
 ·rfl
 ·rfl
def YZ(c:UInt8)(r:List UInt8):Option (List UInt8):=if r.head? = some c then some r.tail else none
def Uf(c:UInt8):Int:=Lib.indexByte [48,49,50,51,52,53,54,55,56,57,97,98,99,100,101,102] c
def Xz:List UInt8→List UInt8→Option (List UInt8×List UInt8)
 | [],_=>none
 | c::r,o=>if c=39 then some (o,r) else if c=92 then(match r with
  | a::b::t=>if 0≤Uf a∧0≤Uf b then Xz t (o++[UInt8.ofNat (16 * (Uf a).toNat+(Uf b).toNat)]) else none
  | _=>none) else Xz r (o++[c])
theorem NJ(c:UInt8)(r o:List UInt8):Xz (c::r) o=if c=39 then some (o,r) else if c=92 then(match r with
  | a::b::t=>if 0≤Uf a∧0≤Uf b then Xz t (o++[UInt8.ofNat (16 * (Uf a).toNat+(Uf b).toNat)]) else none
  | _=>none) else Xz r (o++[c]):=by
 rcases r with _ | ⟨a,_ | ⟨b,t⟩⟩ <;> rfl
theorem W4{n:Nat}(h:n<16):Uf (hxd n)=n:=by
 have:∀ k:Fin 16,Uf (hxd k.val)=(k.val:Int):=by decide
 exact this ⟨n,h⟩
theorem TW{rest:List UInt8}:∀ (l o:List UInt8),Xz (l.flatMap Vd++39::rest) o=some (o++l,rest)
 | [],o=>by rw [List.flatMap_nil,List.nil_append,NJ,if_pos rfl,List.append_nil]
 | c::l,o=>by
  have ih:=TW (rest:=rest) l (o++[c]);rw [List.append_assoc,List.singleton_append] at ih;rw [List.flatMap_cons,List.append_assoc]
  by_cases h:(32≤c.toNat∧c.toNat≤126)∧c.toNat≠39∧c.toNat≠92
  ·rw [show Vd c=[c] from if_pos h,List.singleton_append,NJ,if_neg (fun e=>h.2.1 (by rw [e];rfl)),if_neg (fun e=>h.2.2 (by rw [e];rfl)),ih]
  ·have hc:c.toNat<256:=UInt8.toNat_lt _;rw [show Vd c=[92,hxd (c.toNat / 16),hxd (c.toNat % 16)] from if_neg h,List.cons_append,List.cons_append,List.cons_append,List.nil_append,NJ,if_neg (by decide),if_pos rfl];simp only;rw [W4 (by omega),W4 (by omega),if_pos ⟨by omega,by omega⟩]
   have:UInt8.ofNat (16 * ((c.toNat / 16:Nat):Int).toNat+((c.toNat % 16:Nat):Int).toNat)=c:=by
    rw [Int.toNat_natCast,Int.toNat_natCast,show 16 * (c.toNat / 16)+c.toNat % 16=c.toNat by omega,UInt8.ofNat_toNat]
   rw [this,ih]
def ppa(r:List UInt8):Option (Qv×List UInt8):=
 if(Mn [61,38,124,41] r).2.head? = some 61 then
  (
   if(Mn [61,38,124,41] r).2.tail.head? = some 39 then(Xz (Mn [61,38,124,41] r).2.tail.tail []).map fun x=>(.mk 7 [] (Mn [61,38,124,41] r).1 x.1 0 0 [],x.2)
   else(QD (Mn [61,38,124,41] r).2.tail).bind fun x=>if x.2.head? = some 46∧x.2.tail.head? = some 46 then(QD x.2.tail.tail).map fun y=>(.mk 6 [] (Mn [61,38,124,41] r).1 [] x.1 y.1 [],y.2) else none)
 else some (.mk 5 [] (Mn [61,38,124,41] r).1 [] 0 0 [],(Mn [61,38,124,41] r).2)
def pwd(r:List UInt8):Option (Qv×List UInt8):=
 if(Mn [126,38,124,41] r).2.head? = some 126 then
  (QD (Mn [126,38,124,41] r).2.tail).bind fun x=>(YZ 126 x.2).map fun t=>(.mk 3 [(Mn [126,38,124,41] r).1,(Mn [126,38,124,41] t).1] [] [] x.1 0 [],(Mn [126,38,124,41] t).2)
 else some (.mk 1 [(Mn [126,38,124,41] r).1] [] [] 0 0 [],(Mn [126,38,124,41] r).2)
def Sg(r:List UInt8):Option (Qv×List UInt8):=
 if r.head? = some 34 then(YZ 34 (Mn [34] r.tail).2).map fun t=>(.mk 2 (Lib.split (Mn [34] r.tail).1 [32]) [] [] 0 0 [],t)
 else if r.head? = some 39 then(Xz r.tail []).map fun x=>(.mk 4 [] [] x.1 0 0 [],x.2)
 else if r.head? = some 47 then ppa r.tail
 else pwd r
theorem PV{c:UInt8}(h:wb c):c∉([126,38,124,41,34,32,39,47,33,40]:List UInt8):=by
 intro hc;unfold wb at h;simp only [List.mem_cons,List.not_mem_nil,or_false] at hc
 rcases hc with rfl | rfl | rfl | rfl | rfl | rfl | rfl | rfl | rfl | rfl <;> revert h <;> decide
theorem VF{c:UInt8}(h:pb c):c∉([61,38,124,41]:List UInt8):=by
 intro hc;unfold pb at h;simp only [List.mem_cons,List.not_mem_nil,or_false] at hc
 rcases hc with rfl | rfl | rfl | rfl <;> revert h <;> decide
theorem Aa5{rest:List UInt8}(h:Pp [38,124,41] rest):∀ c,rest.head? = some c→¬ UR c:=fun c hc=>by
 have:=h c hc;simp only [List.mem_cons,List.not_mem_nil,or_false] at this
 rcases this with rfl | rfl | rfl <;> (unfold UR;decide)
end Go.L
namespace Go.Proofs.YtekmbcbgknmhiaaGreatDoor
open Go Go.L
theorem SZ{q:Qv}(h:UQ q=true)(hk:1≤q.f.1∧q.f.1≤7):∃ ws p d lo hi,q=.mk q.f.1 ws p d lo hi []∧q.f=(q.f.1,ws,p,d,lo,hi,[])∧
  (q.f.1=1→(∃ w,ws=[w])∧p=[]∧d=[]∧lo=0∧hi=0)∧(q.f.1=2→(∃ w v r,ws=w::v::r)∧p=[]∧d=[]∧lo=0∧hi=0)∧(q.f.1=3→(∃ w v,ws=[w,v])∧p=[]∧d=[]∧hi=0)∧
  (q.f.1=4→ws=[]∧p=[]∧lo=0∧hi=0)∧(q.f.1=5→ws=[]∧d=[]∧lo=0∧hi=0)∧(q.f.1=6→ws=[]∧d=[])∧(q.f.1=7→ws=[]∧lo=0∧hi=0):=by
 have hh:(q.f.1=1→q.f.2.1.length=1)∧(q.f.1=2→2≤q.f.2.1.length)∧(q.f.1=3→q.f.2.1.length=2)∧(4≤q.f.1→q.f.2.1=[])∧(q.f.1<5→q.f.2.2.1=[])∧(q.f.1≠4→q.f.1≠7→q.f.2.2.2.1=[])∧(q.f.1≠3→q.f.1≠6→q.f.2.2.2.2.1=0)∧(q.f.1≠6→q.f.2.2.2.2.2.1=0)∧q.f.2.2.2.2.2.2=[]:=by
  have hfk:=NI h;unfold UQ at h;simp only [Bool.and_eq_true,Bool.or_eq_true] at h;obtain⟨⟨⟨⟨⟨j,h2⟩,h3⟩,b⟩,c⟩,a⟩:=h;refine⟨hfk.1,hfk.2.1,hfk.2.2.1,fun e=>?_,fun e=>?_,fun e e'=>?_,fun e e'=>?_,fun e=>?_,?_⟩
  ·rw [if_neg (by omega),if_neg (by omega),if_neg (by omega)] at j;exact List.eq_nil_of_length_eq_zero (of_decide_eq_true j)
  ·exact of_decide_eq_true (h2.resolve_left (fun e=>by have:=of_decide_eq_true e;omega))
  ·exact of_decide_eq_true (h3.resolve_left (fun e=>by have:=of_decide_eq_true e;omega))
  ·exact of_decide_eq_true (b.resolve_left (fun e=>by have:=of_decide_eq_true e;omega))
  ·exact of_decide_eq_true (c.resolve_left (fun e=>by have:=of_decide_eq_true e;omega))
  ·rw [if_neg (by omega),if_neg (by omega)] at a;exact List.eq_nil_of_length_eq_zero (of_decide_eq_true a)
 obtain⟨k,ws,p,dd,lo,hi,ss⟩:=q;obtain⟨j,h2,h3,b,c,a,i,g,l⟩:=hh;rw [Qf] at hk j h2 h3 b c a i g l ⊢;simp only at hk j h2 h3 b c a i g l ⊢;subst l
 refine⟨ws,p,dd,lo,hi,rfl,rfl,fun e=>⟨?_,c (by omega),a (by omega) (by omega),i (by omega) (by omega),g (by omega)⟩,fun e=>⟨?_,c (by omega),a (by omega) (by omega),i (by omega) (by omega),g (by omega)⟩,
  fun e=>⟨?_,c (by omega),a (by omega) (by omega),g (by omega)⟩,fun e=>⟨b (by omega),c (by omega),i (by omega) (by omega),g (by omega)⟩,fun e=>⟨b (by omega),a (by omega) (by omega),i (by omega) (by omega),g (by omega)⟩,
  fun e=>⟨b (by omega),a (by omega) (by omega)⟩,fun e=>⟨b (by omega),i (by omega) (by omega),g (by omega)⟩⟩
 ·exact List.length_eq_one_iff.1 (j e)
 ·have:=h2 e
  match ws,this with
  | w::v::r,_=>exact⟨w,v,r,rfl⟩
 ·have:=h3 e
  match ws,this with
  | [w,v],_=>exact⟨w,v,rfl⟩
theorem AbF:Ac1 Sg:=fun d q rest hq hv o hr=>by
 obtain⟨hk,hF,hw,hp,ht⟩:=Oc hv.1;obtain⟨ws,p,dd,lo,hi,he,hf,f1,f2,f3,f4,f5,f6,f7⟩:=SZ hF ⟨hk.1,o⟩;have hlo:BL lo:=by have:=hq.open.2.2.2.2.2.1;rw [hf] at this;exact this
 have hhi:BL hi:=by have:=hq.open.2.2.2.2.2.2;rw [hf] at this;exact this
 have hws:∀ w∈ws,w≠[]∧∀ c∈w,wb c:=fun w h=>Abd (hw w (by rw [hf];exact h));have hpp:∀ c∈p,pb c:=by rw [hf] at hp;exact Ac0 hp
 have wout:∀ w∈ws,∀ c∈w,c∉([126,38,124,41]:List UInt8):=fun w hw c hc h=>PV ((hws w hw).2 c hc) (by simp at h ⊢;rcases h with h | h | h | h <;> simp [h])
 have whd:∀ w∈ws,∀ t,∃ c u,w++t=c::u∧c≠34∧c≠39∧c≠47:=fun w hw t=>by
  obtain⟨hne,hb⟩:=hws w hw;obtain⟨c,u,rfl⟩:=List.exists_cons_of_ne_nil hne;have:=PV (hb c (List.mem_cons_self ..));exact⟨c,u++t,rfl,fun e=>this (by simp [e]),fun e=>this (by simp [e]),fun e=>this (by simp [e])⟩
 have b:Pp [126,38,124,41] rest:=hr.mono (by simp);unfold tx tb;rw [hf];simp only;obtain h | h | h | h | h | h | h:q.f.1=1∨q.f.1=2∨q.f.1=3∨q.f.1=4∨q.f.1=5∨q.f.1=6∨q.f.1=7:=by omega
 ·obtain⟨⟨w,rfl⟩,rfl,rfl,rfl,rfl⟩:=f1 h;rw [if_pos h]
  show Sg (w++rest)=_
  have hp:=LF (wout w (by simp)) b;obtain⟨c,u,e,g,i,j⟩:=whd w (by simp) rest;unfold Sg;rw [e,List.head?_cons,if_neg (by simpa using g),if_neg (by simpa using i),if_neg (by simpa using j),← e];unfold pwd;rw [hp,if_neg (fun h=>by have:=hr _ h;simp at this)];rw [h] at he;rw [he]
 ·obtain⟨⟨w,v,r,rfl⟩,rfl,rfl,rfl,rfl⟩:=f2 h;rw [if_neg (by omega),if_pos h]
  have hout:∀ c∈Lib.join (w::v::r) [32],c∉([34]:List UInt8):=by
   intro c hc a;rw [Lib.join_cons] at hc
   have key:∀ l:List (List UInt8),(∀ x∈l,∀ c∈x,wb c)→c∉Lib.joinTail [32] l:=by
    intro l
    induction l with
    | nil=>intro _ h;cases h
    | cons x l ih=>
     intro hx h;rw [Kt] at h
     rcases List.mem_cons.1 h with rfl | h
     ·simp at a
     rcases List.mem_append.1 h with h | h
     ·exact PV (hx x (List.mem_cons_self ..) c h) (by simp at a ⊢;simp [a])
     ·exact ih (fun y hy=>hx y (List.mem_cons_of_mem _ hy)) h
   rcases List.mem_append.1 hc with h | h
   ·exact PV ((hws w (by simp)).2 c h) (by simp at a ⊢;simp [a])
   ·exact key (v::r) (fun x hx=>(hws x (List.mem_cons_of_mem _ hx)).2) h
  have hu:=LF (rest:=34::rest) hout (Pp.cons (by simp));unfold Sg;rw [List.append_assoc,List.append_assoc,List.singleton_append,List.singleton_append,List.head?_cons,if_pos rfl,List.tail_cons,hu];simp only;unfold YZ;rw [List.head?_cons,if_pos rfl,VE _ _ (fun x hx hc=>PV ((hws x hx).2 _ hc) (by simp))];rw [h] at he;rw [he]
  rfl
 ·obtain⟨⟨w,v,rfl⟩,rfl,rfl,rfl⟩:=f3 h;rw [if_neg (by omega),if_neg (by omega),if_pos h]
  show Sg (((((w++[126])++Lib.itoa lo)++[126])++v)++rest)=_
  have hu:=LF (rest:=126::(Lib.itoa lo++126::(v++rest))) (wout w (by simp)) (Pp.cons (by simp));have k:=LF (wout v (by simp)) b;obtain⟨c,u,e,g,i,j⟩:=whd w (by simp) (126::(Lib.itoa lo++126::(v++rest)));have ee:((((w++[126])++Lib.itoa lo)++[126])++v)++rest=w++126::(Lib.itoa lo++126::(v++rest)):=by simp
  rw [ee];unfold Sg;rw [e,List.head?_cons,if_neg (by simpa using g),if_neg (by simpa using i),if_neg (by simpa using j),← e];unfold pwd;rw [hu];simp only [List.head?_cons,if_true,List.tail_cons];rw [RW hlo (fun c hc=>by simp at hc;subst hc;unfold UR;decide),Option.bind_some];unfold YZ;simp only [List.head?_cons,if_true,List.tail_cons];rw [Option.map_some,k];rw [h] at he;rw [he]
 ·obtain⟨rfl,rfl,rfl,rfl⟩:=f4 h;rw [if_neg (by omega),if_neg (by omega),if_neg (by omega),if_pos h];unfold quo Sg;rw [List.append_assoc,List.cons_append,List.singleton_append,List.head?_cons,if_neg (by decide),if_pos rfl,List.tail_cons,TW];rw [h] at he;rw [he]
  rfl
 ·obtain⟨rfl,rfl,rfl,rfl⟩:=f5 h;rw [if_neg (by omega),if_neg (by omega),if_neg (by omega),if_neg (by omega),if_pos h];unfold Sg;rw [List.append_assoc,List.singleton_append,List.head?_cons,if_neg (by decide),if_neg (by decide),if_pos rfl,List.tail_cons];unfold ppa;rw [LF (fun c hc=>VF (hpp c hc)) (hr.mono (by simp)),if_neg (fun h=>by have:=hr _ h;simp at this)];rw [h] at he;rw [he]
 ·obtain⟨rfl,rfl⟩:=f6 h;rw [if_neg (by omega),if_neg (by omega),if_neg (by omega),if_neg (by omega),if_neg (by omega),if_pos h];have ee:(((([47]++p)++[61])++Lib.itoa lo)++[46,46])++Lib.itoa hi++rest=47::(p++61::(Lib.itoa lo++46::46::(Lib.itoa hi++rest))):=by simp
  rw [ee];unfold Sg;rw [List.head?_cons,if_neg (by decide),if_neg (by decide),if_pos rfl,List.tail_cons];unfold ppa;rw [LF (fun c hc=>VF (hpp c hc)) (Pp.cons (by simp))];simp only [List.head?_cons,if_true,List.tail_cons];obtain⟨c,r,m,n,_⟩:=SX lo
  rw [if_neg (by
   rw [m];intro e;simp at e;subst e
   rcases n with h | h
   ·unfold UR at h;revert h;decide
   ·revert h;decide)]
  rw [RW hlo (fun c hc=>by simp at hc;subst hc;unfold UR;decide),Option.bind_some];simp only [List.head?_cons,List.tail_cons,and_self,if_true];rw [RW hhi (Aa5 hr)];rw [h] at he;rw [he]
  rfl
 ·obtain⟨rfl,rfl,rfl⟩:=f7 h;rw [if_neg (by omega),if_neg (by omega),if_neg (by omega),if_neg (by omega),if_neg (by omega),if_neg (by omega),if_pos h];have ee:(([47]++p)++[61])++quo dd++rest=47::(p++61::39::(dd.flatMap Vd++39::rest)):=by simp [quo]
  rw [ee];unfold Sg;rw [List.head?_cons,if_neg (by decide),if_neg (by decide),if_pos rfl,List.tail_cons];unfold ppa;rw [LF (fun c hc=>VF (hpp c hc)) (Pp.cons (by simp))];simp only [List.head?_cons,if_true,List.tail_cons];rw [TW];rw [h] at he;rw [he]
  rfl
theorem Aa6(d:Nat)(q:Qv)(hv:Vq (d+1) q)(a:q.f.1≤7):∃ c t,tx (d+1) q=c::t∧c≠33∧c≠40:=by
 obtain⟨hk,hF,hw,hp,ht⟩:=Oc hv.1;obtain⟨ws,p,dd,lo,hi,he,hf,f1,f2,f3,f4,f5,f6,f7⟩:=SZ hF ⟨hk.1,a⟩
 have whd:∀ w∈ws,∀ t,∃ c u,w++t=c::u∧c≠33∧c≠40:=fun w h t=>by
  obtain⟨hne,hb⟩:=Abd (hw w (by rw [hf];exact h));obtain⟨c,u,rfl⟩:=List.exists_cons_of_ne_nil hne;have:=PV (hb c (List.mem_cons_self ..));exact⟨c,u++t,rfl,fun e=>this (by simp [e]),fun e=>this (by simp [e])⟩
 unfold tx tb;rw [hf];simp only;obtain h | h | h | h | h | h | h:q.f.1=1∨q.f.1=2∨q.f.1=3∨q.f.1=4∨q.f.1=5∨q.f.1=6∨q.f.1=7:=by omega
 ·obtain⟨⟨w,rfl⟩,_⟩:=f1 h;rw [if_pos h];have:=whd w (by simp) [];rw [List.append_nil] at this;exact this
 ·rw [if_neg (by omega),if_pos h];exact⟨34,_,rfl,by decide,by decide⟩
 ·obtain⟨⟨w,v,rfl⟩,_⟩:=f3 h;rw [if_neg (by omega),if_neg (by omega),if_pos h];have:=whd w (by simp) ([126]++(Lib.itoa lo++([126]++v)));rw [show w++([126]++(Lib.itoa lo++([126]++v)))=(((w++[126])++Lib.itoa lo)++[126])++v by simp] at this;exact this
 ·rw [if_neg (by omega),if_neg (by omega),if_neg (by omega),if_pos h];exact⟨39,_,rfl,by decide,by decide⟩
 ·rw [if_neg (by omega),if_neg (by omega),if_neg (by omega),if_neg (by omega),if_pos h];exact⟨47,_,rfl,by decide,by decide⟩
 ·rw [if_neg (by omega),if_neg (by omega),if_neg (by omega),if_neg (by omega),if_neg (by omega),if_pos h];exact⟨47,_,rfl,by decide,by decide⟩
 ·rw [if_neg (by omega),if_neg (by omega),if_neg (by omega),if_neg (by omega),if_neg (by omega),if_neg (by omega),if_pos h];exact⟨47,_,rfl,by decide,by decide⟩
theorem X0{d:Nat}{q:Qv}(hq:Sq q)(hv:Vq d q){n:Nat}(hn:2 * d≤n):W0 (PU Sg n) (tx d q)=some (q,[]):=by
 have:=(UW AbF Aa6 d q hq hv).2.2 n [] (by omega) (fun _ _=>hn) (fun c hc=>by cases hc)
 rwa [List.append_nil] at this
end Go.Proofs.YtekmbcbgknmhiaaGreatDoor
end
noncomputable section
namespace Go.L
open Go
theorem Aa7{l:List UInt8}{p:Nat}(hp:p<l.length):(bt l p<128→Ln l p=(bt l p,1))∧(128≤bt l p→(128≤(Ln l p).1∧(Ln l p).1≤1114111)∧1≤(Ln l p).2∧∀ k,k<(Ln l p).2→p+k<l.length∧128≤bt l (p+k)):=by
 have hg:∀ k,p+k<l.length→((ByteArray.mk l.toArray).get! (p+k)).toNat=bt l (p+k):=fun k hk=>by
  unfold bt ByteArray.get!;simp [List.getD_eq_getElem?_getD,hk]
 have c:=hg 0 (by omega);have d:bt l p<256:=UInt8.toNat_lt _;rw [Nat.add_zero] at c;unfold Ln Go.Utf8.decode;simp only [Nat.add_zero,c];refine⟨fun h=>by rw [if_pos h],fun h=>?_⟩;rw [if_neg (by omega)];have hsz:(ByteArray.mk l.toArray).size=l.length:=by simp [ByteArray.size]
 simp only [hsz]
 have hc:∀ k,(decide (p+k<l.length)&&((ByteArray.mk l.toArray).get! (p+k)).toNat / 64==2)=true→p+k<l.length∧128≤bt l (p+k):=fun k hk=>by
  rw [Bool.and_eq_true,decide_eq_true_eq,beq_iff_eq] at hk;have:=hg k hk.1;omega
 have a:(∀ k,k<1→p+k<l.length∧128≤bt l (p+k)):=fun k hk=>by
  obtain rfl:k=0:=by omega
  exact⟨hp,h⟩
 have hE:(128≤(Go.Utf8.runeError,1).1∧(Go.Utf8.runeError,1).1≤1114111)∧1≤(Go.Utf8.runeError,1).2∧∀ k,k<(Go.Utf8.runeError,1).2→p+k<l.length∧128≤bt l (p+k):=⟨by decide,by decide,a⟩
 split
 ·rename_i e;rw [Bool.and_eq_true] at e;have c1:=hc 1 e.2
  split
  ·refine⟨⟨by simpa using ‹_›,?_⟩,by simp only;omega,fun k hk=>?_⟩
   ·simp only;omega
   ·obtain rfl | rfl:k=0∨k=1:=by simp only at hk;omega
    ·exact a 0 (by omega)
    ·exact c1
  ·exact hE
 ·split
  ·rename_i e;rw [Bool.and_eq_true,Bool.and_eq_true] at e;have c1:=hc 1 e.1.2;have c2:=hc 2 e.2
   split
   ·rename_i b;rw [Bool.and_eq_true,decide_eq_true_eq] at b;refine⟨⟨by simp only;omega,?_⟩,by simp only;omega,fun k hk=>?_⟩
    ·simp only;omega
    ·obtain rfl | rfl | rfl:k=0∨k=1∨k=2:=by simp only at hk;omega
     ·exact a 0 (by omega)
     ·exact c1
     ·exact c2
   ·exact hE
  ·split
   ·rename_i e;rw [Bool.and_eq_true,Bool.and_eq_true,Bool.and_eq_true] at e;have c1:=hc 1 e.1.1.2;have c2:=hc 2 e.1.2;have c3:=hc 3 e.2
    split
    ·rename_i b;rw [Bool.and_eq_true,decide_eq_true_eq] at b;have hv:=b.2;simp only [Go.Utf8.valid,Bool.or_eq_true,Bool.and_eq_true,decide_eq_true_eq] at hv;refine⟨⟨by simp only;omega,?_⟩,by simp only;omega,fun k hk=>?_⟩
     ·simp only;omega
     ·obtain rfl | rfl | rfl | rfl:k=0∨k=1∨k=2∨k=3:=by simp only at hk;omega
      ·exact a 0 (by omega)
      ·exact c1
      ·exact c2
      ·exact c3
    ·exact hE
   ·exact hE
end Go.L
namespace Go.Proofs.YtekmbcbgknmhiaaGreatDoor
open Go Go.L
def sgn(cs:List UInt8):Prop:=cs=[61,38,124,41]∨cs=[126,38,124,41]
theorem Aa8{cs:List UInt8}{c:UInt8}(h:c.toNat<128):BI cs (c.toNat:Int)=some (Lib.indexByte cs c):=by
 unfold BI;rw [if_pos ⟨by omega,by omega⟩];unfold Nv;rw [Aci]
 rfl
theorem Aa9{cs:List UInt8}(hc:sgn cs):Cz cs 0=some (-1):=by
 have key:∀ cs:List UInt8,B2 cs 0=some (.inl 1)→B2 cs 1=some (.inl 2)→B2 cs 2=some (.inl 3)→B2 cs 3=some (.inl 4)→B2 cs 4=some (.inr (-1))→Cz cs 0=some (-1):=fun cs r0 r1 r2 r3 r4=>by
  unfold Cz;rw [BA r0,BA r1,BA r2,BA r3];exact Bm (m:=some (-1)) r4
 rcases hc with rfl | rfl
 ·exact key _ rfl rfl rfl rfl rfl
 ·exact key _ rfl rfl rfl rfl rfl
theorem AaA{cs:List UInt8}(hc:sgn cs){x:Int}(d:128≤x)(hx:x≤1114111):BI cs x=some (-1):=by
 have hlen:cs.length=4:=by rcases hc with rfl | rfl <;> rfl
 have hasc:∀ b∈cs,b.toNat<128:=by rcases hc with rfl | rfl <;> decide
 unfold BI;rw [if_neg (by omega)]
 by_cases h2:x=65533
 ·rw [if_pos h2,Aa9 hc]
 ·rw [if_neg h2]
  by_cases hv:Go.Utf8.valid x=true
  ·have e:B4 x=some true:=by
    unfold B4;simp only [Go.Utf8.valid,Bool.or_eq_true,Bool.and_eq_true,decide_eq_true_eq] at hv
    by_cases h3:0≤x∧x<55296
    ·rw [if_pos h3]
    ·rw [if_neg h3,if_pos (by omega)]
   rw [e];obtain⟨k,hk,f,g,hl⟩:=SN (by omega) hx hv;simp only [Option.bind_some,Bool.not_true,Bool.false_eq_true,if_false,hk];rw [An (by unfold BL;omega)];refine Bm ?_;unfold Dk;have a:((k:Int) - 1).toNat=k - 1:=by omega
   have key:∀ (l:List UInt8) (c:UInt8),(∀ b∈l,b.toNat<128)→128≤c.toNat→Lib.indexByte l c = -1:=by
    intro l c hl hc;refine PT l fun h=>?_;have:=hl c h;omega
   simp only [hk,a]
   have hget:(cs.getD (k - 1) default).toNat<128:=by
    rw [List.getD_eq_getElem?_getD,List.getElem?_eq_getElem (by omega)];exact hasc _ (List.getElem_mem _)
   rw [if_pos (by omega),An (by omega),An (by omega),if_neg (by omega),An (by unfold BL;omega),An (by omega),An (by omega)];unfold Nv;rw [Option.bind_some,key _ _ (fun b hb=>hasc b (List.mem_of_mem_drop hb)) hl,if_pos (by decide)]
  ·have e:B4 x=some false:=by
    unfold B4;simp only [Go.Utf8.valid,Bool.or_eq_true,Bool.and_eq_true,decide_eq_true_eq] at hv;rw [if_neg (by omega),if_neg (by omega)]
   rw [e]
   rfl
def RX(s cs:List UInt8)(p:Nat):Int:=if Lib.indexAny (s.drop p) cs<0 then -1 else Lib.indexAny (s.drop p) cs+p
theorem Ta{s cs:List UInt8}{p:Nat}(hp:p<s.length)(h:s.getD p default∉cs):RX s cs p=RX s cs (p+1):=by
 have hg:s.getD p default=s[p]:=by rw [List.getD_eq_getElem?_getD,List.getElem?_eq_getElem hp];rfl
 have hn:cs.contains s[p]=false:=by
  rw [Bool.eq_false_iff,← hg];exact fun e=>h (List.contains_iff_mem.1 e)
 unfold RX;rw [List.drop_eq_getElem_cons hp,Lib.indexAny,hn];have:=Lib.indexAny_ge cs (s.drop (p+1))
 by_cases a:Lib.indexAny (s.drop (p+1)) cs = -1
 ·rw [a];rfl
 ·have h2:(Lib.indexAny (s.drop (p+1)) cs == -1)=false:=by simpa using a
  rw [h2];simp only [Bool.false_eq_true,if_false];rw [if_neg (by omega),if_neg (by omega)];omega
theorem RY{s cs:List UInt8}(hc:sgn cs):∀ (w p:Nat),(∀ k,k<w→p+k<s.length∧128≤bt s (p+k))→RX s cs p=RX s cs (p+w)
 | 0,p,_=>rfl
 | w+1,p,h=>by
  have a:=h 0 (by omega);have hasc:∀ b∈cs,b.toNat<128:=by rcases hc with rfl | rfl <;> decide
  rw [Nat.add_zero] at a;rw [Ta a.1 (fun hm=>by have:=hasc _ hm;have a:=a.2;unfold bt at a;omega),RY hc w (p+1) (fun k hk=>by have:=h (k+1) (by omega);rwa [show p+(k+1)=p+1+k by omega] at this)]
  congr 1
  omega
theorem AbH{s cs:List UInt8}(hc:sgn cs):∀ (d p:Nat),s.length≤p+d→ER s cs p=some (RX s cs p):=by
 intro d
 induction d using Nat.strongRecOn with
 | ind d ih=>
  intro p hd;unfold ER at ih ⊢
  by_cases hp:p<s.length
  ·obtain⟨lo,hi⟩:=Aa7 hp;have hg:s.getD p default=s[p]:=by rw [List.getD_eq_getElem?_getD,List.getElem?_eq_getElem hp];rfl
   by_cases h:bt s p<128
   ·have hb:BI cs ((Ln s p).1:Int)=some (Lib.indexByte cs s[p]):=by
     rw [lo h,← hg];exact Aa8 h
    by_cases hm:s[p]∈cs
    ·refine Bm (m:=some (RX s cs p)) ?_;obtain⟨w,t,e,hw⟩:=List.eq_append_cons_of_mem hm;unfold BR;rw [if_pos hp,hb,Option.bind_some]
     conv=>lhs;rw [e,RT w hw]
     rw [if_pos (by omega)];unfold RX;rw [List.drop_eq_getElem_cons hp,Lib.indexAny,if_pos (List.contains_iff_mem.2 hm),if_neg (by decide),Int.zero_add]
    ·have e:BR s cs p=some (.inl (p+1)):=by
      unfold BR;rw [if_pos hp,hb,Option.bind_some,PT cs hm,if_neg (by decide),lo h]
     rw [BA e,ih (d - 1) (by omega) (p+1) (by omega),Ta hp (by rw [hg];exact hm)]
   ·obtain⟨⟨a1,a2⟩,a3,a4⟩:=hi (by omega)
    have e:BR s cs p=some (.inl (p+(Ln s p).2)):=by
     unfold BR;rw [if_pos hp,AaA hc (by omega) (by omega),Option.bind_some,if_neg (by decide)]
    rw [BA e,ih (d - (Ln s p).2) (by omega) _ (by omega),RY hc _ p a4]
  ·refine Bm (m:=some (RX s cs p)) ?_;unfold BR EP RX;rw [if_neg hp,List.drop_eq_nil_of_le (by omega)]
   rfl
theorem any_eq{s cs:List UInt8}(hs:s.length≤1000000)(hc:sgn cs∨cs=[34]):M8 s cs=some (Lib.indexAny s cs):=by
 unfold M8;have hasc:∀ b∈cs,b.toNat<128:=by rcases hc with (rfl | rfl) | rfl <;> decide
 have hlen:cs.length=4∨cs.length=1:=by rcases hc with (rfl | rfl) | rfl <;> simp
 by_cases h:8<s.length∨cs.length=1
 ·rw [if_pos h,An ⟨by omega,by omega,by omega,hasc⟩]
 ·rw [if_neg h];have hc:sgn cs:=hc.resolve_right (fun e=>h (.inr (by rw [e];rfl)));unfold strings_IndexAny;rw [if_neg (by intro e;rw [e] at hlen;simp at hlen),if_neg (by omega),if_neg (by omega)];unfold ES;rw [AbH hc s.length 0 (by omega)];unfold RX;rw [List.drop_zero];have:=Lib.indexAny_ge cs s
  congr 1
  split <;> omega
end Go.Proofs.YtekmbcbgknmhiaaGreatDoor
end
noncomputable section
namespace Go.L
open Go
def Dp:Nat→Qv→Prop
 | 0,_=>False
 | n+1,q=>∀ s∈q.f.2.2.2.2.2.2,Dp n s
end Go.L
namespace Go.Proofs.YtekmbcbgknmhiaaGreatDoor
open Go Go.L
theorem Vq.dp:∀ {n:Nat} {q:Qv},Vq n q→Dp n q
 | 0,_,h=>h.elim
 | _+1,_,h=>fun s hs=>Vq.dp (h.2 s hs)
theorem Sq.mk{k:Int}{ss:List Qv}(hl:ss.length≤1048576)(h:∀ s∈ss,Sq s):Sq (.mk k [] [] [] 0 0 ss):=fun d=>by
 cases d with
 | zero=>exact trivial
 | succ d=>exact⟨by simp [Qf],by simp [Qf],by simp [Qf],hl,by simp [Qf],(show BL 0 from⟨by decide,by decide⟩),(show BL 0 from⟨by decide,by decide⟩),fun s hs=>h s hs d⟩
theorem VG(l:List (List UInt8))(hl:l.length≤1000000000):JN l l=some true:=by
 unfold JN Ka;rw [if_pos rfl];refine P6 (fun i=>(i:Int)) l.length (fun i hi=>?_) ?_ 0 (by omega)
 ·unfold GB;rw [if_pos (by omega),An ⟨by omega,by omega⟩,An ⟨by omega,by omega⟩,if_pos rfl,An (by constructor <;> omega)]
  rfl
 ·unfold GB IE;rw [if_neg (by omega)]
theorem Za:∀ (n:Nat) (q:Qv),Sq q→Dp n q→∀ m,n≤m→Ef m q q=some true
 | 0,_,_,h,_,_=>h.elim
 | n+1,q,hq,hd,m,hm=>by
  obtain⟨m,rfl⟩:∃ k,m=k+1:=⟨m - 1,by omega⟩;have hl:=hq.len
  show Df _ q q=_
  unfold Df GA;rw [if_neg (by simp),Option.bind_some,if_neg (by simp),VG _ (by have:=hq.open.1;omega),Option.bind_some,if_neg (by simp)];refine P6 (fun i=>(i:Int)) q.f.2.2.2.2.2.2.length (fun i hi=>?_) ?_ 0 (by omega)
  ·unfold CH;rw [if_pos (by omega),An ⟨by omega,by omega⟩,An ⟨by omega,by omega⟩,Int.toNat_natCast,Za n _ (hq.sub (PR hi)) (hd _ (PR hi)) m (by omega),Option.bind_some,if_neg (by decide),An (by constructor <;> omega)]
   rfl
  ·unfold CH DQ;rw [if_neg (by omega)]
theorem AbI{n:Nat}{q:Qv}(hq:Sq q)(hd:Dp n q)(hn:n≤1000):GN q q=some true:=Za n q hq hd 1000 hn
end Go.Proofs.YtekmbcbgknmhiaaGreatDoor
end
noncomputable section
namespace Go.L
open Go
theorem Tb(sep:List UInt8):∀ (k:Nat) (s:List UInt8),(Lib.splitK sep 0 k s).length≤k+1∧∀ x∈Lib.splitK sep 0 k s,x.length≤s.length
 | 0,s=>⟨by simp [Lib.splitK],fun x hx=>by rw [Lib.splitK] at hx;rw [List.mem_singleton.1 hx];omega⟩
 | k+1,s=>by
  rw [Lib.splitK]
  split
  ·exact⟨by simp,fun x hx=>by rw [List.mem_singleton.1 hx];omega⟩
  ·obtain⟨a,h2⟩:=Tb sep k (s.drop ((Lib.index s sep).toNat+sep.length));refine⟨by rw [List.length_cons];omega,fun x hx=>?_⟩
   rcases List.mem_cons.1 hx with rfl | hx
   ·rw [List.length_take];omega
   ·have:=h2 x hx;rw [List.length_drop] at this;omega
theorem Zb(c:UInt8)(s:List UInt8):(Lib.split s [c]).length≤s.length+1∧∀ x∈Lib.split s [c],x.length≤s.length:=by
 obtain⟨b,h2⟩:=Tb [c] (Lib.count s [c]) s;refine⟨?_,h2⟩;have:=List.count_le_length (a:=c) (l:=s);rw [Lib.count_one] at b;unfold Lib.split;rw [Lib.count_one];omega
theorem Zc(p:UInt8→Bool):∀ r:List UInt8,(r.takeWhile p).length+(r.dropWhile p).length=r.length
 | []=>rfl
 | c::r=>by
  have:=Zc p r;rw [List.takeWhile_cons,List.dropWhile_cons]
  split
  ·simp only [List.length_cons];omega
  ·simp
theorem LG(cs r:List UInt8):(Mn cs r).1.length+(Mn cs r).2.length=r.length:=Zc _ r
theorem CC{r:List UInt8}{c:UInt8}(h:r.head? = some c):r.tail.length+1=r.length:=by
 cases r with
 | nil=>cases h
 | cons a r=>rfl
theorem QS:∀ (n:Nat) (r o:List UInt8) (x:List UInt8×List UInt8),r.length≤n→Xz r o=some x→x.1.length+x.2.length+1≤o.length+r.length
 | _,[],_,_,_,h=>by cases h
 | 0,_::_,_,_,hn,_=>by simp at hn
 | n+1,c::r,o,x,hn,h=>by
  rw [NJ] at h;simp only [List.length_cons] at hn ⊢
  split at h
  ·obtain rfl:=Option.some.inj h;simp only;omega
  split at h
  ·split at h
   ·split at h
    ·have:=QS n _ _ x (by simp only [List.length_cons] at hn;omega) h;simp only [List.length_append,List.length_cons,List.length_nil] at this ⊢;omega
    ·cases h
   ·cases h
  ·have:=QS n _ _ x (by omega) h;simp only [List.length_append,List.length_cons,List.length_nil] at this;omega
theorem Zd{l:List UInt8}{v:Int}(h:Lib.atoiAll l=.ok v):BL v:=by
 unfold Lib.atoiAll at h
 split at h
 ·cases h
 ·simp only at h
  split at h
  ·cases h
  ·cases h
  ·rename_i u hu
   split at h
   ·cases h
   split at h
   ·cases h
   ·injection h with h
    subst h;unfold BL
    split <;> constructor <;> omega
def Ac4(num:List UInt8→Option (Int×List UInt8)):Prop:=∀ r x,num r=some x→BL x.1∧x.2.length≤r.length
theorem Pq:Ac4 QD:=fun r x h=>by
 unfold QD at h
 split at h
 ·rename_i v hv;obtain rfl:=Option.some.inj h;exact⟨Zd hv,by simp only [List.length_drop];omega⟩
 ·cases h
theorem TX{c:UInt8}{r t:List UInt8}(h:YZ c r=some t):t.length+1=r.length:=by
 unfold YZ at h
 split at h
 ·rename_i e;obtain rfl:=Option.some.inj h;exact CC e
 ·cases h
end Go.L
namespace Go.Proofs.YtekmbcbgknmhiaaGreatDoor
open Go Go.L
theorem Sq.leaf{k:Int}{ws:List (List UInt8)}{p d:List UInt8}{l h:Int}(a:ws.length≤1048576)(h2:p.length≤1048576)(h3:d.length≤1048576)(b:∀ x∈ws,x.length≤1048576)(c:BL l)(e:BL h):Sq (.mk k ws p d l h []):=fun n=>by
 cases n with
 | zero=>exact trivial
 | succ n=>exact⟨a,h2,h3,by simp [Qf],b,c,e,fun s hs=>by simp [Qf] at hs⟩
def RZ(lf:List UInt8→Option (Qv×List UInt8)):Prop:=∀ r x,r.length≤1000000→lf r=some x→Sq x.1∧x.2.length≤r.length
theorem z64:BL 0:=⟨by decide,by decide⟩
theorem JT{α β:Type}{o:Option α}{f:α→β}{y:β}(h:o.map f=some y):∃ x,o=some x∧f x=y:=Option.map_eq_some_iff.1 h
theorem Lm{α β:Type}{o:Option α}{f:α→Option β}{y:β}(h:o.bind f=some y):∃ x,o=some x∧f x=some y:=Option.bind_eq_some_iff.1 h
theorem VH:RZ Sg:=fun r x hr h=>by
 unfold Sg at h
 split at h
 ·rename_i e;have ht:=CC e;obtain⟨t,a,rfl⟩:=JT h;have:=TX a;have hu:=LG [34] r.tail;obtain⟨s1,f⟩:=Zb 32 (Mn [34] r.tail).1;exact⟨Sq.leaf (by omega) (by simp) (by simp) (fun y hy=>by have:=f y hy;omega) z64 z64,by simp only;omega⟩
 split at h
 ·rename_i e;have ht:=CC e;obtain⟨t,a,rfl⟩:=JT h;have:=QS _ _ _ _ (Nat.le_refl _) a;simp only [List.length_nil] at this;exact⟨Sq.leaf (by simp) (by simp) (by omega) (by simp) z64 z64,by simp only;omega⟩
 split at h
 ·rename_i e;have ht:=CC e;unfold ppa at h;have hu:=LG [61,38,124,41] r.tail
  split at h
  ·rename_i g;have l:=CC g
   split at h
   ·rename_i i;have m:=CC i;obtain⟨t,a,rfl⟩:=JT h;have:=QS _ _ _ _ (Nat.le_refl _) a;simp only [List.length_nil] at this;exact⟨Sq.leaf (by simp) (by omega) (by omega) (by simp) z64 z64,by simp only;omega⟩
   ·obtain⟨t,a,h2⟩:=Lm h;obtain⟨b,j⟩:=Pq _ _ a
    split at h2
    ·rename_i c;have n:=CC c.1;have o:=CC c.2;obtain⟨d,h3,rfl⟩:=JT h2;obtain⟨k,q⟩:=Pq _ _ h3;exact⟨Sq.leaf (by simp) (by omega) (by simp) (by simp) b k,by simp only;omega⟩
    ·cases h2
  ·obtain rfl:=Option.some.inj h;exact⟨Sq.leaf (by simp) (by omega) (by simp) (by simp) z64 z64,by simp only;omega⟩
 ·unfold pwd at h;have hu:=LG [126,38,124,41] r
  split at h
  ·rename_i e;have ht:=CC e;obtain⟨t,a,h2⟩:=Lm h;obtain⟨b,j⟩:=Pq _ _ a;obtain⟨d,h3,rfl⟩:=JT h2;have:=TX h3;have p:=LG [126,38,124,41] d;refine⟨Sq.leaf (by simp) (by simp) (by simp) (fun y hy=>?_) b z64,by simp only;omega⟩;simp only [List.mem_cons,List.not_mem_nil,or_false] at hy
   rcases hy with rfl | rfl <;> omega
  ·obtain rfl:=Option.some.inj h;refine⟨Sq.leaf (by simp) (by simp) (by simp) (fun y hy=>?_) z64 z64,by simp only;omega⟩;simp only [List.mem_cons,List.not_mem_nil,or_false] at hy;subst hy;omega
theorem Ze{one:List UInt8→Option (Qv×List UInt8)}(a:RZ one){sg:UInt8}:∀ (k:Nat) (l:List Qv) (r:List UInt8) (x:List Qv×List UInt8),r.length≤1000000→(∀ s∈l,Sq s)→Xy one sg k l r=some x→x.1.length+x.2.length≤l.length+r.length∧x.2.length≤r.length∧∀ s∈x.1,Sq s
 | 0,_,_,_,_,_,h=>by cases h
 | k+1,l,r,x,hr,hl,h=>by
  rw [Xy] at h
  split at h
  ·rename_i e;have ht:=CC e;obtain⟨y,h2,h3⟩:=Lm h;obtain⟨s1,d⟩:=a _ _ (by omega) h2
   obtain⟨b,f,c⟩:=Ze a k _ _ x (by omega) (fun s hs=>by
    rcases List.mem_append.1 hs with hs | hs
    ·exact hl s hs
    ·rw [List.mem_singleton.1 hs];exact s1) h3
   simp only [List.length_append,List.length_cons,List.length_nil] at b;exact⟨by omega,by omega,c⟩
  ·obtain rfl:=Option.some.inj h;exact⟨Nat.le_refl _,Nat.le_refl _,hl⟩
theorem Sa{one:List UInt8→Option (Qv×List UInt8)}(a:RZ one){kind:Int}{sg:UInt8}:RZ (Wz one kind sg):=fun r x hr h=>by
 unfold Wz at h;obtain⟨y,h2,h3⟩:=Lm h;obtain⟨s1,e⟩:=a _ _ hr h2;obtain⟨z,b,rfl⟩:=JT h3;obtain⟨c,f,d⟩:=Ze a _ _ _ z (by omega) (fun s hs=>by rw [List.mem_singleton.1 hs];exact s1) b;simp only [List.length_cons,List.length_nil] at c;refine⟨?_,by simp only;omega⟩;simp only
 split
 ·exact s1
 ·exact Sq.mk (by omega) d
theorem TY{lf:List UInt8→Option (Qv×List UInt8)}(a:RZ lf):∀ n,RZ (PU lf n)
 | 0=>fun r x hr h=>by cases h
 | n+1=>fun r x hr h=>by
  have ih:=TY a n;rw [PU] at h
  split at h
  ·rename_i e;have ht:=CC e;obtain⟨y,h2,rfl⟩:=JT h;obtain⟨s1,b⟩:=ih _ _ (by omega) h2;exact⟨Sq.mk (by simp) (fun s hs=>by rw [List.mem_singleton.1 hs];exact s1),by simp only;omega⟩
  split at h
  ·rename_i e;have ht:=CC e;obtain⟨y,h2,h3⟩:=Lm h;obtain⟨s1,b⟩:=Sa (Sa ih) _ _ (by omega) h2
   split at h3
   ·rename_i c;have d:=CC c;obtain rfl:=Option.some.inj h3;exact⟨s1,by simp only;omega⟩
   ·cases h3
  ·exact a r x hr h
theorem AbJ{lf:List UInt8→Option (Qv×List UInt8)}(a:RZ lf)(n:Nat):RZ (W0 (PU lf n)):=Sa (Sa (TY a n))
end Go.Proofs.YtekmbcbgknmhiaaGreatDoor
end
noncomputable section
namespace Go.L
open Go
def Sh{α:Type}(k:Int)(o:Option (α×List UInt8)):Option (Option (α×(List UInt8×Int))):=some (o.map fun x=>(x.1,(x.2,k)))
theorem AbK{r:List UInt8}{c:UInt8}:r.head? = some c↔∃ t,r=c::t:=by
 cases r with
 | nil=>simp
 | cons a t=>simp
end Go.L
namespace Go.Proofs.YtekmbcbgknmhiaaGreatDoor
open Go Go.L
theorem NK{c:UInt8}{r:List UInt8}{k:Int}(h:r.head? = some c):Bg (r,k) [c]=some (true,(r.tail,k)):=by
 obtain⟨t,rfl⟩:=AbK.1 h;unfold Bg DH BE BD;simp only [List.length_cons,List.length_nil];have:decide (List.take (((0+1:Nat):Int).toNat) (c::t)=[c])=true:=decide_eq_true rfl;rw [if_pos (by omega),An (by omega),An (by omega),this]
 rfl
theorem MT{c:UInt8}{r:List UInt8}{k:Int}(h:r.head?≠some c):Bg (r,k) [c]=some (false,(r,k)):=by
 unfold Bg DH BE BD;simp only [List.length_cons,List.length_nil]
 cases r with
 | nil=>rfl
 | cons a t=>
  rw [if_pos (by simp only [List.length_cons];omega),An (by simp only [List.length_cons];omega)]
  have:decide (List.take (((0+1:Nat):Int).toNat) (a::t)=[c])=false:=by
   rw [decide_eq_false_iff_not];intro e;exact h (by rw [List.head?_cons,(List.cons.inj e).1])
  rw [this]
  rfl
theorem Zf{c:UInt8}{r:List UInt8}{k:Int}:B1 (r,k) [c]=some ((YZ c r).map fun t=>(t,k)):=by
 unfold B1 YZ
 by_cases h:r.head? = some c
 ·rw [NK h,if_pos h]
  rfl
 ·rw [MT h,if_neg h]
  rfl
theorem Ac5{c d:UInt8}{r:List UInt8}{k:Int}:B1 (r,k) [c,d]=some (if r.head? = some c∧r.tail.head? = some d then some (r.tail.tail,k) else none):=by
 unfold B1 Bg DH BE BD;simp only [List.length_cons,List.length_nil]
 rcases r with _ | ⟨a,_ | ⟨b,t⟩⟩
 ·rfl
 ·rw [if_neg (by simp),if_neg (by simp)]
  rfl
 ·rw [if_pos (by simp only [List.length_cons];omega),An (by simp only [List.length_cons];omega)]
  by_cases h:a=c∧b=d
  ·obtain⟨rfl,rfl⟩:=h;rw [An (by simp only [List.length_cons];omega),if_pos ⟨rfl,rfl⟩];have:decide (List.take (((0+1+1:Nat):Int).toNat) (a::b::t)=[a,b])=true:=decide_eq_true rfl;rw [this]
   rfl
  ·have:decide (List.take (((0+1+1:Nat):Int).toNat) (a::b::t)=[c,d])=false:=by
    rw [decide_eq_false_iff_not];intro e;have f:=List.cons.inj e;exact h ⟨f.1,(List.cons.inj f.2).1⟩
   rw [this,if_neg (fun e=>h ⟨Option.some.inj e.1,Option.some.inj e.2⟩)]
   rfl
theorem Ac6{cs r:List UInt8}:(if Lib.indexAny r cs<0 then(r.length:Int) else Lib.indexAny r cs)=((Mn cs r).1.length:Int):=by
 induction r with
 | nil=>rfl
 | cons b r ih=>
  have hge:=Lib.indexAny_ge cs r;unfold Mn at ih ⊢;simp only at ih ⊢;rw [Lib.indexAny,List.takeWhile_cons]
  by_cases hb:cs.contains b=true
  ·rw [hb];rfl
  ·rw [Bool.not_eq_true] at hb;rw [hb];simp only [Bool.not_false,if_true,List.length_cons,Bool.false_eq_true,if_false]
   by_cases a:Lib.indexAny r cs = -1
   ·rw [a] at ih ⊢;rw [if_pos (by decide)] at ih;rw [if_pos (by decide)]
    push_cast
    omega
   ·have h2:(Lib.indexAny r cs == -1)=false:=by simpa using a
    rw [h2];rw [if_neg (by omega)] at ih;simp only [Bool.false_eq_true,if_false];rw [if_neg (by omega)]
    push_cast
    omega
theorem AaB(cs r:List UInt8):(Mn cs r).1++(Mn cs r).2=r:=List.takeWhile_append_dropWhile
theorem Pr{cs r:List UInt8}{k:Int}(hr:r.length≤1000000)(hc:sgn cs∨cs=[34]):Cf (r,k) cs=some ((Mn cs r).1,((Mn cs r).2,k)):=by
 unfold Cf Da;rw [any_eq hr hc,Option.bind_some];have h:=Ac6 (cs:=cs) (r:=r);have hl:=LG cs r;have hcat:=AaB cs r
 have key:∀ n:Int,n=((Mn cs r).1.length:Int)→Go.L.AU (0≤n∧n≤(r.length:Int)) (Go.L.AU (0≤n∧n≤(r.length:Int)) (some (r.take n.toNat,(r.drop n.toNat,k))))=some ((Mn cs r).1,((Mn cs r).2,k)):=fun n hn=>by
  rw [An (by omega),An (by omega),hn,Int.toNat_natCast];generalize (Mn cs r).1=a at *;generalize (Mn cs r).2=b at *;subst hcat;rw [List.take_left',List.drop_left'] <;> rfl
 split
 ·rename_i c;rw [if_pos c] at h;exact key _ h
 ·rename_i c;rw [if_neg c] at h;exact key _ h
theorem Zg:∀ r:List UInt8,YY r≤r.length
 | []=>Nat.le_refl _
 | c::r=>by
  have:=Zg r;unfold YY
  split <;> simp <;> omega
theorem AbL(r:List UInt8):Zx r≤r.length:=by
 cases r with
 | nil=>exact Nat.le_refl _
 | cons c r=>
  have:=Zg r;rw [Zx]
  split <;> simp <;> omega
theorem W5{r:List UInt8}{k:Int}(hr:r.length≤1000000):∀ (d i:Nat),d+i=r.length→1≤i→Cv (r,k) (i:Int)=B8 (r,k) ((i+YY (r.drop i):Nat):Int)
 | 0,i,h,_=>by
  refine Bm ?_;unfold B3;rw [if_neg (by simp only;omega),List.drop_eq_nil_of_le (by omega)]
  rfl
 | d+1,i,h,b=>by
  have hi:i<r.length:=by omega
  have hg:r.getD ((i:Int)).toNat default=r[i]:=by rw [Int.toNat_natCast,List.getD_eq_getElem?_getD,List.getElem?_eq_getElem hi];rfl
  rw [List.drop_eq_getElem_cons hi,YY]
  by_cases hd:48≤r[i].toNat∧r[i].toNat≤57
  ·have e:B3 (r,k) (i:Int)=some (.inl ((i+1:Nat):Int)):=by
    unfold B3;simp only;rw [if_pos (by omega),An (by omega),hg,if_pos (by omega),An (by omega),if_pos (by omega),An (by unfold BL;omega)]
    rfl
   rw [if_pos hd];unfold Cv;rw [BA e];have:=W5 (k:=k) hr d (i+1) (by omega) (by omega);unfold Cv at this;rw [this,show i+1+YY (r.drop (i+1))=i+(YY (r.drop (i+1))+1) by omega]
  ·rw [if_neg hd];refine Bm ?_;unfold B3;simp only;rw [if_pos (by omega),An (by omega),hg]
   by_cases a:48≤(r[i].toNat:Int)
   ·rw [if_pos a,An (by omega),if_neg (by omega),if_neg (by omega)]
    rfl
   ·rw [if_neg a,if_neg (by omega)]
    rfl
theorem PW{r:List UInt8}{k:Int}(hr:r.length≤1000000):BU (r,k)=Sh k (QD r):=by
 have hk:BU (r,k)=B8 (r,k) (Zx r:Int):=by
  unfold BU
  cases r with
  | nil=>exact Bm (by rfl)
  | cons c t=>
   simp only [List.length_cons] at hr;have hn:=W5 (r:=c::t) (k:=k) (by simp only [List.length_cons];omega) t.length 1 (by simp) (by omega);rw [List.drop_succ_cons,List.drop_zero] at hn;have hg:(c::t).getD ((0:Int)).toNat default=c:=rfl;unfold Cv at hn ⊢;have hl:((c::t).length:Int)=t.length+1:=by simp
   by_cases hc:(48≤c.toNat∧c.toNat≤57)∨c=45
   ·have e:B3 (c::t,k) 0=some (.inl ((1:Nat):Int)):=by
     unfold B3;simp only;rw [hl,if_pos (by omega),An (by omega),hg]
     by_cases a:48≤(c.toNat:Int)
     ·rw [if_pos a,An (by omega)]
      by_cases b:(c.toNat:Int)≤57
      ·rw [if_pos b,An (by unfold BL;omega)];rfl
      ·exfalso
       rcases hc with hc | rfl
       ·omega
       ·exact b (by decide)
     ·rw [if_neg a,if_pos True.intro,An (by omega)];have:c=45:=hc.resolve_left (by omega);rw [if_pos (by rw [this];rfl),An (by unfold BL;omega)];rfl
    rw [BA e,hn,Zx,if_pos hc,Nat.add_comm]
   ·rw [Zx,if_neg hc];refine Bm ?_;unfold B3;simp only;rw [hl,if_pos (by omega),An (by omega),hg];have d : ¬ (c.toNat:Int)=45:=fun e=>hc (.inr (UInt8.toNat_inj.1 (by have:(45:UInt8).toNat=45:=rfl;omega)))
    by_cases a:48≤(c.toNat:Int)
    ·rw [if_pos a,An (by omega),if_neg (by omega),if_pos True.intro,An (by omega),if_neg d]
     rfl
    ·rw [if_neg a,if_pos True.intro,An (by omega),if_neg d]
     rfl
 have hle:=AbL r;rw [hk];unfold B8 D5 QD Sh Wp;simp only;rw [An (by omega),Int.toNat_natCast,An (by rw [List.length_take];omega),Option.bind_some]
 cases Lib.atoiAll (r.take (Zx r)) with
 | ok v=>
  simp only [if_true];rw [An (by omega)]
  rfl
 | range=>rfl
 | _=>rfl
end Go.Proofs.YtekmbcbgknmhiaaGreatDoor
end
noncomputable section
namespace Go.Proofs.YtekmbcbgknmhiaaGreatDoor
open Go Go.L
theorem Ac7:∀ a b:Fin 16,Go.L.u8 ((((((a.val:Int) * 16).toNat ||| ((b.val:Int)).toNat:Nat)):Int))=UInt8.ofNat (16 * a.val+b.val):=by decide
theorem Zh(c:UInt8):Uf c<16:=by
 have key:∀ (l:List UInt8) (c:UInt8),Lib.indexByte l c<l.length∨(l=[]∧Lib.indexByte l c = -1):=by
  intro l c
  induction l with
  | nil=>exact .inr ⟨rfl,rfl⟩
  | cons b l ih=>
   refine .inl ?_;unfold Lib.indexByte;simp only [List.length_cons]
   split
   ·omega
   ·split
    ·omega
    ·rcases ih with h | ⟨rfl,h⟩
     ·omega
     ·rw [h];simp
 have:=key [48,49,50,51,52,53,54,55,56,57,97,98,99,100,101,102] c;unfold Uf;simp only [List.length_cons,List.length_nil] at this
 rcases this with h | ⟨h,_⟩
 ·omega
 ·cases h
theorem TZ{k:Int}:∀ (n:Nat) (r o:List UInt8),r.length≤n→o.length+r.length≤2000000→D3 (o,r,k)=Sh k (Xz r o)
 | n,[],o,_,_=>by
  refine Bm (m:=some none) ?_;unfold BT;simp only;rw [MT (by simp)]
  rfl
 | 0,c::r,o,h,_=>by simp at h
 | n+1,c::r,o,h,ho=>by
  simp only [List.length_cons] at h ho;rw [NJ];unfold D3
  by_cases d:c=39
  ·subst d;rw [if_pos rfl];refine Bm (m:=Sh k (some (o,r))) ?_;unfold BT;simp only;rw [NK (by rfl)]
   rfl
  ·rw [if_neg d]
   have hbl:BT (o,c::r,k)=CG o (false,(c::r,k)):=by
    unfold BT;simp only;rw [MT (by simpa using d),Option.bind_some]
    rfl
   have g:∀ (t:List UInt8) (b:UInt8),Cu o (false,(c::r,k)) t b=some (.inl (o++[b],t,k)):=fun t b=>by
    unfold Cu;rw [An (by unfold Go.E.JE;simp only [List.length_cons,List.length_nil];omega)]
   have hl:((c::r).length:Int)=r.length+1:=by simp
   unfold CG at hbl;simp only at hbl;rw [hl,An (by omega),An (by omega)] at hbl;have i:(c::r).drop (1:Int).toNat=r:=rfl;have j:(c::r).getD (0:Int).toNat default=c:=rfl;rw [i,j] at hbl
   by_cases f:c=92
   ·subst f;rw [if_pos rfl];rw [if_pos (by rfl)] at hbl
    rcases r with _ | ⟨a,_ | ⟨b,t⟩⟩
    ·exact Bm (m:=some none) hbl
    ·exact Bm (m:=some none) hbl
    ·rw [if_neg (by simp only [List.length_cons];omega)] at hbl;unfold D2 at hbl;simp only at hbl;have hlt:(((92::a::b::t:List UInt8).drop (1:Int).toNat).length:Int)=t.length+2:=by show((a::b::t).length:Int)=_;simp;omega
     have ga:((92::a::b::t:List UInt8).drop (1:Int).toNat).getD (0:Int).toNat default=a:=rfl;have gb:((92::a::b::t:List UInt8).drop (1:Int).toNat).getD (1:Int).toNat default=b:=rfl;rw [hlt,An (by omega),ga,gb] at hbl;unfold Nv at hbl;rw [Option.bind_some,An (by omega),Option.bind_some] at hbl;have ea:Lib.indexByte [48,49,50,51,52,53,54,55,56,57,97,98,99,100,101,102] a=Uf a:=rfl;have eb:Lib.indexByte [48,49,50,51,52,53,54,55,56,57,97,98,99,100,101,102] b=Uf b:=rfl;rw [ea,eb] at hbl;simp only
     by_cases hh:0≤Uf a∧0≤Uf b
     ·rw [if_pos hh];rw [if_neg (by omega)] at hbl;have la:=Zh a;have lb:=Zh b;unfold D1 at hbl;simp only at hbl;have h2:((92::a::b::t:List UInt8).drop (1:Int).toNat).drop (2:Int).toNat=t:=rfl;rw [hlt,h2,An (by unfold BL;omega),An (by omega),An (by omega),g] at hbl;have ho:=Ac7 ⟨(Uf a).toNat,by omega⟩ ⟨(Uf b).toNat,by omega⟩;simp only [Int.toNat_of_nonneg hh.1,Int.toNat_of_nonneg hh.2] at ho;rw [ho] at hbl;rw [BA hbl];simp only [List.length_cons] at h ho;exact TZ n t _ (by omega) (by simp only [List.length_append,List.length_cons,List.length_nil] at *;omega)
     ·rw [if_neg hh];rw [if_pos (by omega)] at hbl;exact Bm (m:=some none) hbl
   ·rw [if_neg f];rw [if_neg (fun e=>f (UInt8.toNat_inj.1 (by have:(92:UInt8).toNat=92:=rfl;omega))),g] at hbl;rw [BA hbl];exact TZ n r _ (by omega) (by simp only [List.length_append,List.length_cons,List.length_nil] at *;omega)
theorem UX{r:List UInt8}{k:Int}(hr:r.length≤1000000):D4 (r,k)=Sh k (Xz r []):=TZ r.length r [] (Nat.le_refl _) (by simp;omega)
theorem AaC{r:List UInt8}{k:Int}(hr:r.length≤1000000):Eb (r,k)=Sh k (ppa r):=by
 unfold Eb ppa;have hl:=LG [61,38,124,41] r;rw [Pr hr (.inl (.inl rfl)),Option.bind_some]
 by_cases h:(Mn [61,38,124,41] r).2.head? = some 61
 ·have b:=CC h;rw [NK h,if_pos h,Option.bind_some];simp only [Bool.not_true,Bool.false_eq_true,if_false]
  by_cases h2:(Mn [61,38,124,41] r).2.tail.head? = some 39
  ·have h3:=CC h2;rw [NK h2,if_pos h2,Option.bind_some];simp only [if_true];rw [UX (by omega)]
   cases Xz (Mn [61,38,124,41] r).2.tail.tail [] <;> rfl
  ·rw [MT h2,if_neg h2,Option.bind_some];simp only [Bool.false_eq_true,if_false];rw [PW (by omega)]
   cases hp:QD (Mn [61,38,124,41] r).2.tail with
   | none=>rfl
   | some x=>
    obtain⟨_,hx⟩:=Pq _ _ hp
    show Option.bind (B1 (x.2,k) [46,46]) _=_
    rw [Ac5,Option.bind_some,Option.bind_some]
    by_cases a:x.2.head? = some 46∧x.2.tail.head? = some 46
    ·have:=CC a.1;have:=CC a.2;rw [if_pos a,if_pos a]
     show Option.bind (BU (x.2.tail.tail,k)) _=_
     rw [PW (by omega)]
     cases QD x.2.tail.tail <;> rfl
    ·rw [if_neg a,if_neg a]
     rfl
 ·rw [MT h,if_neg h]
  rfl
def acc(p:List UInt8→Option (Qv×List UInt8))(s:List UInt8):Option Qv:=(p s).bind fun x=>if x.2=[]∧(Wy x.1).1=0∧tx 8 x.1=s then some x.1 else none
theorem Zi{p:List UInt8→Option (Qv×List UInt8)}{q:Qv}(h:p (tx 8 q)=some (q,[]))(hv:(Wy q).1=0):acc p (tx 8 q)=some q:=by
 unfold acc;rw [h,Option.bind_some,if_pos ⟨rfl,hv,rfl⟩]
end Go.Proofs.YtekmbcbgknmhiaaGreatDoor
end
noncomputable section
namespace Go.Proofs.YtekmbcbgknmhiaaGreatDoor
open Go Go.E Go.RowKit Go.L
set_option maxHeartbeats 1000000
set_option maxRecDepth 10000
open _root_.Go.Proofs.Tryz
def Ho(_a0:Go.L.Qv)(_a1:Int×Int):Option (Go.L.Qv×(Int×Int)):=
 Option.bind (Ek (1:Int) (-1:Int)) (fun a=>some ((Go.L.Qv.mk (0:Int) ([]) ([]:AaK) ([]) (0:Int) (0:Int) ([])),(a.1,a.2)))
theorem Nc{a w:World}{H:PH}(hH:Le H (hp a)){O:List BG}{a0:Go.L.Qv}{a1:Int×Int}{ba0:Nat}{va0_1:Value}{xsa0_1:List Value}{va0_3:Value}{xsa0_3:List Value}{va0_6:Value}{xsa0_6:List Value}{ba1:Nat}(hL:AO a (Ha [.box ba0 [No a0.f.1,va0_1,AaJ a0.f.2.2.1,va0_3,No a0.f.2.2.2.2.1,No a0.f.2.2.2.2.2.1,va0_6] 26,.row (va0_1) 9 1 (a0.f.2.1).length (xsa0_1),.row (va0_3) 5 1 (a0.f.2.2.2.1).length (xsa0_3),.row (va0_6) 26 7 (a0.f.2.2.2.2.2.2).length (xsa0_6),.box ba1 [No a1.1,No a1.2] 28] O) w)(_hea0_1:AJ .st (gz H a w (Ha [.box ba0 [No a0.f.1,va0_1,AaJ a0.f.2.2.1,va0_3,No a0.f.2.2.2.2.1,No a0.f.2.2.2.2.2.1,va0_6] 26,.row (va0_1) 9 1 (a0.f.2.1).length (xsa0_1),.row (va0_3) 5 1 (a0.f.2.2.2.1).length (xsa0_3),.row (va0_6) 26 7 (a0.f.2.2.2.2.2.2).length (xsa0_6),.box ba1 [No a1.1,No a1.2] 28] O)) (a0.f.2.1) xsa0_1)(_hea0_3:AJ .byte (gz H a w (Ha [.box ba0 [No a0.f.1,va0_1,AaJ a0.f.2.2.1,va0_3,No a0.f.2.2.2.2.1,No a0.f.2.2.2.2.2.1,va0_6] 26,.row (va0_1) 9 1 (a0.f.2.1).length (xsa0_1),.row (va0_3) 5 1 (a0.f.2.2.2.1).length (xsa0_3),.row (va0_6) 26 7 (a0.f.2.2.2.2.2.2).length (xsa0_6),.box ba1 [No a1.1,No a1.2] 28] O)) (a0.f.2.2.2.1) xsa0_3)(_hea0_6:AJ .Bc (gz H a w (Ha [.box ba0 [No a0.f.1,va0_1,AaJ a0.f.2.2.1,va0_3,No a0.f.2.2.2.2.1,No a0.f.2.2.2.2.2.1,va0_6] 26,.row (va0_1) 9 1 (a0.f.2.1).length (xsa0_1),.row (va0_3) 5 1 (a0.f.2.2.2.1).length (xsa0_3),.row (va0_6) 26 7 (a0.f.2.2.2.2.2.2).length (xsa0_6),.box ba1 [No a1.1,No a1.2] 28] O)) (a0.f.2.2.2.2.2.2) xsa0_6){r:Go.L.Qv×(Int×Int)}(h:Ho a0 a1=some r):
  OkF Tryz.prog 38 [AaH ba0,AaH ba1] (.panicking (X4 (.iface 82 (.agg #[])))) (.panicking (WL (.iface 82 (.agg #[])))) w (fun w'=>∃ (b:Value) (c:Value) (d:Value),AO a (Ha [.box ba0 [No r.1.f.1,b,AaJ r.1.f.2.2.1,c,No r.1.f.2.2.2.2.1,No r.1.f.2.2.2.2.2.1,d] 26,.box ba1 [No r.2.1,No r.2.2] 28] O) w'∧Le (fz w (Ha [.box ba0 [No a0.f.1,va0_1,AaJ a0.f.2.2.1,va0_3,No a0.f.2.2.2.2.1,No a0.f.2.2.2.2.2.1,va0_6] 26,.row (va0_1) 9 1 (a0.f.2.1).length (xsa0_1),.row (va0_3) 5 1 (a0.f.2.2.2.1).length (xsa0_3),.row (va0_6) 26 7 (a0.f.2.2.2.2.2.2).length (xsa0_6),.box ba1 [No a1.1,No a1.2] 28] O)) (fz w' (Ha [.box ba0 [No r.1.f.1,b,AaJ r.1.f.2.2.1,c,No r.1.f.2.2.2.2.1,No r.1.f.2.2.2.2.2.1,d] 26,.box ba1 [No r.2.1,No r.2.2] 28] O))∧AI .st (gz H a w' (Ha [.box ba0 [No r.1.f.1,b,AaJ r.1.f.2.2.1,c,No r.1.f.2.2.2.2.1,No r.1.f.2.2.2.2.2.1,d] 26,.box ba1 [No r.2.1,No r.2.2] 28] O)) b (r.1.f.2.1)∧AI .byte (gz H a w' (Ha [.box ba0 [No r.1.f.1,b,AaJ r.1.f.2.2.1,c,No r.1.f.2.2.2.2.1,No r.1.f.2.2.2.2.2.1,d] 26,.box ba1 [No r.2.1,No r.2.2] 28] O)) c (r.1.f.2.2.2.1)∧AI .Bc (gz H a w' (Ha [.box ba0 [No r.1.f.1,b,AaJ r.1.f.2.2.1,c,No r.1.f.2.2.2.2.1,No r.1.f.2.2.2.2.2.1,d] 26,.box ba1 [No r.2.1,No r.2.2] 28] O)) d (r.1.f.2.2.2.2.2.2)):=by
 refine PA (pv:=.iface 82 (.agg #[])) (k:=16) [(0,(AaH ba0)),(1,(AaH ba1))] func38 rfl rfl rfl rfl rfl rfl rfl .yes (Ad rfl) ?_;have hT:=Le.refl (fz w (Ha [.box ba0 [No a0.f.1,va0_1,AaJ a0.f.2.2.1,va0_3,No a0.f.2.2.2.2.1,No a0.f.2.2.2.2.2.1,va0_6] 26,.row (va0_1) 9 1 (a0.f.2.1).length (xsa0_1),.row (va0_3) 5 1 (a0.f.2.2.2.1).length (xsa0_3),.row (va0_6) 26 7 (a0.f.2.2.2.2.2.2).length (xsa0_6),.box ba1 [No a1.1,No a1.2] 28] O));refine Bk 1 rfl<|Ae (XR rfl Adh) rfl<|Ac<|Cy rfl<|Bk 1 rfl<|Ae (Yr rfl Ada rfl) rfl<|Aq 3 rfl<|AG ZU rfl rfl hL fun w2 b2 q g _=>Aj 0 rfl rfl rfl ZU q rfl rfl Cj fun w3 e j=>AA 1 rfl<|A9 1 rfl<|Cy rfl ?_;refine Ar<|Ae (AZ rfl (fun _=>T5 _)) rfl ?_;refine Ax h fun x4 s h=>?_;refine AF rfl rfl e (EJ _ _ (As hH e) s) fun w5 z t l=>Aj 1 rfl rfl rfl Bh t rfl rfl (AH rfl (AH rfl (AH rfl (AH rfl (AH rfl (AH rfl (AH rfl Cj))))))) fun w6 u m=>Aj 5 rfl rfl rfl AR u rfl rfl (AH rfl (AH rfl Cj)) fun w7 v n=>AL ?_
 cases h
 refine Ju rfl ?_;have x:=v.AP (i:=0) rfl;have y:=x.AP (i:=1) rfl;have o:=y.AP (i:=1) rfl;have p:=o.AP (i:=1) rfl;have hT:=hT.trans (g.trans (j.trans (l.trans (m.trans (n.trans ((Al (i:=0) rfl).trans ((Al (i:=1) rfl).trans ((Al (i:=1) rfl).trans (Al (i:=1) rfl)))))))));exact⟨Aat,Aat,Aat,p,hT,(AI.nil _ _),(AI.nil _ _),(AI.nil _ _)⟩
def FO(_a0:Go.L.Qv)(_a1:Int×Int):Option (Go.L.Qv×(Int×Int)):=
 Option.bind (Ek (1:Int) (-1:Int)) (fun a=>some ((Go.L.Qv.mk (0:Int) ([]) ([]:AaK) ([]) (0:Int) (0:Int) ([])),(a.1,a.2)))
theorem LQ{a w:World}{H:PH}(hH:Le H (hp a)){O:List BG}{a0:Go.L.Qv}{a1:Int×Int}{ba0:Nat}{va0_1:Value}{va0_3:Value}{va0_6:Value}{ba1:Nat}(hL:AO a (Ha [.box ba0 [No a0.f.1,va0_1,AaJ a0.f.2.2.1,va0_3,No a0.f.2.2.2.2.1,No a0.f.2.2.2.2.2.1,va0_6] 26,.box ba1 [No a1.1,No a1.2] 28] O) w)(_ha0_1:AI .st (gz H a w (Ha [.box ba0 [No a0.f.1,va0_1,AaJ a0.f.2.2.1,va0_3,No a0.f.2.2.2.2.1,No a0.f.2.2.2.2.2.1,va0_6] 26,.box ba1 [No a1.1,No a1.2] 28] O)) va0_1 (a0.f.2.1))(_ha0_3:AI .byte (gz H a w (Ha [.box ba0 [No a0.f.1,va0_1,AaJ a0.f.2.2.1,va0_3,No a0.f.2.2.2.2.1,No a0.f.2.2.2.2.2.1,va0_6] 26,.box ba1 [No a1.1,No a1.2] 28] O)) va0_3 (a0.f.2.2.2.1))(_ha0_6:AI .Bc (gz H a w (Ha [.box ba0 [No a0.f.1,va0_1,AaJ a0.f.2.2.1,va0_3,No a0.f.2.2.2.2.1,No a0.f.2.2.2.2.2.1,va0_6] 26,.box ba1 [No a1.1,No a1.2] 28] O)) va0_6 (a0.f.2.2.2.2.2.2)){r:Go.L.Qv×(Int×Int)}(h:FO a0 a1=some r):
  OkF Tryz.prog 38 [AaH ba0,AaH ba1] (.panicking (X4 (.iface 82 (.agg #[])))) (.panicking (WL (.iface 82 (.agg #[])))) w (fun w'=>∃ (b:Value) (c:Value) (d:Value),AO a (Ha [.box ba0 [No r.1.f.1,b,AaJ r.1.f.2.2.1,c,No r.1.f.2.2.2.2.1,No r.1.f.2.2.2.2.2.1,d] 26,.box ba1 [No r.2.1,No r.2.2] 28] O) w'∧Le (fz w (Ha [.box ba0 [No a0.f.1,va0_1,AaJ a0.f.2.2.1,va0_3,No a0.f.2.2.2.2.1,No a0.f.2.2.2.2.2.1,va0_6] 26,.box ba1 [No a1.1,No a1.2] 28] O)) (fz w' (Ha [.box ba0 [No r.1.f.1,b,AaJ r.1.f.2.2.1,c,No r.1.f.2.2.2.2.1,No r.1.f.2.2.2.2.2.1,d] 26,.box ba1 [No r.2.1,No r.2.2] 28] O))∧AI .st (gz H a w' (Ha [.box ba0 [No r.1.f.1,b,AaJ r.1.f.2.2.1,c,No r.1.f.2.2.2.2.1,No r.1.f.2.2.2.2.2.1,d] 26,.box ba1 [No r.2.1,No r.2.2] 28] O)) b (r.1.f.2.1)∧AI .byte (gz H a w' (Ha [.box ba0 [No r.1.f.1,b,AaJ r.1.f.2.2.1,c,No r.1.f.2.2.2.2.1,No r.1.f.2.2.2.2.2.1,d] 26,.box ba1 [No r.2.1,No r.2.2] 28] O)) c (r.1.f.2.2.2.1)∧AI .Bc (gz H a w' (Ha [.box ba0 [No r.1.f.1,b,AaJ r.1.f.2.2.1,c,No r.1.f.2.2.2.2.1,No r.1.f.2.2.2.2.2.1,d] 26,.box ba1 [No r.2.1,No r.2.2] 28] O)) d (r.1.f.2.2.2.2.2.2)):=by
 refine PA (pv:=.iface 82 (.agg #[])) (k:=16) [(0,(AaH ba0)),(1,(AaH ba1))] func38 rfl rfl rfl rfl rfl rfl rfl .yes (Ad rfl) ?_;have hT:=Le.refl (fz w (Ha [.box ba0 [No a0.f.1,va0_1,AaJ a0.f.2.2.1,va0_3,No a0.f.2.2.2.2.1,No a0.f.2.2.2.2.2.1,va0_6] 26,.box ba1 [No a1.1,No a1.2] 28] O));refine Bk 1 rfl<|Ae (XR rfl Adh) rfl<|Ac<|Cy rfl<|Bk 1 rfl<|Ae (Yr rfl Ada rfl) rfl<|Aq 3 rfl<|AG ZU rfl rfl hL fun x y o g _=>Aj 0 rfl rfl rfl ZU o rfl rfl Cj fun z e j=>AA 1 rfl<|A9 1 rfl<|Cy rfl ?_;refine Ar<|Ae (AZ rfl (fun _=>T5 _)) rfl ?_;refine Ax h fun x4 p h=>?_;refine AF rfl rfl e (EJ _ _ (As hH e) p) fun w5 v q l=>Aj 1 rfl rfl rfl Bh q rfl rfl (AH rfl (AH rfl (AH rfl (AH rfl (AH rfl (AH rfl (AH rfl Cj))))))) fun w6 s m=>Aj 2 rfl rfl rfl AR s rfl rfl (AH rfl (AH rfl Cj)) fun w7 t n=>AL ?_
 cases h
 refine Ju rfl ?_;have u:=t.AP (i:=0) rfl;have hT:=hT.trans (g.trans (j.trans (l.trans (m.trans (n.trans (Al (i:=0) rfl))))));exact⟨Aat,Aat,Aat,u,hT,(AI.nil _ _),(AI.nil _ _),(AI.nil _ _)⟩
def HN(a0:Go.L.Qv)(a1:Int×Int):Option (Go.L.Qv×(Int×Int)):=
 some (a0,(a1.1,a1.2))
theorem NL{a w:World}{H:PH}(_hH:Le H (hp a)){O:List BG}{a0:Go.L.Qv}{a1:Int×Int}{ba0:Nat}{va0_1:Value}{va0_3:Value}{va0_6:Value}{ba1:Nat}(hL:AO a (Ha [.box ba0 [No a0.f.1,va0_1,AaJ a0.f.2.2.1,va0_3,No a0.f.2.2.2.2.1,No a0.f.2.2.2.2.2.1,va0_6] 26,.box ba1 [No a1.1,No a1.2] 28] O) w)(g:AI .st (gz H a w (Ha [.box ba0 [No a0.f.1,va0_1,AaJ a0.f.2.2.1,va0_3,No a0.f.2.2.2.2.1,No a0.f.2.2.2.2.2.1,va0_6] 26,.box ba1 [No a1.1,No a1.2] 28] O)) va0_1 (a0.f.2.1))(i:AI .byte (gz H a w (Ha [.box ba0 [No a0.f.1,va0_1,AaJ a0.f.2.2.1,va0_3,No a0.f.2.2.2.2.1,No a0.f.2.2.2.2.2.1,va0_6] 26,.box ba1 [No a1.1,No a1.2] 28] O)) va0_3 (a0.f.2.2.2.1))(j:AI .Bc (gz H a w (Ha [.box ba0 [No a0.f.1,va0_1,AaJ a0.f.2.2.1,va0_3,No a0.f.2.2.2.2.1,No a0.f.2.2.2.2.2.1,va0_6] 26,.box ba1 [No a1.1,No a1.2] 28] O)) va0_6 (a0.f.2.2.2.2.2.2)){r:Go.L.Qv×(Int×Int)}(h:HN a0 a1=some r):
  OkF Tryz.prog 38 [AaH ba0,AaH ba1] .returning .returning w (fun w'=>∃ (b:Value) (c:Value) (d:Value),AO a (Ha [.box ba0 [No r.1.f.1,b,AaJ r.1.f.2.2.1,c,No r.1.f.2.2.2.2.1,No r.1.f.2.2.2.2.2.1,d] 26,.box ba1 [No r.2.1,No r.2.2] 28] O) w'∧Le (fz w (Ha [.box ba0 [No a0.f.1,va0_1,AaJ a0.f.2.2.1,va0_3,No a0.f.2.2.2.2.1,No a0.f.2.2.2.2.2.1,va0_6] 26,.box ba1 [No a1.1,No a1.2] 28] O)) (fz w' (Ha [.box ba0 [No r.1.f.1,b,AaJ r.1.f.2.2.1,c,No r.1.f.2.2.2.2.1,No r.1.f.2.2.2.2.2.1,d] 26,.box ba1 [No r.2.1,No r.2.2] 28] O))∧AI .st (gz H a w' (Ha [.box ba0 [No r.1.f.1,b,AaJ r.1.f.2.2.1,c,No r.1.f.2.2.2.2.1,No r.1.f.2.2.2.2.2.1,d] 26,.box ba1 [No r.2.1,No r.2.2] 28] O)) b (r.1.f.2.1)∧AI .byte (gz H a w' (Ha [.box ba0 [No r.1.f.1,b,AaJ r.1.f.2.2.1,c,No r.1.f.2.2.2.2.1,No r.1.f.2.2.2.2.2.1,d] 26,.box ba1 [No r.2.1,No r.2.2] 28] O)) c (r.1.f.2.2.2.1)∧AI .Bc (gz H a w' (Ha [.box ba0 [No r.1.f.1,b,AaJ r.1.f.2.2.1,c,No r.1.f.2.2.2.2.1,No r.1.f.2.2.2.2.2.1,d] 26,.box ba1 [No r.2.1,No r.2.2] 28] O)) d (r.1.f.2.2.2.2.2.2)):=by
 refine PA (pv:=.iface 82 (.agg #[])) (k:=16) [(0,(AaH ba0)),(1,(AaH ba1))] func38 rfl rfl rfl rfl rfl rfl rfl .no (Ad rfl) ?_;have hT:=Le.refl (fz w (Ha [.box ba0 [No a0.f.1,va0_1,AaJ a0.f.2.2.1,va0_3,No a0.f.2.2.2.2.1,No a0.f.2.2.2.2.2.1,va0_6] 26,.box ba1 [No a1.1,No a1.2] 28] O));have e:=hL.rG H;refine Bk 1 rfl<|Ae (AaQ rfl Adh) rfl<|Ac<|Cw rfl<|Au ?_
 cases h
 refine Ju rfl ?_;exact⟨va0_1,va0_3,va0_6,hL,hT,(g.mono e),(i.mono e),(j.mono e)⟩
def IZ(y22:Go.L.Qv×(AaK×Int)):Option (Go.L.Qv×(Int×Int)):=
 Option.bind (HN y22.1 ((0:Int),(0:Int))) (fun a=>some (a.1,(a.2.1,a.2.2)))
def Gn(a0:AaK):Option (Go.L.Qv×(Int×Int)):=
 if(200:Int)<(a0.length:Int) then Option.bind (Ek (3:Int) (-1:Int)) (fun d=>some ((Go.L.Qv.mk (0:Int) ([]) ([]:AaK) ([]) (0:Int) (0:Int) ([])),(d.1,d.2))) else Option.bind (C8 Gk (a0,(0:Int))) (fun e=>P9 e (Option.bind (Ho (Go.L.Qv.mk (0:Int) ([]:List AaK) ([]:AaK) ([]:AaK) (0:Int) (0:Int) ([]:List Go.L.Qv)) ((0:Int),(0:Int))) (fun a=>some (a.1,(a.2.1,a.2.2)))) (fun y22=>Option.bind (DP y22.1) (fun b=>if(((!decide (b.2.1=(0:Int)∧b.2.2=(0:Int)))||(!decide (y22.2.1=([]:AaK))))||(!decide (b.1=a0))) then Option.bind (FO y22.1 ((0:Int),(0:Int))) (fun c=>some (c.1,(c.2.1,c.2.2))) else(IZ y22))))
theorem K0(w:World)(H:PH)(hH:Le H (hp w))(hU:D9 H){a0:AaK}{r:Go.L.Qv×(Int×Int)}(h:Gn a0=some r):
  Ok Tryz.prog 15 [AaJ a0] w (fun v w'=>Ext w w'∧∃ u0 u1 u2,v=.tuple #[.agg #[No r.1.f.1,u0,AaJ r.1.f.2.2.1,u1,No r.1.f.2.2.2.2.1,No r.1.f.2.2.2.2.2.1,u2],.agg #[No r.2.1,No r.2.2]]∧AI .st (un H (nw w w')) u0 (r.1.f.2.1)∧AI .byte (un H (nw w w')) u1 (r.1.f.2.2.2.1)∧AI .Bc (un H (nw w w')) u2 (r.1.f.2.2.2.2.2.2)):=by
 refine WM (n:=42) [(0,(AaJ a0))] func15 rfl rfl rfl rfl rfl ?_;have hL:=AO.start w;refine Ak<|AG Bh rfl rfl hL fun w1 b1 b6 ct _=>AG AR rfl rfl b6 fun w2 b2 ar cu _=>Ac<|A7<|Bk 1 rfl<|Ae (De rfl Abb) rfl<|AA 1 rfl<|AM rfl h (fun b7 h=>?_) (fun b7 h=>?_)
 ·refine Ak<|Ae (AZ rfl (fun _=>T5 _)) rfl ?_;refine Ax h fun x5 b8 h=>?_;refine AF rfl rfl ar (EJ _ _ (As hH ar) b8) fun w6 c0 b9 cv=>Aj 1 rfl rfl rfl Bh b9 rfl rfl (AH rfl (AH rfl (AH rfl (AH rfl (AH rfl (AH rfl (AH rfl Cj))))))) fun w7 ca cw=>Aj 0 rfl rfl rfl AR ca rfl rfl (AH rfl (AH rfl Cj)) fun w8 au cx=>Ac<|Ay<|Av ?_
  cases h
  refine XS<|C9 rfl (.cell rfl AbP rfl Bh (AT (i:=1) au rfl)) (.cell rfl Abs rfl AR (AT (i:=0) au rfl)) ?_;exact⟨au.ext,_,_,_,rfl,(AI.nil _ _),(AI.nil _ _),(AI.nil _ _)⟩
 refine Au<|Ao<|Bk 1 rfl<|ZI rfl<|Ac<|Bk 1 rfl<|Ae (AZ rfl (fun _=>ZY _ rfl _)) rfl<|CK (t:=86) rfl rfl rfl ar fun c1 z bl cd _=>AA 1 rfl<|Bk 1 rfl ?_;refine Ax h fun c2 bm h=>?_;refine Fz rfl rfl (J5 (hself:=NC) (a0:=(a0,(0:Int))) (O:=[.box b2 [No (0:Int),No (0:Int)] 28,.box b1 [No (0:Int),Aat,.string ⟨(([]:AaK)).toArray⟩,Aat,No (0:Int),No (0:Int),Aat] 26]) hH hU bl bm) ?_ ?_
 ·rintro rfl bj ⟨bn,ce⟩;have h:=DB h;refine B0 ?_;obtain⟨bo,cf,af⟩:=CB .st H 9 bn;obtain⟨bp,be,ag⟩:=CB .byte H 5 bo;obtain⟨av,an,ah⟩:=CB .Bc H 26 bp;have ai:AO w [.row (Aat) 9 1 (([]:List AaK)).length ([]),.row (Aat) 5 1 (([]:AaK)).length ([]),.row (Aat) 26 7 (([]:List Go.L.Qv)).length ([]),.box b2 [No (0:Int),No (0:Int)] 28,.box b1 [No (0:Int),Aat,.string ⟨(([]:AaK)).toArray⟩,Aat,No (0:Int),No (0:Int),Aat] 26] bj:=av.C5 [1,2] rfl;have q:=B6 [1,2] av ai rfl;have aw:AO w [.box b1 [No (0:Int),Aat,.string ⟨(([]:AaK)).toArray⟩,Aat,No (0:Int),No (0:Int),Aat] 26,.row (Aat) 9 1 (([]:List AaK)).length ([]),.row (Aat) 5 1 (([]:AaK)).length ([]),.row (Aat) 26 7 (([]:List Go.L.Qv)).length ([]),.box b2 [No (0:Int),No (0:Int)] 28] bj:=ai.C5 [4] rfl;have u:=B6 [4] ai aw rfl;refine Ax h fun c3 bq h=>?_;have af:=af.mono (Ab hH (be.trans (an.trans (q.trans u))));have ag:=ag.mono (Ab hH (an.trans (q.trans u)))
  have ah:=ah.mono (Ab hH (q.trans u));refine Wb (Nc (a0:=(Go.L.Qv.mk (0:Int) ([]:List AaK) ([]:AaK) ([]:AaK) (0:Int) (0:Int) ([]:List Go.L.Qv))) (a1:=((0:Int),(0:Int))) (O:=[]) hH aw af ag ah bq) ?_;rintro c4 ⟨cg,ch,ci,aj,cj,ax,ay,a2⟩ az frz
  cases h
  exact⟨_,Rr rfl (.cell rfl AbP rfl Bh (AT (i:=0) aj rfl)) (.cell rfl Abs rfl AR (AT (i:=1) aj rfl)) frz,aj.ext,_,_,_,rfl,(ax.mono (Dm hH)),(ay.mono (Dm hH)),(a2.mono (Dm hH))⟩
 rintro y22 rfl _ c5 ⟨l,m,o,rfl,br,ck,c,d,e⟩;have h:=DC h;refine Aj 2 rfl rfl rfl Bh br rfl rfl (AH rfl (AH c.one (AH rfl (AH d.one (AH rfl (AH rfl (AH e.one Cj))))))) fun c6 x y=>Ac<|Bn (σ:=Unit) (fun(_:Unit)=>[(2,(AaH b1)),(3,(AaH b2))]) (fun(_:Unit) wr=>DZ w [.box z [AaJ y22.2.1,No y22.2.2] 86,.box b2 [No (0:Int),No (0:Int)] 28,.box b1 [No y22.1.f.1,l,AaJ y22.1.f.2.2.1,m,No y22.1.f.2.2.2.2.1,No y22.1.f.2.2.2.2.2.1,o] 26] wr fun Oz=>AI .st (gz H w wr Oz) (l) (y22.1.f.2.1)∧AI .byte (gz H w wr Oz) (m) (y22.1.f.2.2.2.1)∧AI .Bc (gz H w wr Oz) (o) (y22.1.f.2.2.2.2.2.2)∧(IZ y22)=some r) ?_ ?_
 ·have a:=x.rG H;refine Ak<|Ae (AE 2 rfl AbP rfl Bh x rfl) rfl ?_;refine Ax h fun k bs h=>?_;have c:=c.mono (Ab hH y);have d:=d.mono (Ab hH y);have e:=e.mono (Ab hH y);refine AF rfl rfl x (Hv (a0:=y22.1) _ _ (As hH x) (hU.mono (Ah hH)) (c.mono a) (d.mono a) (e.mono a) bs) fun c7 cy bt ao=>Aq 3 rfl<|AG AR rfl rfl bt fun c8 bk bu ap _=>Aq 1 rfl<|Aj 0 rfl rfl rfl AR bu rfl rfl (AH rfl (AH rfl Cj)) fun cb p aq=>Ac<|Ak<|Ae (AE 0 rfl Abs rfl AR p rfl) rfl<|Ae (AZ rfl (fun _=>BY _)) rfl<|Ae (JG rfl rfl I6 (Lp _ _ _ _)) rfl<|Aq 1 rfl<|G9 6 32 (.bool ((!decide (k.2.1=(0:Int)∧k.2.2=(0:Int)))||(!decide (y22.2.1=([]:AaK))))) (fun a3=>?_) ?_
  ·refine AQ (s:=26) rfl (fun b=>?_) (fun b=>?_)
   ·iterate 5 refine Ai rfl rfl b rfl ?_
    refine Ae (A1 rfl b rfl) rfl<|a3.to 5 (O9 b) rfl rfl
   refine Aa rfl rfl b<|Ae (Ad rfl) rfl<|Aa rfl rfl b<|Ae (C4 rfl) rfl<|Aa rfl rfl b<|Ae (Af rfl AcW rfl Fu (by decide)) rfl<|Aa rfl rfl b<|Ae (Ag 1 rfl Abb rfl p rfl rfl) rfl<|Aa rfl rfl b<|Ae (ML rfl rfl) rfl<|Ae (A3 rfl b rfl) rfl<|a3.to 5 (OA b) rfl rfl
  refine Aq 1 rfl<|G9 4 37 (.bool (((!decide (k.2.1=(0:Int)∧k.2.2=(0:Int)))||(!decide (y22.2.1=([]:AaK))))||(!decide (k.1=a0)))) (fun a4=>?_) ?_
  ·refine AQ (s:=33) rfl (fun g=>?_) (fun g=>?_)
   ·iterate 3 refine Ai rfl rfl g rfl ?_
    refine Ae (A1 rfl g rfl) rfl<|a4.to 3 (O9 g) rfl rfl
   refine Aa rfl rfl g<|Ae (Ad rfl) rfl<|Aa rfl rfl g<|Ae (Ad rfl) rfl<|Aa rfl rfl g<|Ae (ML rfl rfl) rfl<|Ae (A3 rfl g rfl) rfl<|a4.to 3 (OA g) rfl rfl
  refine Ac<|Bl rfl h (fun bv h=>?_) (fun bv h=>?_)
  ·refine Ar<|Ae (AZ rfl (fun _=>NV _)) rfl<|Ae (SA rfl Ada rfl) rfl<|NP rfl rfl<|EW ?_;have a5:AO w [.box b1 [No y22.1.f.1,l,AaJ y22.1.f.2.2.1,m,No y22.1.f.2.2.2.2.1,No y22.1.f.2.2.2.2.2.1,o] 26,.box b2 [No (0:Int),No (0:Int)] 28,.box bk [No k.2.1,No k.2.2] 28,.box z [AaJ y22.2.1,No y22.2.2] 86] cb:=p.C5 [2,3] rfl;have bf:=B6 [2,3] p a5 rfl;refine Ax h fun c9 bw h=>?_;have a:=a.trans (Ab hH (ao.trans (ap.trans (aq.trans bf))));refine Wb (LQ (a0:=y22.1) (a1:=((0:Int),(0:Int))) (O:=[.box bk [No k.2.1,No k.2.2] 28,.box z [AaJ y22.2.1,No y22.2.2] 86]) hH a5 (c.mono a) (d.mono a) (e.mono a) bw) ?_;rintro da ⟨cl,cm,cn,ak,co,a6,a7,a8⟩ az frz
   cases h
   exact⟨_,Rr rfl (.cell rfl AbP rfl Bh (AT (i:=0) ak rfl)) (.cell rfl Abs rfl AR (AT (i:=1) ak rfl)) frz,ak.ext,_,_,_,rfl,(a6.mono (Dm hH)),(a7.mono (Dm hH)),(a8.mono (Dm hH))⟩
  refine Au ?_;have bx:=p.AP (i:=0) rfl;have a:=a.trans (Ab hH (ao.trans (ap.trans (aq.trans (Al (i:=0) rfl)))));refine A6 () (Sub.of rfl) ⟨bx,(c.mono a),(d.mono a),(e.mono a),h⟩
 rintro _ cz ⟨al,aa,ab,ac,h⟩;have j:=al.rG H;refine Ak<|Ae (AE 2 rfl AbP rfl Bh al rfl) rfl<|Ae (AZ rfl (fun _=>BY _)) rfl<|Aj 2 rfl rfl rfl Bh al rfl rfl (AH rfl (AH (aa.mono j).one (AH rfl (AH (ab.mono j).one (AH rfl (AH rfl (AH (ac.mono j).one Cj))))))) fun db bz bg=>Aj 1 rfl rfl rfl AR bz rfl rfl (AH rfl (AH rfl Cj)) fun cc a9 bh=>Ac<|Ay ?_;have ba:AO w [.box b1 [No y22.1.f.1,l,AaJ y22.1.f.2.2.1,m,No y22.1.f.2.2.2.2.1,No y22.1.f.2.2.2.2.2.1,o] 26,.box b2 [No (0:Int),No (0:Int)] 28,.box z [AaJ y22.2.1,No y22.2.2] 86] cc:=a9.C5 [1,2] rfl;have bi:=B6 [1,2] a9 ba rfl;refine Ax h fun dc b0 h=>?_;have j:=j.trans (Ab hH (bg.trans (bh.trans bi)));refine ZJ (NL (a0:=y22.1) (a1:=((0:Int),(0:Int))) (O:=[.box z [AaJ y22.2.1,No y22.2.2] 86]) hH ba (aa.mono j) (ab.mono j) (ac.mono j) b0) ?_;rintro dd ⟨cp,cq,cr,am,cs,bb,bc,bd⟩ az frz
 cases h
 exact⟨_,Rr rfl (.cell rfl AbP rfl Bh (AT (i:=0) am rfl)) (.cell rfl Abs rfl AR (AT (i:=1) am rfl)) frz,am.ext,_,_,_,rfl,(bb.mono (Dm hH)),(bc.mono (Dm hH)),(bd.mono (Dm hH))⟩
end Go.Proofs.YtekmbcbgknmhiaaGreatDoor
end
