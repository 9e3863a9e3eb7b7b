/- Contracts, part 2. -/
import Derived.Test.YthflgdphhajkbaaGreatF1
set_option linter.unusedVariables false
set_option linter.unusedSimpArgs false
set_option linter.unusedSectionVars false
open Nat (reduceEqDiff reduceAdd reduceMul reduceLeDiff reduceLT)
namespace Go.Proofs.Shf
open Go.AW Go.Proofs Go.Shf
theorem fK (B : Nat) (c : B0) (L : List (List (List Int))) (t : Dt c L) (M : List (List Bool)) (hM : DV L M) : PB B 258 [.agg (BE c L),uW M] (.bool (dec (ZL c L M))):=by
 refine ⟨fun H0=>um.go fun ⟨_,hfM,_⟩=>?_⟩
 have Dz:=hM.len
 have Fh:=t.is.1.o
 have VI:=t.len;refine tt ?_;refine Ae (CQ (α:=Bool)) (.nil _) fun id H o=>tt ?_;refine AD [1,2] (G:=Nat × List (Nat × List Bool)) (fun k g=>[(5,some (.buf g.1 g.2.length)),(6,some (.int .i64 (k : Int)))]) (fun k g H=>g.2.map Prod.snd=M.take k∧AB H0 H ((g.1,.cells 1 (g.2.map CQ) 0)::(inner AV.bool g.2++[]))) M.length (id,[]) ⟨by simp,o⟩ rfl ?_
 rintro k ⟨id,ms⟩ H hk ⟨Jo,o⟩;dsimp only at Jo o
 have KF : ms.length=k:=by have:=congrArg List.length Jo; rw [List.length_map,List.length_take] at this; omega
 refine tt ?_;apply bk <;> intro h1
 ·refine tt ?_
  have AU:=dd h1
  have w1:=ws k
  have B4:=hM.row k (by omega)
  have Bf:=t.YH k (by omega);refine Ae AV.bool o fun BW H o=>tt ?_;refine ⟨AU, ?_⟩;refine Eg (f:=AV.bool) o rfl (by simp only [AK,List.length_nil]; omega) fun BW H o=>?_;rw [List.nil_append] at *;refine tt ?_;refine Ac (f:=CQ) (BW,M.getD k default) o.swap rfl rfl (by simp only [AK]; omega) fun id H o=>?_;refine tw w1 ?_;refine A5 (_,_) (by omega) ⟨by rw [List.map_append,Jo,D8 M AU]; rfl,o.perm ?_⟩ rfl;refine List.Perm.cons _ ?_;rw [inner,inner,List.map_append,List.append_nil,List.append_nil];exact (List.perm_append_comm (l₁:=[_])).trans (by simp)
 ·refine tt ?_
  have AU:=dd h1
  obtain rfl : k=M.length:=by omega
  rw [List.take_length] at Jo;refine (Wt B c L t ms (by rw [Jo]; exact hM) id H0 H [] o).mono ?_
  rintro r H' ⟨rfl,rfl⟩;refine tt ?_;refine A6 ?_ (.refl _);rw [Jo]
  congr 1
  by_cases h : ZL c L M
  ·rw [Ay h,Ab (by simpa using h)]; rfl
  ·rw [Ab h,Ay h]; rfl
theorem TI (B : Nat) (c : B0) (L : List (List (List Int))) (t : Dt c L) (C : List (List (List Int))) (hC : C.length=L.length) (hm : ∀ x : Nat,x<L.length→∀ s,s∈C.getD x default→s∈L.getD x default) :
  PB B 295 [.agg (BE c L),Gi C] (uW (marksOf L C)):=by
 refine ⟨fun H0=>vY.go fun ⟨_,hfC,_⟩=>?_⟩
 have Fh:=t.is.1.o
 have VI:=t.len;refine tt ?_;refine Ae bL (.nil _) fun id H o=>tt ?_;refine AD [1,2] (G:=Nat × List (List Bool)) (fun k g=>[(5,some (.buf g.1 g.2.length)),(6,some (.int .i64 (k : Int)))]) (fun k g H=>g.2=(List.range k).map (Ka L C)∧AB H0 H [(g.1,.cells 1 (g.2.map bL) 0)]) L.length (id,[]) ⟨rfl,o⟩ rfl ?_
 rintro k ⟨id,out⟩ H hk ⟨Av,o⟩;dsimp only at Av
 have V8 : out.length=k:=by rw [Av]; simp
 refine tt ?_;apply bk <;> intro h1
 ·refine tt ?_
  have AU:=dd h1
  have w1:=ws k
  have Bf:=t.YH k AU;refine ⟨AU,⟨by omega,by simp only [AK]; omega⟩,DL AV.bool false rfl o fun BW H o=>?_⟩;refine tt ?_;refine AD [1,2,5,6,7] (fun j _=>[(8,some (.int .i64 (j : Int)))]) (fun j A H=>PA (L.getD k default) (C.getD k default) j A∧AB H0 H [(BW,.cells 1 (A.map AV.bool) 0),(id,.cells 1 (out.map bL) 0)]) (C.getD k default).length _ ⟨PA.zero _ _,o⟩ rfl ?_
  rintro j A H hj ⟨hI,o⟩
  have Lt:=hI.1
  have NV : (C.getD k default).length≤AK:=AL (by have:=IF (i:=(k : Int)) hfC (by rw [HZ]; omega); rw [AJ] at this; exact this);simp only [AK] at NV;refine tt ?_;refine ⟨by omega, ?_⟩;apply bk <;> intro h2
  ·refine tt ?_
   have Ah:=dd h2
   have w2:=ws j
   have CH : (C.getD k default).getD j default∈L.getD k default:=hm k AU _ (AE.mpr ⟨j,Ah,rfl⟩)
   have hi:=B3 CH;refine ⟨AU,by omega,Ah,_,(Hm ..).run,tt ?_⟩;refine ⟨⟨hi.1,by omega⟩,C4 true o rfl (by omega) fun H o=>?_⟩;refine tw w2 ?_;exact A5 _ (by omega) ⟨hI.step (t.all k AU).nodup CH,o⟩ rfl
  ·refine tt ?_
   have Ah:=dd h2
   obtain rfl : j=(C.getD k default).length:=by omega
   rw [← Lt];refine Ak o rfl fun H o=>tt ?_;refine Ac A o rfl rfl (by simp only [AK]; omega) fun id H o=>?_;refine tw w1 ?_;exact A5 (_,_) (by omega) ⟨by rw [Bg,← Av,hI.done]; rfl,o⟩ rfl
 ·refine tt ?_
  have AU:=dd h1;refine Ak o rfl fun H o=>tt ?_;exact A6 (by rw [Av,show k=L.length by omega]; rfl) o.sub
theorem FT (B : Nat) (j : Df) : PB B 114 [.agg j.cells] (.bool (dec j.Form)):=by
 refine ⟨fun H0=>yo.go fun ⟨hf,_⟩=>?_⟩
 have N8:=hf.agg (c:=Gi j.AP) (by simp [Df.cells])
 have hl:=AL N8;simp only [AK] at hl;refine tt ?_;refine (JG B j.shape).go fun _=>tt ?_;apply bn <;> intro h1
 rotate_left
 ·refine tw h1 ?_
  have AU:=dd h1;exact A6 (by rw [Ab]; intro s; exact AU s.is) (.refl _)
 refine tw h1 ?_
 have AU:=dd h1
 have hs:=AU.1;apply bk <;> intro h2
 ·refine tw h2 ?_
  have Ah:=dd h2;exact A6 (by rw [Ab]; intro s; exact Ah s.len) (.refl _)
 refine tw h2 ?_
 have Ah:=dd h2
 refine AD [1] (fun k _=>[(3,some (.int .i64 (k : Int)))]) (fun k _ H=>H=H0∧∀ x : Nat,x<k→∀ k : Nat,k<(j.AP.getD x default).length→j.shape.Ax x ((j.AP.getD x default).getD k default) ∧
   (0<k→cmp ((j.AP.getD x default).getD (k - 1) default) ((j.AP.getD x default).getD k default)<0)) j.AP.length () ⟨rfl,by simp⟩ rfl ?_
 rintro x _ H hx ⟨rfl,Aj⟩;refine tt ?_;apply bk <;> intro g1
 rotate_left
 ·refine tt ?_
  have CO:=dd g1;refine A6 ?_ (.refl _);rw [Ay];exact ⟨AU,Ah,fun x hx k hk=>(Aj x (by omega) k hk).1,fun x hx k hk=>(Aj x (by omega) (k+1) hk).2 (by omega)⟩
 have CO:=dd g1
 have wx:=ws x
 have rP:=AL (JD N8 (AE.mpr ⟨x,CO,rfl⟩));simp only [AK] at rP;refine tt ?_
 refine AD [1,3] (fun k _=>[(4,some (.int .i64 (k : Int)))]) (fun k' _ H'=>H'=H∧∀ k : Nat,k<k'→j.shape.Ax x ((j.AP.getD x default).getD k default) ∧
   (0<k→cmp ((j.AP.getD x default).getD (k - 1) default) ((j.AP.getD x default).getD k default)<0)) (j.AP.getD x default).length () ⟨rfl,by simp⟩ rfl ?_
 rintro k _ H' hk ⟨rfl,IM⟩;refine tt ?_;refine ⟨CO, ?_⟩;apply bk <;> intro g2
 rotate_left
 ·refine tw wx ?_
  have CR:=dd g2;exact A5 () CO ⟨rfl,AG Aj fun k hk=>IM k (by omega)⟩ rfl
 have CR:=dd g2
 have wk:=ws k;refine tt ?_;refine ⟨CO,CR,_,(TB B j.shape hs x _).run,tt ?_⟩;apply bn <;> intro g3
 rotate_left
 ·refine tw g3 ?_
  have Di:=dd g3;exact A6 (by rw [Ab]; intro s; exact Di (s.sv x CO k CR)) (.refl _)
 refine tw g3 ?_
 have Di:=dd g3;apply bk <;> intro g4
 rotate_left
 ·try simp only [go_sem,↓reduceIte,reduceEqDiff,reduceAdd,reduceMul,reduceLeDiff,reduceLT,g3,g4,wk]
  have Fp:=dd g4;exact A5 () CR ⟨rfl,AG IM ⟨Di,fun h=>absurd h (by omega)⟩⟩ rfl
 have g4q : 0<k:=by have:=A7 g4; omega
 have wp:=K2 (k:=k) g4q (by omega);try simp only [go_sem,↓reduceIte,reduceEqDiff,reduceAdd,reduceMul,reduceLeDiff,reduceLT,g3,g4,wp]
 refine ⟨CO,by omega,CO,CR,_,(KS ..).run,tt ?_⟩;apply bk <;> intro g5
 ·refine tt ?_
  have Hi:=dd g5;refine A6 ?_ (.refl _);rw [Ab]; intro s
  have:=s.ord x CO (k - 1) (by omega);rw [show k - 1+1=k by omega] at this;omega
 ·refine tw wk ?_
  have Hi:=dd g5;exact A5 () CR ⟨rfl,AG IM ⟨Di,fun _=>by omega⟩⟩ rfl
theorem PU (B : Nat) (j : Df) : PB B 174 [.ptr j.cells] (.bool (dec j.Form)):=by
 refine ⟨fun H0=>c174.go fun ⟨hf,_⟩=>?_⟩
 have N8:=hf.ptr (c:=Gi j.AP) (by simp [Df.cells])
 have hl:=AL N8;simp only [AK] at hl;refine tt ?_;refine ⟨_,(Jx B j.shape).run,tt ?_⟩;apply bn <;> intro h1
 rotate_left
 ·refine tw h1 ?_
  have AU:=dd h1;exact A6 (by rw [Ab]; intro s; exact AU s.is) (.refl _)
 refine tw h1 ?_
 have AU:=dd h1
 have hs:=AU.1;apply bk <;> intro h2
 ·refine tw h2 ?_
  have Ah:=dd h2;exact A6 (by rw [Ab]; intro s; exact Ah s.len) (.refl _)
 refine tw h2 ?_
 have Ah:=dd h2
 refine AD [3,29,30] (fun k _=>[(31,some (.int .i64 (k : Int)))]) (fun k _ H=>H=H0∧∀ x : Nat,x<k→∀ k : Nat,k<(j.AP.getD x default).length→j.shape.Ax x ((j.AP.getD x default).getD k default) ∧
   (0<k→cmp ((j.AP.getD x default).getD (k - 1) default) ((j.AP.getD x default).getD k default)<0)) j.AP.length () ⟨rfl,by simp⟩ rfl ?_
 rintro x _ H hx ⟨rfl,Aj⟩;refine tt ?_;apply bk <;> intro g1
 rotate_left
 ·refine tt ?_
  have CO:=dd g1;refine A6 ?_ (.refl _);rw [Ay];exact ⟨AU,Ah,fun x hx k hk=>(Aj x (by omega) k hk).1,fun x hx k hk=>(Aj x (by omega) (k+1) hk).2 (by omega)⟩
 have CO:=dd g1
 have wx:=ws x
 have rP:=AL (JD N8 (AE.mpr ⟨x,CO,rfl⟩));simp only [AK] at rP;refine tt ?_;refine ⟨CO, ?_⟩
 refine AD [3,4,5,29,30,31,36,37] (fun k _=>[(38,some (.int .i64 (k : Int)))]) (fun k' _ H'=>H'=H∧∀ k : Nat,k<k'→j.shape.Ax x ((j.AP.getD x default).getD k default) ∧
   (0<k→cmp ((j.AP.getD x default).getD (k - 1) default) ((j.AP.getD x default).getD k default)<0)) (j.AP.getD x default).length () ⟨rfl,by simp⟩ rfl ?_
 rintro k _ H' hk ⟨rfl,IM⟩;refine tt ?_;apply bk <;> intro g2
 rotate_left
 ·refine tw wx ?_
  have CR:=dd g2;exact A5 () CO ⟨rfl,AG Aj fun k hk=>IM k (by omega)⟩ rfl
 have CR:=dd g2
 have wk:=ws k;refine tt ?_;refine ⟨CR,(VS B j.shape hs x _).go fun _=>?_⟩;refine tt ?_;apply bn <;> intro g3
 rotate_left
 ·refine tw g3 ?_
  have Di:=dd g3;exact A6 (by rw [Ab]; intro s; exact Di (s.sv x CO k CR)) (.refl _)
 refine tw g3 ?_
 have Di:=dd g3;apply bk <;> intro g4
 rotate_left
 ·try simp only [go_sem,↓reduceIte,reduceEqDiff,reduceAdd,reduceMul,reduceLeDiff,reduceLT,g3,g4,wk]
  have Fp:=dd g4;exact A5 () CR ⟨rfl,AG IM ⟨Di,fun h=>absurd h (by omega)⟩⟩ rfl
 have g4q : 0<k:=by have:=A7 g4; omega
 have wp:=K2 (k:=k) g4q (by omega);try simp only [go_sem,↓reduceIte,reduceEqDiff,reduceAdd,reduceMul,reduceLeDiff,reduceLT,g3,g4,wp]
 refine ⟨by omega,(KL ..).go fun _=>?_⟩;refine tt ?_;apply bk <;> intro g5
 ·refine tt ?_
  have Hi:=dd g5;refine A6 ?_ (.refl _);rw [Ab]; intro s
  have:=s.ord x CO (k - 1) (by omega);rw [show k - 1+1=k by omega] at this;omega
 ·refine tw wk ?_
  have Hi:=dd g5;exact A5 () CR ⟨rfl,AG IM ⟨Di,fun _=>by omega⟩⟩ rfl
theorem UO (B : Nat) (f : SF) : PB B 237 [.agg f.cells] (.bool (dec f.Shape)):=by
 refine ⟨fun H0=>c237.go fun ⟨hf,_⟩=>?_⟩
 have hl:=AL (hf.agg (c:=iL f.A4) (by simp [SF.cells]))
 have Ia:=AL (hf.agg (c:=BD f.Aa) (by simp [SF.cells]));simp only [AK] at hl Ia;refine tt ?_;refine (JG B f.shape).go fun _=>tt ?_;apply bn <;> intro h1
 rotate_left
 ·refine tw h1 ?_
  have AU:=dd h1;exact A6 (by rw [Ab]; intro s; exact AU s.is) (.refl _)
 refine tw h1 ?_
 have AU:=dd h1
 have hs:=AU.1
 have Hg:=hs.He;apply bn <;> intro h2
 rotate_left
 ·refine tw h2 ?_
  have Ah:=dd h2;exact A6 (by rw [Ab]; intro s; exact Ah s.sl) (.refl _)
 refine tw h2 ?_
 have Ah:=dd h2;apply bk <;> intro h3
 ·refine tw h3 ?_
  have BB:=dd h3;exact A6 (by rw [Ab]; intro s; exact BB s.al) (.refl _)
 refine tw h3 ?_
 have BB:=dd h3;refine AD [1] (fun k _=>[(3,some (.int .i64 (k : Int)))]) (fun k _ H=>H=H0∧∀ x,x<k→0≤f.A4.getD x default∧f.A4.getD x default<17) f.A4.length () ⟨rfl,by simp⟩ rfl ?_
 rintro x _ H hx ⟨rfl,Aj⟩;refine tt ?_;apply bk <;> intro g1
 ·have CO:=dd g1
  have wx:=ws x;refine tt ?_;refine ⟨CO,(Ub ..).go fun _=>?_⟩;refine tt ?_;apply bk <;> intro g2
  ·refine tt ?_
   have CR:=dd g2;exact A6 (by rw [Ab]; intro s; have:=s.sz _ (AE.mpr ⟨x,CO,rfl⟩); omega) (.refl _)
  ·refine tw wx ?_
   have CR:=dd g2;exact A5 () CO ⟨rfl,AG Aj (by omega)⟩ rfl
 have CO:=dd g1
 have CW : ∀ y,y∈f.A4→0≤y∧y<17:=Db.mpr fun i hi=>Aj i (by omega);refine tt ?_
 refine AD [1] (fun k _=>[(4,some (.int .i64 (k : Int)))]) (fun k _ H'=>H'=H∧∀ a,a<k→((f.Aa.getD a default).length : Int)=ix f.A4 (f.shape.AH.getD a default) ∧
  ∀ y,y∈f.Aa.getD a default→0≤y∧y<ix f.A4 (f.shape.to.getD a default)) f.Aa.length () ⟨rfl,by simp⟩ rfl ?_
 rintro a _ H' ha ⟨rfl,Li⟩;refine tt ?_;apply bk <;> intro g2
 rotate_left
 ·refine tt ?_
  have CR:=dd g2;exact A6 (by rw [Ay]; exact ⟨AU,Ah,BB,CW,fun a h=>Li a (by omega)⟩) (.refl _)
 have CR:=dd g2
 have wa:=ws a
 have Py : a<f.shape.AH.length:=by omega
 have f1:=hs.QL Py
 have f2:=hs.uX Py
 have YX:=hs.il;refine tt ?_;refine ⟨CR,Py,⟨f1.1,by omega⟩, ?_⟩;apply bn <;> intro g3
 rotate_left
 ·refine tw g3 ?_
  have Di:=dd g3;exact A6 (by rw [Ab]; intro s; exact Di (s.act a CR).1) (.refl _)
 refine tw g3 ?_
 have Di:=dd g3;refine ⟨by omega,⟨f2.1,by omega⟩,CR,_,(HX ..).run,tt ?_⟩;apply bk <;> intro g4
 ·refine tt ?_
  have Fp:=dd g4;exact A6 (by rw [Ab]; intro s; exact Fp (s.act a CR).2) (.refl _)
 ·refine tw wa ?_
  have Fp:=dd g4;exact A5 () CR ⟨rfl,AG Li ⟨Di,Fp⟩⟩ rfl
theorem SN (B : Nat) (f : SF) : PB B 243 [.ptr f.cells] (.bool (dec f.Shape)):=by
 refine ⟨fun H0=>vz.go fun ⟨hf,_⟩=>?_⟩
 have hl:=AL (hf.ptr (c:=iL f.A4) (by simp [SF.cells]))
 have Ia:=AL (hf.ptr (c:=BD f.Aa) (by simp [SF.cells]));simp only [AK] at hl Ia;refine tt ?_;refine ⟨_,(Jx B f.shape).run,tt ?_⟩;apply bn <;> intro h1
 rotate_left
 ·refine tw h1 ?_
  have AU:=dd h1;exact A6 (by rw [Ab]; intro s; exact AU s.is) (.refl _)
 refine tw h1 ?_
 have AU:=dd h1
 have hs:=AU.1
 have Hg:=hs.He;apply bn <;> intro h2
 rotate_left
 ·refine tw h2 ?_
  have Ah:=dd h2;exact A6 (by rw [Ab]; intro s; exact Ah s.sl) (.refl _)
 refine tw h2 ?_
 have Ah:=dd h2;refine ⟨_,(G1 B f.A4 17 (by omega)).run,tt ?_⟩;apply bn <;> intro h3
 rotate_left
 ·refine tw h3 ?_
  have BB:=dd h3;exact A6 (by rw [Ab]; intro s; exact BB s.sz) (.refl _)
 refine tw h3 ?_
 have BB:=dd h3;refine ⟨_,(HL B f.shape).run,tt ?_⟩;apply bk <;> intro h4
 ·refine tw h4 ?_
  have DC:=dd h4;exact A6 (by rw [Ab]; intro s; exact DC s.al) (.refl _)
 refine tw h4 ?_
 have DC:=dd h4
 refine AD [0,3,45,46] (fun k _=>[(47,some (.int .i64 (k : Int)))]) (fun k _ H'=>H'=H0∧∀ a,a<k→((f.Aa.getD a default).length : Int)=ix f.A4 (f.shape.AH.getD a default) ∧
  ∀ y,y∈f.Aa.getD a default→0≤y∧y<ix f.A4 (f.shape.to.getD a default)) f.Aa.length () ⟨rfl,by simp⟩ rfl ?_
 rintro a _ H' ha ⟨rfl,Li⟩;refine tt ?_;apply bk <;> intro g2
 rotate_left
 ·refine tt ?_
  have CR:=dd g2;exact A6 (by rw [Ay]; exact ⟨AU,Ah,DC,BB,fun a h=>Li a (by omega)⟩) (.refl _)
 have CR:=dd g2
 have wa:=ws a
 have Py : a<f.shape.AH.length:=by omega
 have f1:=hs.QL Py
 have f2:=hs.uX Py
 have YX:=hs.il
 have Cu:=BB _ (Bi (l:=f.A4) (i:=f.shape.to.getD a default) (by omega));refine tt ?_;refine ⟨CR,Py,⟨f1.1,by omega⟩,by omega,⟨f2.1,by omega⟩,_,(Np B _ _ _ (by omega)).run,tt ?_⟩;apply bk <;> intro g4
 ·refine tt ?_
  have Fp:=dd g4;exact A6 (by rw [Ab]; intro s; exact Fp (s.act a CR)) (.refl _)
 ·refine tw wa ?_
  have Fp:=dd g4;exact A5 () CR ⟨rfl,AG Li Fp⟩ rfl
theorem TH (B : Nat) (f : SF) (s : f.Shape) (H0 : AA) : CB B 238 [.agg f.cells] H0 (PI f.Laws H0):=by
 refine zo.go fun ⟨hf,_⟩=>?_
 have hs:=s.is.1
 have hm:=hs.m
 have Ma:=hs.cl
 have Hg:=hs.He
 have YX:=hs.il
 have Pz:=s.al
 have Gd:=s.sl
 have Fh:=hs.o;refine tt ?_;refine ⟨by simp [AK],fun i1 n1=>?_⟩;refine tt ?_
 generalize hH : ((H0.set i1 _).set i1 _)=H1
 have hg : H1.get i1=some (.cells 5 [iI f.shape.AR,iL f.shape.AH,iL f.shape.to,iL f.shape.Aw,BD f.shape.comp] 0):=by rw [← hH]; simp
 have Cq : H0.sub H1:=by rw [← hH]; exact CE (CE (.refl _) n1) n1
 clear hH;refine AD [1,6] (fun k _=>[(7,some (.int .i64 (k : Int)))]) (fun k _ H=>H=H1∧∀ x,x<k→∀ e : Nat,e<(ix f.Aa (f.shape.Aw.getD x default)).length→(ix f.Aa (f.shape.Aw.getD x default)).getD e default=e) f.shape.Aw.length () ⟨rfl,by simp⟩ rfl ?_
 rintro x _ H hx ⟨rfl,Aj⟩;refine tw hg ?_;apply bk <;> intro g1
 ·have CO:=dd g1
  have iD : x<f.shape.Aw.length:=by omega
  have wx:=ws x
  have KD:=hs.Aw _ (AE.mpr ⟨x,iD,rfl⟩)
  have hlen:=s.cT iD;refine tw hg ?_;refine AD [1,6,7] (fun k _=>[(8,some (.int .i64 (k : Int)))]) (fun k _ H'=>H'=H∧∀ e : Nat,e<k→(ix f.Aa (f.shape.Aw.getD x default)).getD e default=e) (ix f.Aa (f.shape.Aw.getD x default)).length () ⟨rfl,by simp⟩ rfl ?_
  rintro e _ H' he ⟨rfl,E7⟩;refine tw hg ?_;refine ⟨by omega, ?_⟩;apply bk <;> intro g2
  rotate_left
  ·refine tw wx ?_
   have CR:=dd g2;exact A5 () iD ⟨rfl,AG Aj fun e he=>E7 e (by omega)⟩ rfl
  have CR:=dd g2
  have aV : e<(ix f.Aa (f.shape.Aw.getD x default)).length:=by omega
  have hz : f.A4.getD x default<17:=(s.sz _ (AE.mpr ⟨x,by omega,rfl⟩)).2
  have we:=ws e;refine tw hg ?_;refine ⟨iD,⟨KD.1,by omega⟩,aV, ?_⟩;apply bk <;> intro g3
  ·refine tt ?_
   have Di:=dd g3;exact CV (by constructor; (intro h; cases h); intro l; exact absurd (l.ZM x iD e aV) Di) Cq
  ·refine tw we ?_
   have Di:=dd g3;exact A5 () aV ⟨rfl,AG E7 Di⟩ rfl
 have CO:=dd g1
 have qX : ∀ x : Nat,x<f.shape.Aw.length→∀ e : Nat,e<(ix f.Aa (f.shape.Aw.getD x default)).length→(ix f.Aa (f.shape.Aw.getD x default)).getD e default=e:=fun x hx=>Aj x (by omega);refine tt ?_;refine AD [1,6] (fun k _=>[(9,some (.int .i64 (k : Int)))]) (fun k _ H'=>H'=H∧∀ a,a<k→∀ b,b<f.shape.AH.length→f.Rh a b) f.shape.AH.length () ⟨rfl,by simp⟩ rfl ?_
 rintro a _ H' ha ⟨rfl,hA⟩;refine tw hg ?_;apply bk <;> intro g1
 rotate_left
 ·refine tt ?_
  have CO:=dd g1;exact CV (by simp only [true_iff]; exact ⟨qX,fun a b ha hb=>hA a (by omega) b hb⟩) Cq
 have CO:=dd g1
 have wa:=ws a
 have ra:=hs.row a CO
 have fa:=hs.QL CO
 have la:=s.DN (a:=(a : Int)) (by omega);rw [DH,DH] at la
 have za:=s.sz _ (Bi (l:=f.A4) (i:=f.shape.AH.getD a default) (by omega));refine tw hg ?_;refine AD [1,6,9] (fun k _=>[(10,some (.int .i64 (k : Int)))]) (fun k _ H=>H=H'∧∀ b,b<k→f.Rh a b) f.shape.AH.length () ⟨rfl,by simp⟩ rfl ?_
 rintro b _ H hb ⟨rfl,hB⟩;refine tw hg ?_;apply bk <;> intro g2
 rotate_left
 ·refine tw wa ?_
  have CR:=dd g2;exact A5 () CO ⟨rfl,AG hA fun b hb=>hB b (by omega)⟩ rfl
 have CR:=dd g2
 have wb:=ws b;refine tw hg ?_;refine ⟨by omega,CR, ?_⟩;apply bk <;> intro g3
 ·refine tw wb ?_
  have Di:=dd g3;exact A5 () CR ⟨rfl,AG hB fun e=>absurd e Di⟩ rfl
 have Di:=dd g3
 have hy:=hs.yes a b CO CR Di
 have lc:=s.DN (a:=(f.shape.comp.getD a default).getD b default) (by omega);rw [hy.2.1] at lc
 have lb:=s.DN (a:=(b : Int)) (by omega);rw [DH,DH] at lb;refine tw hg ?_
 refine AD [1,6,9,10] (fun k _=>[(11,some (.int .i64 (k : Int)))]) (fun k _ H'=>H'=H∧∀ e : Nat,e<k →
  (ix f.Aa ((f.shape.comp.getD a default).getD b default)).getD e default=ix (f.Aa.getD b default) ((f.Aa.getD a default).getD e default)) (f.Aa.getD a default).length () ⟨rfl,by simp⟩ rfl ?_
 rintro e _ H' he ⟨rfl,hE⟩;refine tw hg ?_;refine ⟨CO,⟨fa.1,by omega⟩, ?_⟩;apply bk <;> intro g4
 rotate_left
 ·refine tw wb ?_
  have Fp:=dd g4;exact A5 () CR ⟨rfl,AG hB fun _ e he=>hE e (by omega)⟩ rfl
 have Fp:=dd g4
 have we:=ws e
 have aV : e<(f.Aa.getD a default).length:=by omega
 have hv:=(s.act a (by omega)).2 _ (AE.mpr ⟨e,aV,rfl⟩);rw [Di] at hv;refine tw hg ?_;refine ⟨by omega,by omega,⟨hy.1.1,by omega⟩,by omega,by omega,by omega,aV,⟨hv.1,by omega⟩, ?_⟩;apply bk <;> intro g5
 ·refine tt ?_
  have Hi:=dd g5;exact CV (by constructor; (intro h; cases h); intro l; exact absurd (l.comp a b CO CR Di e aV) Hi) Cq
 ·refine tw we ?_
  have Hi:=dd g5;exact A5 () aV ⟨rfl,AG hE Hi⟩ rfl
theorem WM (B : Nat) (f : SF) (s : f.Shape) (H0 : AA) : CB B 244 [.ptr f.cells] H0 (PI f.Laws H0):=by
 refine c244.go fun ⟨hf,_⟩=>?_
 have hs:=s.is.1
 have hm:=hs.m
 have Ma:=hs.cl
 have Hg:=hs.He
 have YX:=hs.il
 have Pz:=s.al
 have Gd:=s.sl
 have Fh:=hs.o;refine tt ?_;refine AD [0,6,23,24] (fun k _=>[(25,some (.int .i64 (k : Int)))]) (fun k _ H=>H=H0∧∀ x,x<k→∀ e : Nat,e<(ix f.Aa (f.shape.Aw.getD x default)).length→(ix f.Aa (f.shape.Aw.getD x default)).getD e default=e) f.shape.Aw.length () ⟨rfl,by simp⟩ rfl ?_
 rintro x _ H hx ⟨rfl,Aj⟩;refine tt ?_;apply bk <;> intro g1
 ·have CO:=dd g1
  have wx:=ws x
  have KD:=hs.Aw _ (AE.mpr ⟨x,CO,rfl⟩)
  have hlen:=s.cT CO
  have hz : f.A4.getD x default<17:=(s.sz _ (AE.mpr ⟨x,by omega,rfl⟩)).2;refine tt ?_;refine ⟨CO,⟨KD.1,by omega⟩, ?_⟩;refine AD [0,6,7,23,24,25,36,37] (fun k _=>[(38,some (.int .i64 (k : Int)))]) (fun k _ H'=>H'=H∧∀ e : Nat,e<k→(ix f.Aa (f.shape.Aw.getD x default)).getD e default=e) (ix f.Aa (f.shape.Aw.getD x default)).length () ⟨rfl,by simp⟩ rfl ?_
  rintro e _ H' he ⟨rfl,E7⟩;refine tt ?_;apply bk <;> intro g2
  rotate_left
  ·refine tw wx ?_
   have CR:=dd g2;exact A5 () CO ⟨rfl,AG Aj fun e he=>E7 e (by omega)⟩ rfl
  have CR:=dd g2
  have we:=ws e;refine tt ?_;refine ⟨CR, ?_⟩;apply bk <;> intro g3
  ·refine tt ?_
   have Di:=dd g3;exact CV (by constructor; (intro h; cases h); intro l; exact absurd (l.ZM x CO e CR) Di) (.refl _)
  ·refine tw we ?_
   have Di:=dd g3;exact A5 () CR ⟨rfl,AG E7 Di⟩ rfl
 have CO:=dd g1
 have qX : ∀ x : Nat,x<f.shape.Aw.length→∀ e : Nat,e<(ix f.Aa (f.shape.Aw.getD x default)).length→(ix f.Aa (f.shape.Aw.getD x default)).getD e default=e:=fun x hx=>Aj x (by omega);refine tt ?_;refine AD [0,53,54] (fun k _=>[(55,some (.int .i64 (k : Int)))]) (fun k _ H'=>H'=H∧∀ a,a<k→∀ b,b<f.shape.AH.length→f.Rh a b) f.shape.comp.length () ⟨rfl,by simp⟩ rfl ?_
 rintro a _ H' ha ⟨rfl,hA⟩;refine tt ?_;apply bk <;> intro g1
 rotate_left
 ·refine tt ?_
  have CO:=dd g1;exact CV (by simp only [true_iff]; exact ⟨qX,fun a b ha hb=>hA a (by omega) b hb⟩) (.refl _)
 have CO:=dd g1
 have T6 : a<f.shape.AH.length:=by omega
 have wa:=ws a
 have ra:=hs.row a T6
 have fa:=hs.QL T6
 have la:=s.DN (a:=(a : Int)) (by omega);rw [DH,DH] at la
 have za:=s.sz _ (Bi (l:=f.A4) (i:=f.shape.AH.getD a default) (by omega));refine tt ?_;refine ⟨CO, ?_⟩;refine AD [0,11,53,54,55,60,61] (fun k _=>[(62,some (.int .i64 (k : Int)))]) (fun k _ H=>H=H'∧∀ b,b<k→f.Rh a b) (f.shape.comp.getD a default).length () ⟨rfl,by simp⟩ rfl ?_
 rintro b _ H hb ⟨rfl,hB⟩;refine tt ?_;apply bk <;> intro g2
 rotate_left
 ·refine tw wa ?_
  have CR:=dd g2;exact A5 () CO ⟨rfl,AG hA fun b hb=>hB b (by omega)⟩ rfl
 have CR:=dd g2
 have tf : b<f.shape.AH.length:=by omega
 have wb:=ws b;refine tt ?_;refine ⟨CR, ?_⟩;apply bk <;> intro g3
 ·refine tw wb ?_
  have Di:=dd g3;exact A5 () CR ⟨rfl,AG hB fun e=>by have:=(hs.pos T6 tf).mpr e; omega⟩ rfl
 have Di:=dd g3
 have ju:=(hs.pos T6 tf).mp Di
 have hy:=hs.yes a b T6 tf ju
 have lc:=s.DN (a:=(f.shape.comp.getD a default).getD b default) (by omega);rw [hy.2.1] at lc
 have lb:=s.DN (a:=(b : Int)) (by omega);rw [DH,DH] at lb;refine tt ?_;refine ⟨by omega, ?_⟩
 refine AD [0,11,13,14,53,54,55,60,61,62,75,76] (fun k _=>[(77,some (.int .i64 (k : Int)))]) (fun k _ H'=>H'=H∧∀ e : Nat,e<k →
  (ix f.Aa ((f.shape.comp.getD a default).getD b default)).getD e default=ix (f.Aa.getD b default) ((f.Aa.getD a default).getD e default)) (f.Aa.getD a default).length () ⟨rfl,by simp⟩ rfl ?_
 rintro e _ H' he ⟨rfl,hE⟩;refine tt ?_;apply bk <;> intro g4
 rotate_left
 ·refine tw wb ?_
  have Fp:=dd g4;exact A5 () CR ⟨rfl,AG hB fun _ e he=>hE e (by omega)⟩ rfl
 have Fp:=dd g4
 have we:=ws e
 have hv:=(s.act a (by omega)).2 _ (AE.mpr ⟨e,Fp,rfl⟩);rw [ju] at hv;refine tt ?_;refine ⟨Fp,⟨Di,by omega⟩,by omega,by omega,⟨hv.1,by omega⟩, ?_⟩;apply bk <;> intro g5
 ·refine tt ?_
  have Hi:=dd g5;exact CV (by constructor; (intro h; cases h); intro l; exact absurd (l.comp a b T6 tf ju e Fp) Hi) (.refl _)
 ·refine tw we ?_
  have Hi:=dd g5;exact A5 () Fp ⟨rfl,AG hE Hi⟩ rfl
theorem OK (B : Nat) (f : SF) : PB B 157 [.agg f.cells] (.bool (dec f.Is)):=by
 refine ⟨fun H0=>ze.go fun hf=>tt ?_⟩;refine (UO B f).go fun _=>tt ?_;apply bk <;> intro h1
 ·refine tt ?_
  have AU:=dd h1;exact A6 (by rw [Ab]; intro s; exact AU s.1) (.refl _)
 have AU:=dd h1;refine tt ?_;refine (TH B f AU H0).J7 ?_
 rintro _ _ _ ⟨rfl,k,a,b,d,rfl,hk⟩;refine tt ?_;exact A6 (by rw [BO]; congr 1; exact Bc ⟨fun h=>⟨AU,hk.mp h⟩,fun h=>hk.mpr h.2⟩) (.refl _)
theorem NO (B : Nat) (f : SF) : PB B 163 [.ptr f.cells] (.bool (dec f.Is)):=by
 refine ⟨fun H0=>xz.go fun hf=>tt ?_⟩;refine (SN B f).go fun _=>tt ?_;apply bk <;> intro h1
 ·refine tt ?_
  have AU:=dd h1;exact A6 (by rw [Ab]; intro s; exact AU s.1) (.refl _)
 have AU:=dd h1;refine tt ?_;refine (WM B f AU H0).J7 ?_
 rintro _ _ _ ⟨rfl,k,a,b,d,rfl,hk⟩;refine tt ?_;exact A6 (by rw [BO]; congr 1; exact Bc ⟨fun h=>⟨AU,hk.mp h⟩,fun h=>hk.mpr h.2⟩) (.refl _)
instance : Inhabited SF:=⟨⟨⟨0,[],[],[],[]⟩,[],[]⟩⟩
abbrev mz (f : SF) : AV:=.ptr f.cells
instance : One mz:=⟨fun _=>rfl,fun _=>rfl⟩
theorem HA (B : Nat) (l : List SF) : PB B 175 [mL mz l] (.bool (dec (∀ f,f∈l→f.Is))):=by
 refine ⟨fun H0=>c175.go fun ⟨hf,_⟩=>?_⟩
 have hl:=AL hf;simp only [AK] at hl;refine tt ?_;refine AD [5,6] (fun k _=>[(7,some (.int .i64 (k : Int)))]) (fun k _ H=>H=H0∧∀ i,i<k→(l.getD i default).Is) l.length () ⟨rfl,by simp⟩ rfl ?_
 rintro k _ H hk ⟨rfl,Aj⟩;refine tt ?_;apply bk <;> intro h1
 ·have AU:=dd h1
  have w1:=ws k;refine tt ?_;refine ⟨AU,(NO B _).go fun _=>?_⟩;refine tt ?_;apply bk <;> intro h2
  ·refine tt ?_
   have Ah:=dd h2;exact A6 (by rw [Ab]; intro h; exact Ah (h _ (AE.mpr ⟨k,AU,rfl⟩))) (.refl _)
  ·refine tw w1 ?_
   have Ah:=dd h2;exact A5 () (by omega) ⟨rfl,AG Aj Ah⟩ rfl
 ·refine tt ?_
  have AU:=dd h1;exact A6 (by rw [Ay]; exact Db.mpr fun i hi=>Aj i (by omega)) (.refl _)
theorem Oh (B : Nat) (a b : B0) : PB B 189 [.agg a.cells,.agg b.cells] (.bool (dec (a=b))):=by
 refine ⟨fun H0=>xk.go fun hf=>tt ?_⟩;apply bk <;> intro h0
 rotate_left
 ·refine tw h0 ?_
  have Nd:=dd h0;exact A6 (by rw [Ab]; rintro rfl; exact Nd rfl) (.refl _)
 refine tw h0 ?_
 have Nd:=dd h0;refine (EN B a.AH b.AH).go fun _=>tt ?_;apply bk <;> intro h1
 rotate_left
 ·refine tw h1 ?_
  have AU:=dd h1;exact A6 (by rw [Ab]; rintro rfl; exact AU rfl) (.refl _)
 refine tw h1 ?_
 have AU:=dd h1;refine (EN B a.to b.to).go fun _=>tt ?_;apply bk <;> intro h2
 rotate_left
 ·refine tw h2 ?_
  have Ah:=dd h2;exact A6 (by rw [Ab]; rintro rfl; exact Ah rfl) (.refl _)
 refine tw h2 ?_
 have Ah:=dd h2;refine (EN B a.Aw b.Aw).go fun _=>tt ?_;apply bk <;> intro h3
 rotate_left
 ·refine tw h3 ?_
  have BB:=dd h3;exact A6 (by rw [Ab]; rintro rfl; exact BB rfl) (.refl _)
 refine tw h3 ?_
 have BB:=dd h3;refine (Te B a.comp b.comp).go fun _=>tt ?_;refine A6 ?_ (.refl _)
 congr 1
 refine Bc ⟨fun h=>?_,fun h=>by rw [h]⟩
 cases a; cases b; simp_all
theorem Fe (B : Nat) (a b : B0) : PB B 203 [.ptr a.cells,.ptr b.cells] (.bool (dec (a=b))):=by
 refine ⟨fun H0=>vp.go fun ⟨hf,hg,_⟩=>?_⟩
 have hl:=AL (hf.ptr (c:=BD a.comp) (by simp [B0.cells]));simp only [AK] at hl;refine tt ?_;apply bn <;> intro h0
 rotate_left
 ·refine tw h0 ?_
  have Nd:=dd h0;exact A6 (by rw [Ab]; rintro rfl; exact Nd rfl) (.refl _)
 refine tw h0 ?_
 have Nd:=dd h0;refine ⟨_,(Fu B a.AH b.AH).run,tt ?_⟩;apply bn <;> intro h1
 rotate_left
 ·refine tw h1 ?_
  have AU:=dd h1;exact A6 (by rw [Ab]; rintro rfl; exact AU rfl) (.refl _)
 refine tw h1 ?_
 have AU:=dd h1;refine ⟨_,(Fu B a.to b.to).run,tt ?_⟩;apply bn <;> intro h2
 rotate_left
 ·refine tw h2 ?_
  have Ah:=dd h2;exact A6 (by rw [Ab]; rintro rfl; exact Ah rfl) (.refl _)
 refine tw h2 ?_
 have Ah:=dd h2;refine ⟨_,(Fu B a.Aw b.Aw).run,tt ?_⟩;apply bn <;> intro h3
 rotate_left
 ·refine tw h3 ?_
  have BB:=dd h3;exact A6 (by rw [Ab]; rintro rfl; exact BB rfl) (.refl _)
 refine tw h3 ?_
 have BB:=dd h3;apply bk <;> intro h4
 ·refine tw h4 ?_
  have DC:=dd h4;exact A6 (by rw [Ab]; rintro rfl; exact DC rfl) (.refl _)
 refine tw h4 ?_
 have DC:=dd h4;refine AD [0,1,68] (fun k _=>[(69,some (.int .i64 (k : Int)))]) (fun k _ H=>H=H0∧∀ i,i<k→a.comp.getD i default=b.comp.getD i default) a.comp.length () ⟨rfl,by simp⟩ rfl ?_
 rintro k _ H hk ⟨rfl,Aj⟩;refine tt ?_;apply bk <;> intro g1
 ·have CO:=dd g1
  have w1:=ws k;refine tt ?_;refine ⟨CO,by omega,_,(Fu ..).run,tt ?_⟩;apply bk <;> intro g2
  ·refine tt ?_
   have CR:=dd g2;exact A6 (by rw [Ab]; rintro rfl; exact CR rfl) (.refl _)
  ·refine tw w1 ?_
   have CR:=dd g2;exact A5 () CO ⟨rfl,AG Aj CR⟩ rfl
 ·refine tt ?_
  have CO:=dd g1;refine A6 ?_ (.refl _);rw [Ay]
  have e : a.comp=b.comp:=by
   refine List.ext_getElem DC fun i hi hj=>?_
   have:=Aj i (by omega)
   simpa [gE,hi,hj] using this
  cases a; cases b; simp_all
theorem KV (B : Nat) (c : B0) (hc : c.Is) : PB B 294 [.agg c.cells] (.CK [.agg (eQ c),.bool (dec (Be c))]):=by
 refine ⟨fun H0=>wu.go fun _=>?_⟩
 have hs:=hc.1
 have Fh:=hs.o;refine tt ?_;refine nb (.nil _) fun id H o=>tt ?_;refine (TQ B c hc).go fun _=>tt ?_;apply bk <;> intro h1
 ·refine tt ?_
  have AU:=dd h1;refine sw o fun H o=>tt ?_;rw [o.rc 8 0 (by simp)];refine tt ?_;exact A6 (by rw [VQ AU,Ab AU]; rfl) o.sub
 ·refine tt ?_
  have AU:=dd h1;rw [dZ AU];refine ⟨_,(VW B c hs (AM c) (by simp [AM]; omega)).run,tt ?_⟩;refine ⟨_,(WC ..).run,tt ?_⟩;refine sw o fun H o=>tt ?_;rw [o.rc 8 0 (by simp)];refine tt ?_;exact A6 (by rw [Wv AU,Ay AU]; rfl) o.sub
theorem ET {j : Df} (h : j.Form) (hf : Be j.shape) : j.AP.length=(AM j.shape).length∧∀ x : Nat,x<(AM j.shape).length→∀ s,s∈j.AP.getD x default→j.shape.Ax x s∧s∈(AM j.shape).getD x default:=by
 have t:=HT h.is hf
 have hl:=t.len
 have Ia:=h.len;refine ⟨by omega,fun x hx s hs=>?_⟩
 obtain ⟨k,hk,rfl⟩:=AE.mp hs
 have:=h.sv x (by omega) k hk;exact ⟨this,((t.all x hx).mem _).mpr this⟩
theorem We (B : Nat) (j : Df) (h : ¬ j.Form) : PB B 257 [.agg j.cells] (.CK [.agg MG,.sl [],.int .i64 1]):=by
 refine ⟨fun H0=>aW.go fun _=>tt ?_⟩;refine nb (.nil _) fun id H o=>tt ?_;refine (FT B j).go fun _=>?_;rw [Ab h];refine tt ?_;refine sw o fun H o=>tt ?_;rw [o.rc 8 0 (by simp)];refine tt ?_;exact A6 rfl o.sub
theorem Ra (B : Nat) (j : Df) (h : j.Form) (hf : ¬ Be j.shape) : PB B 257 [.agg j.cells] (.CK [.agg MG,.sl [],.int .i64 3]):=by
 refine ⟨fun H0=>aW.go fun _=>tt ?_⟩;refine nb (.nil _) fun id H o=>tt ?_;refine (FT B j).go fun _=>?_;rw [Ay h];refine tt ?_;refine (KV B j.shape h.is).go fun _=>?_;rw [Ab hf,VQ hf];refine tt ?_;refine nb o fun CS H o=>tt ?_;refine sw o fun H o=>tt ?_;refine sw o.swap fun H o=>tt ?_;rw [o.rc 8 0 (by simp)];refine tt ?_;exact A6 rfl o.sub
theorem VO (B : Nat) (j : Df) (h : j.Form) (hf : Be j.shape) : PB B 257 [.agg j.cells] (.CK [.agg (BE j.shape (AM j.shape)),uW (marksOf (AM j.shape) j.AP),.int .i64 0]):=by
 refine ⟨fun H0=>aW.go fun _=>?_⟩
 have Im:=ET h hf;refine tt ?_;refine nb (.nil _) fun id H o=>tt ?_;refine (FT B j).go fun _=>?_;rw [Ay h];refine tt ?_;refine (KV B j.shape h.is).go fun _=>?_;rw [Ay hf,Wv hf];refine tt ?_;refine nb o fun CS H o=>tt ?_;refine sw o fun H o=>tt ?_;refine AZ o (by simp) (tt ?_);refine AZ o (by simp) (tt ?_);refine ⟨_,(TI B j.shape (AM j.shape) (HT h.is hf) j.AP Im.1 fun x hx s hs=>(Im.2 x hx s hs).2).run,tt ?_⟩;refine sw o.swap fun H o=>tt ?_;rw [o.rc 8 0 (by simp)];refine tt ?_;exact A6 rfl o.sub
open Classical in
/-- The code of a topology. -/
noncomputable def DF (j : Df) : Int:=if ¬ j.Form then 1 else if ¬ Be j.shape then 3 else if Fl j.shape j.AP then 0 else 5
def nC (j : Df) (H0 : AA) : Ap:=fun r H'=>H'=H0∧∃ cs b,cs.length=8∧(∀ c,c∈cs→c.one=true)∧r=.CK [.agg cs,b,.int .i64 (DF j)]
theorem Og {j : Df} {H0 H : AA} {cs : List AV} {b : AV} {n : Int} (hs : H0.sub H) (hl : cs.length=8) (ho : ∀ c,c∈cs→c.one=true) (hn : n=DF j) : Ig (nC j H0) (.CK [.agg cs,b,.int .i64 n]) H :=
 ⟨H0,hs,rfl,cs,b,hl,ho,by rw [hn]⟩
theorem WW (B : Nat) (j : Df) (H0 : AA) : CB B 188 [.agg j.cells] H0 (nC j H0):=by
 refine yu.go fun _=>?_;refine tt ?_;refine nb (.nil _) fun id H o=>tt ?_
 by_cases h : j.Form
 ·by_cases hf : Be j.shape
  ·have t:=HT h.is hf
   have Im:=ET h hf
   have lW:=Un t (C:=j.AP) fun x hx s hs=>(Im.2 x hx s hs).1;refine (VO B j h hf).go fun _=>tt ?_;refine nb o fun CS H o=>tt ?_;refine sw o fun H o=>?_;try simp only [go_sem,↓reduceIte,reduceEqDiff,reduceAdd,reduceMul,reduceLeDiff,reduceLT,decide_true,decide_false,eq_self,Int.reduceEq]
   refine AZ o (by simp) (tt ?_);refine (fK B j.shape (AM j.shape) t (marksOf (AM j.shape) j.AP) GW).go fun _=>tt ?_;apply bk <;> intro h1
   all_goals
    refine tt ?_;refine AZ o (by simp) (tt ?_);refine sw o.swap fun H o=>tt ?_;rw [o.rc 8 0 (by simp)];refine tt ?_
    have AU:=dd h1;rw [lW] at AU;refine Og o.sub rfl (by first | (simp only [go_sem]; done) | ((try simp only [go_sem]); simp [AV.one,EJ])) ?_
    simp [DF,h,hf,AU]
  ·refine (Ra B j h hf).go fun _=>tt ?_;refine nb o fun CS H o=>tt ?_;refine sw o fun H o=>?_;try simp only [go_sem,↓reduceIte,reduceEqDiff,reduceAdd,reduceMul,reduceLeDiff,reduceLT,decide_true,decide_false,eq_self,Int.reduceEq]
   refine AZ o (by simp) (tt ?_);refine sw o.swap fun H o=>tt ?_;rw [o.rc 8 0 (by simp)];refine tt ?_;refine Og o.sub rfl (by first | (simp only [go_sem]; done) | ((try simp only [go_sem]); simp [AV.one,EJ])) ?_
   simp [DF,h,hf]
 ·refine (We B j h).go fun _=>tt ?_;refine nb o fun CS H o=>tt ?_;refine sw o fun H o=>?_;try simp only [go_sem,↓reduceIte,reduceEqDiff,reduceAdd,reduceMul,reduceLeDiff,reduceLT,decide_true,decide_false,eq_self,Int.reduceEq]
  refine AZ o (by simp) (tt ?_);refine sw o.swap fun H o=>tt ?_;rw [o.rc 8 0 (by simp)];refine tt ?_;refine Og o.sub rfl (by first | (simp only [go_sem]; done) | ((try simp only [go_sem]); simp [AV.one,EJ])) ?_
  simp [DF,h]
open Classical in
/-- The code of a topology and a set functor. -/
noncomputable def codeF (j : Df) (f : SF) : Int:=if ¬ (j.Form∧f.Is) then 1 else if DF j=0∧¬ j.shape=f.shape then 5 else DF j
theorem Ng (B : Nat) (j : Df) (f : SF) : PB B 105 [.agg j.cells,.agg f.cells] (.int .i64 (codeF j f)):=by
 refine ⟨fun H0=>c105.go fun _=>tt ?_⟩;refine (FT B j).go fun _=>?_
 by_cases h1 : j.Form
 rotate_left
 ·rw [Ab h1];refine tt ?_;exact A6 (by rw [codeF,if_pos fun h=>h1 h.1]) (.refl _)
 rw [Ay h1];refine tt ?_;refine (OK B f).go fun _=>?_
 by_cases h2 : f.Is
 rotate_left
 ·rw [Ab h2];refine tt ?_;exact A6 (by rw [codeF,if_pos fun h=>h2 h.2]) (.refl _)
 rw [Ay h2];refine tt ?_;refine (WW B j H0).mono ?_
 rintro r H' ⟨rfl,cs,b,hl,ho,rfl⟩;refine tt ?_;refine nb (.nil _) fun CS H o=>tt ?_;refine Aq o (by simp) hl ho fun H o=>tt ?_;apply bk <;> intro h3
 ·refine tw h3 ?_
  have BB:=dd h3;refine (Oh B j.shape f.shape).go fun _=>tt ?_;apply bk <;> intro h4
  ·refine tt ?_
   have DC:=dd h4;exact A6 (by rw [codeF,if_neg (fun h=>h ⟨h1,h2⟩),if_pos ⟨BB,DC⟩]) o.sub
  ·refine tt ?_
   have DC:=dd h4;exact A6 (by rw [codeF,if_neg (fun h=>h ⟨h1,h2⟩),if_neg (fun h=>h.2 DC)]) o.sub
 ·refine tw h3 ?_
  have BB:=dd h3;exact A6 (by rw [codeF,if_neg (fun h=>h ⟨h1,h2⟩),if_neg (fun h=>BB h.1)]) o.sub
theorem H7 (B : Nat) (j : Df) : PB B 100 [.agg j.cells] (BD (Ag j.shape j.AP)):=by
 refine ⟨fun H0=>ag.go fun ⟨hf,_⟩=>?_⟩
 have N8:=hf.agg (c:=Gi j.AP) (by simp [Df.cells])
 have hl:=AL N8;simp only [AK] at hl;refine tt ?_;refine Ae iL (.nil _) fun id H o=>tt ?_;refine AD [1] (G:=Nat × List (List Int)) (fun k g=>[(3,some (.buf g.1 g.2.length)),(4,some (.int .i64 (k : Int)))]) (fun k g H=>g.2=(List.range k).map (E4 j.shape j.AP)∧AB H0 H [(g.1,.cells 1 (g.2.map iL) 0)]) j.AP.length (id,[]) ⟨rfl,o⟩ rfl ?_
 rintro k ⟨id,out⟩ H hk ⟨Av,o⟩;dsimp only at Av
 have V8 : out.length=k:=by rw [Av]; simp
 refine tt ?_;apply bk <;> intro h1
 ·refine tt ?_
  have AU:=dd h1
  have w1:=ws k
  have hRl : (j.AP.getD k default).length≤AK:=AL (by have:=IF (i:=(k : Int)) N8 (by rw [HZ]; omega); rw [AJ] at this; exact this);simp only [AK] at hRl;refine (M4 B j.shape k).go fun IL=>?_
  have VI:=AL IL;simp only [AK] at VI;refine tt ?_;refine Ae iI o fun BW H o=>tt ?_
  generalize hou : outs j.shape k=ou at *
  generalize hR : j.AP.getD k default=R at *;refine AD [1,3,4,5] (G:=Nat × List Int) (fun i g=>[(6,some (.buf g.1 g.2.length)),(7,some (.int .i64 (i : Int)))]) (fun i g H=>g.2=(ou.take i).filter (E8 R)∧AB H0 H [(g.1,.cells 1 (g.2.map iI) 0),(id,.cells 1 (out.map iL) 0)]) ou.length (BW,[]) ⟨by simp,o⟩ rfl ?_
  rintro i ⟨BW,row⟩ H hi ⟨B4,o⟩;dsimp only at B4
  have Lu : row.length≤i:=by rw [B4]; exact Ud _ _ _
  refine tt ?_;apply bk <;> intro h2
  ·refine tt ?_
   have Ah:=dd h2
   have w2:=ws i;refine AD [1,3,4,5,6,7] (G:=Bool) (fun q b=>[(8,some (.bool b)),(9,some (.int .i64 (q : Int)))]) (fun q b H'=>H'=H∧(b=true↔∀ x,x<q→ou.getD i default∈R.getD x default)) R.length true ⟨rfl,by simp⟩ rfl ?_
   rintro q b H' hq ⟨rfl,hb⟩;refine tt ?_;refine ⟨AU, ?_⟩;rw [hR];apply bk <;> intro h3
   ·refine tt ?_
    have BB:=dd h3
    have w3:=ws q;apply bk <;> intro h4
    ·refine tw h4 ?_
     have DC:=h4;refine ⟨AU, ?_⟩;rw [hR];refine ⟨BB,Ah,_,(Je ..).run, ?_⟩;refine tw w3 ?_;refine A5 _ (by omega) ⟨rfl, ?_⟩ rfl;rw [FK];exact ⟨fun h x hx=>AG (hb.mp DC) h x hx,fun h=>h q (by omega)⟩
    ·refine t2 h4 w3 ?_
     have DC:=h4;refine A5 _ (by omega) ⟨rfl, ?_⟩ rfl;refine ⟨fun h=>(by cases h),fun h=>?_⟩;rw [hb.mpr fun x hx=>h x (by omega)] at DC; cases DC
   ·refine tt ?_
    have BB:=dd h3
    obtain rfl : q=R.length:=by omega
    apply bk <;> intro h4
    ·refine tt ?_
     have DC:=h4;refine ⟨Ah, ?_⟩;refine Ac (ou.getD i default) o rfl rfl (by simp only [AK]; omega) fun BW H o=>?_;refine tw w2 ?_;exact A5 (_,_) (by omega) ⟨by rw [B4,eK Ah (c4 (hb.mp DC))],o⟩ rfl
    ·refine tw w2 ?_
     have DC:=h4;refine A5 (_,_) (by omega) ⟨?_,o⟩ rfl
     have Ev : ¬ ∀ x,x<R.length→ou.getD i default∈R.getD x default:=fun h=>by rw [hb.mpr h] at DC; cases DC
     have : ∃ x,x<R.length∧ou.getD i default ∉ R.getD x default:=Classical.byContradiction fun hn=>Ev fun x hx=>Classical.byContradiction fun h=>hn ⟨x,hx,h⟩
     obtain ⟨x,hx,hxn⟩:=this;rw [B4,eJ Ah (cD hx hxn)]
  ·refine tt ?_
   have Ah:=dd h2;refine Ak o rfl fun H o=>tt ?_;refine Ac row o rfl rfl (by simp only [AK]; omega) fun id H o=>?_;refine tw w1 ?_;refine A5 (_,_) (by omega) ⟨?_,o⟩ rfl
   have e : row=E4 j.shape j.AP k:=by rw [B4,show i=ou.length by omega,List.take_length,E4,hou,hR]
   rw [Bg,← Av,← e]
 ·refine tt ?_
  have AU:=dd h1;refine Ak o rfl fun H o=>tt ?_;exact A6 (by rw [Av,show k=j.AP.length by omega]; rfl) o.sub
theorem UL (B : Nat) (c : B0) (hs : c.Shape) (s : List Int) (hv : ∀ a,a∈s→0≤a∧a.toNat<c.AH.length) (Gd : s.length≤40) : PB B 159 [.agg c.cells,iL s] (BD (rowsOf c s)):=by
 refine ⟨fun H0=>xj.go fun _=>?_⟩
 have hm:=hs.m
 have Ma:=hs.cl
 have Hg:=hs.He;refine tt ?_;refine Ae iL (.nil _) fun id H o=>tt ?_;refine AD [1,2] (G:=Nat × List (List Int)) (fun k g=>[(5,some (.buf g.1 g.2.length)),(6,some (.int .i64 (k : Int)))]) (fun k g H=>g.2=EL c s k∧AB H0 H [(g.1,.cells 1 (g.2.map iL) 0)]) s.length (id,[]) ⟨rfl,o⟩ rfl ?_
 rintro k ⟨id,out⟩ H hk ⟨Av,o⟩;dsimp only at Av
 have V8 : out.length≤k*c.AH.length:=by rw [Av]; exact G9 c s k
 have hmul : k*c.AH.length≤40*40:=Nat.mul_le_mul (by omega) hm;refine tt ?_;apply bk <;> intro h1
 ·refine tt ?_
  have AU:=dd h1
  have w1:=ws k
  have ha:=hv _ (AE.mpr ⟨k,AU,rfl⟩)
  have hr:=hs.Ld (a:=s.getD k default) ha.2;refine AD [1,2,6] (G:=Nat × List (List Int)) (fun b g=>[(5,some (.buf g.1 g.2.length)),(7,some (.int .i64 (b : Int)))]) (fun b g H=>g.2=out++EA c s k b∧AB H0 H [(g.1,.cells 1 (g.2.map iL) 0)]) c.AH.length (id,out) ⟨by simp [EA],o⟩ rfl ?_
  rintro b ⟨id,out2⟩ H hb ⟨V6,o⟩;dsimp only at V6
  have hol2 : out2.length≤1600+b:=by rw [V6,List.length_append]; have:=PO c s k b; omega
  refine tt ?_;apply bk <;> intro h2
  ·refine tt ?_
   have Ah:=dd h2
   have w2:=ws b;refine ⟨Ah,AU,⟨ha.1,by omega⟩, ?_⟩;apply bk <;> intro h3
   ·refine tt ?_
    have BB:=dd h3;refine ⟨AU,_,(FE B c (s.getD k default) b ⟨ha.1,by omega⟩ ⟨by omega,by omega⟩).run,tt ?_⟩;refine ⟨_,(FQ ..).run,tt ?_⟩;refine ⟨by simp [AK],Ac (f:=iL) (Gt c s k b) o (by simp [Gt,mL,AJ]) rfl (by simp only [AK]; omega) fun id H o=>?_⟩;refine tw w2 ?_;exact A5 (_,_) (by omega) ⟨by rw [fL (by simpa [ZZ] using BB),V6,List.append_assoc],o⟩ rfl
   ·refine tw w2 ?_
    have BB:=dd h3;exact A5 (_,_) (by omega) ⟨by rw [fA (by simpa [ZZ] using BB),V6],o⟩ rfl
  ·refine tw w1 ?_
   have Ah:=dd h2;exact A5 (_,_) (by omega) ⟨by rw [Iv,V6,Av,show b=c.AH.length by omega],o⟩ rfl
 ·refine tt ?_
  have AU:=dd h1;refine Ak o rfl fun H o=>tt ?_;exact A6 (by rw [Av,show k=s.length by omega]; rfl) o.sub
def NG (p : List Int) : Int:=p.foldl (fun n y=>if y+1 > n then y+1 else n) 0
theorem R8 (p : List Int) {k : Nat} (h : k<p.length) : NG (p.take (k+1))=if p.getD k default+1 > NG (p.take k) then p.getD k default+1 else NG (p.take k):=by
 rw [NG,D8 p h,List.foldl_append]; rfl
theorem ZB (B : Nat) (p : List Int) (hp : ∀ y,y∈p→0≤y∧y<1048576) : PB B 240 [iL p] (.int .i64 (NG p)):=by
 refine ⟨fun H0=>c240.go fun ⟨hf,_⟩=>?_⟩
 have hl:=AL hf;simp only [AK] at hl;refine tt ?_;refine AD [0] (G:=Int) (fun k n=>[(3,some (.int .i64 n)),(4,some (.int .i64 (k : Int)))]) (fun k n H=>H=H0∧n=NG (p.take k)) p.length 0 ⟨rfl,rfl⟩ rfl ?_
 rintro k n H hk ⟨rfl,hn⟩;refine tt ?_;apply bk <;> intro h1
 ·refine tt ?_
  have AU:=dd h1
  have w1:=ws k
  have hy:=hp _ (AE.mpr ⟨k,AU,rfl⟩)
  have w2 : IntKind.i64.wrap (p.getD k default+1)=p.getD k default+1:=wrap_i64 (by omega) (by omega);refine ⟨AU, ?_⟩;refine t2 w1 w2 ?_
  exact A5 _ (by omega) ⟨rfl,by rw [R8 p AU,← hn]⟩ rfl
 ·refine tt ?_
  have AU:=dd h1;exact A6 (by rw [hn,show k=p.length by omega,List.take_length]) (.refl _)
theorem jY (p : List Int) (hp : ∀ y,y∈p→0≤y∧y<1048576) : 0≤NG p∧NG p≤1048576:=by
 have key : ∀ k,k≤p.length→0≤NG (p.take k)∧NG (p.take k)≤1048576:=by
  intro k
  induction k with
  | zero=>intro _; simp [NG]
  | succ k ih =>
   intro hk
   have:=ih (by omega)
   have hy:=hp _ (AE.mpr ⟨k,by omega,rfl⟩);rw [R8 p (by omega)]
   split <;> omega
 have:=key p.length (Nat.le_refl _)
 rwa [List.take_length] at this
theorem Q7 (B : Nat) (l : List Int) (hl : l.length≤100000) (H0 : AA) : CB B 279 [iL l] H0 (fun r H'=>H'=H0∧∃ p : List Int,p.length=l.length∧(∀ y,y∈p→0≤y∧y<1048576)∧r=iL p):=by
 refine nA.go fun _=>?_;refine tt ?_;refine Ae iI (.nil _) fun Ch H o=>tt ?_;refine Ae iI o fun BN H o=>tt ?_
 refine AD [0] (G:=(Nat × List Int) × (Nat × List Int)) (fun k g=>[(3,some (.buf g.1.1 g.1.2.length)),(4,some (.buf g.2.1 g.2.2.length)),(5,some (.int .i64 (k : Int)))])
  (fun k g H=>(g.1.2.length=k∧(∀ y,y∈g.1.2→0≤y∧y<1048576)∧g.2.2.length≤k)∧AB H0 H [(g.2.1,.cells 1 (g.2.2.map iI) 0),(g.1.1,.cells 1 (g.1.2.map iI) 0)]) l.length ((Ch,[]),(BN,[])) ⟨⟨rfl,by simp,by simp⟩,o⟩ rfl ?_
 rintro k ⟨⟨Ch,out⟩,⟨BN,seen⟩⟩ H hk ⟨⟨V8,tr,Gd⟩,o⟩;dsimp only at o V8 tr Gd;refine tt ?_;apply bk <;> intro h1
 ·refine tt ?_
  have AU:=dd h1
  have w1:=ws k;refine ⟨AU,MO 0 rfl o rfl (.int _ _) (FQ ..).run ?_⟩
  have hb:=Hp seen (l.getD k default);refine tt ?_;apply bk <;> intro h2
  ·refine tt ?_
   have Ah:=dd h2;refine ⟨AU, ?_⟩;refine Ac (l.getD k default) o rfl rfl (by simp only [AK]; omega) fun BN H o=>tt ?_;refine Ac ((seen.length : Nat) : Int) o.swap rfl rfl (by simp only [AK]; omega) fun Ch H o=>?_;refine tw w1 ?_;refine A5 ((_,_),(_,_)) (by omega) ⟨⟨by simp [V8],fun y hy=>?_,by simp; omega⟩,o.swap⟩ rfl
   rcases List.mem_append.mp hy with hy | hy
   ·exact tr y hy
   ·rw [List.mem_singleton] at hy; subst hy; omega
  ·refine tt ?_
   have Ah:=dd h2;refine Ac (indexOf seen (l.getD k default)) o.swap rfl rfl (by simp only [AK]; omega) fun Ch H o=>?_;refine tw w1 ?_;refine A5 ((_,_),(_,_)) (by omega) ⟨⟨by simp [V8],fun y hy=>?_,by simp; omega⟩,o.swap⟩ rfl
   rcases List.mem_append.mp hy with hy | hy
   ·exact tr y hy
   ·rw [List.mem_singleton] at hy; subst hy; omega
 ·refine tt ?_
  have AU:=dd h1;refine Ak o.swap rfl fun H o=>tt ?_;exact ⟨_,o.sub,rfl,out,by omega,tr,rfl⟩
theorem WU (B : Nat) (n : Nat) (hn : n≤100000) (ps : List (List Int)) (hp : ∀ q,q∈ps→2≤q.length∧(0≤q.getD 0 default∧(q.getD 0 default).toNat<n)∧(0≤q.getD 1 default∧(q.getD 1 default).toNat<n)) (H0 : AA) :
  CB B 229 [.int .i64 n,BD ps] H0 (fun r H'=>H'=H0∧∃ p : List Int,p.length=n∧(∀ y,y∈p→0≤y∧y<1048576)∧r=iL p):=by
 refine mR.go fun ⟨_,hf,_⟩=>?_
 have hl:=AL hf;simp only [AK] at hl;refine tt ?_;refine Ae iI (.nil _) fun id H o=>tt ?_;refine AD [0,1] (G:=Nat × List Int) (fun k g=>[(5,some (.buf g.1 g.2.length)),(6,some (.int .i64 (k : Int)))]) (fun k g H=>g.2.length=k∧AB H0 H [(g.1,.cells 1 (g.2.map iI) 0)]) n (id,[]) ⟨rfl,o⟩ rfl ?_
 rintro k ⟨id,A⟩ H hk ⟨hA,o⟩;dsimp only at hA;refine tt ?_;apply bk <;> intro h1
 ·refine tt ?_
  have AU:=dd h1
  have w1:=ws k;refine Ac (k : Int) o rfl rfl (by simp only [AK]; omega) fun id H o=>?_;refine tw w1 ?_;exact A5 (_,_) (by omega) ⟨by simp [hA],o⟩ rfl
 ·refine tt ?_
  have AU:=dd h1
  obtain rfl : k=n:=by omega
  refine AD [1,5] (fun q _=>[(7,some (.int .i64 (q : Int)))]) (fun q A H=>A.length=k∧AB H0 H [(id,.cells 1 (A.map iI) 0)]) ps.length A ⟨hA,o⟩ rfl ?_
  rintro q A2 H hq ⟨YN,o⟩;refine tt ?_;apply bk <;> intro h2
  ·refine tt ?_
   have Ah:=dd h2
   have w2:=ws q
   have qW:=hp _ (AE.mpr ⟨q,Ah,rfl⟩)
   have e0 : ix (ps.getD q default) 0=(ps.getD q default).getD 0 default:=rfl
   have e1 : ix (ps.getD q default) 1=(ps.getD q default).getD 1 default:=rfl;refine ⟨Ah,⟨by omega,Nat.lt_of_lt_of_le (by decide) qW.1⟩,⟨by rw [e0]; omega,by rw [e0]; omega⟩,BX o (by rw [e0]; omega) ?_⟩;refine tt ?_;refine ⟨Ah,⟨by omega,Nat.lt_of_lt_of_le (by decide) qW.1⟩,⟨by rw [e1]; omega,by rw [e1]; omega⟩,BX o (by rw [e1]; omega) ?_⟩;refine tt ?_;refine AD [1,5,7,8,9] (fun i _=>[(10,some (.int .i64 (i : Int)))]) (fun i A H=>A.length=k∧AB H0 H [(id,.cells 1 (A.map iI) 0)]) k A2 ⟨YN,o⟩ rfl ?_
   rintro i A3 H hi ⟨lU,o⟩;rw [hA];refine tt ?_;apply bk <;> intro h3
   ·refine tw h3 ?_
    have BB:=dd h3
    have w3:=ws i;apply bk <;> intro h4
    ·refine tt ?_
     have DC:=dd h4;refine ⟨BB,BX o (by omega) ?_⟩;refine tt ?_;apply bk <;> intro h5
     ·refine tt ?_
      have Hj:=dd h5;refine ⟨BB,C4 _ o rfl (by omega) fun H o=>?_⟩;refine tw w3 ?_;exact A5 _ (by omega) ⟨by rw [List.length_set]; exact lU,o⟩ rfl
     ·refine tw w3 ?_;exact A5 _ (by omega) ⟨lU,o⟩ rfl
    ·refine tw w2 ?_;exact A5 _ (by omega) ⟨lU,o⟩ rfl
   ·refine t2 h3 w2 ?_
    exact A5 _ (by omega) ⟨lU,o⟩ rfl
  ·refine tt ?_
   have Ah:=dd h2;rw [hA,← YN];refine Ak o rfl fun H o=>tt ?_;refine (Q7 B A2 (by omega) H).mono ?_
   rintro r H' ⟨rfl,p,h3,h4,rfl⟩;refine tt ?_;exact ⟨_,o.sub,rfl,p,by omega,h4,rfl⟩
@[go_sem] def Bz (A4 : List Int) (ls : List Lk) (at' : List (List Int)) (most : Nat) (X : AV) : List AV:=[iL A4,mL iH ls,BD at',.int .i64 most,X]
theorem Oz (B : Nat) (A4 : List Int) (ls : List Lk) (at' : List (List Int)) (most : Nat) (X : AV) (ok : H8 A4 ls) (ha : k0 A4 ls at') (p : List Int) (hp : JM A4 p) (n : Nat) (hn : n<p.length) (h1 : p.getD n default=-1) (H0 : AA) :
  CB B 285 [.ptr (Bz A4 ls at' most X),iL p,.int .i64 n] H0 (P9 iI H0 [] (·=Bt A4 ls p n)):=by
 refine bp.go fun ⟨hfT,_⟩=>?_
 have Pj : AV.Eb (BD at'):=hfT.ptr (by simp [Bz])
 have Ko:=hp.1
 have II:=ha.len
 have hanl : (at'.getD n default).length≤AK:=AL (by have:=IF (i:=(n : Int)) Pj (by rw [HZ]; omega); rw [AJ] at this; exact this);simp only [AK] at hanl
 have CW:=ok.sz _ (AE.mpr ⟨n,by omega,rfl⟩);refine tt ?_;refine Ae iI (.nil _) fun id H o=>tt ?_;refine AD [0,1,2] (G:=Nat × List Int) (fun e g=>[(7,some (.buf g.1 g.2.length)),(8,some (.int .i64 (e : Int)))]) (fun e g H=>g.2=Ea (cS ls p n) e∧AB H0 H [(g.1,.cells 1 (g.2.map iI) 0)]) (A4.getD n default).toNat (id,[]) ⟨by simp,o⟩ rfl ?_
 rintro e ⟨id,out⟩ H he ⟨Av,o⟩;dsimp only at Av
 have V8 : out.length≤e:=by rw [Av]; exact Iz _ _
 refine tt ?_;refine ⟨by omega, ?_⟩;apply bk <;> intro h2
 rotate_left
 ·refine tt ?_
  have Ah:=dd h2;exact H5 o rfl (by rw [Av,show e=(A4.getD n default).toNat by omega]; rfl)
 refine tt ?_
 have Ah:=dd h2
 have w1:=ws e
 generalize QV : at'.getD n default=an at *;refine AD [0,1,2,7,8] (G:=Bool) (fun k b=>[(9,some (.bool b)),(10,some (.int .i64 (k : Int)))]) (fun k b H=>(b=true↔∀ j,j<k→Fits (p.set n e) (ix ls (an.getD j default)))∧AB H0 H [(id,.cells 1 (out.map iI) 0)]) an.length true ⟨by simp,o⟩ rfl ?_
 rintro k b H hk ⟨hb,o⟩;refine tt ?_;refine ⟨by omega, ?_⟩;rw [QV]
 have fin : ∀ (b : Bool) (k : Nat) (H : AA),AB H0 H [(id,.cells 1 (out.map iI) 0)]→k≤an.length→(b=true↔∀ j,j<k→Fits (p.set n e) (ix ls (an.getD j default)))→(b=false∨k=an.length)→(cS ls p n e=b):=by
  intro b k H o hk hb hx
  have hc:=oK ha (p:=p) (e:=(e : Int)) (n:=n) (by omega);rw [QV] at hc
  cases b with
  | true =>
   rw [cS,FK,hc]
   have hk : k=an.length:=by rcases hx with h | h; cases h; exact h
   rw [← hk]; exact hb.mp rfl
  | false =>
   rw [cS,Oi,hc]
   intro h
   have:=hb.mpr fun j hj=>h j (by omega)
   cases this
 apply bk <;> intro h3
 rotate_left
 ·refine tw h3 ?_
  have BB:=dd h3
  have gV:=fin b k H o hk hb (.inr (by omega));apply bk <;> intro h4
  ·refine tw h4 ?_;refine Ac (e : Int) o rfl rfl (by simp only [AK]; omega) fun id H o=>?_;refine tw w1 ?_;exact A5 (_,_) (by omega) ⟨by rw [Av,SZ (by rw [gV]; exact h4)],o⟩ rfl
  ·refine t2 h4 w1 ?_
   exact A5 (_,_) (by omega) ⟨by rw [Av,MH (by rw [gV]; exact h4)],o⟩ rfl
 refine tw h3 ?_
 have BB:=dd h3;apply bk <;> intro h4
 rotate_left
 ·refine t2 h4 w1 ?_
  have gV:=fin b k H o hk hb (.inl h4);exact A5 (_,_) (by omega) ⟨by rw [Av,MH (by rw [gV]; exact h4)],o⟩ rfl
 refine tw h4 ?_
 have jx:=hb.mp h4
 have w3:=ws k
 have hy:=(ha.mem n (by omega) _).mp (by rw [QV]; exact AE.mpr ⟨k,BB,rfl⟩);refine ⟨by omega, ?_⟩;rw [QV];refine tt ?_;refine ⟨BB,⟨hy.1,hy.2.1⟩,by simp [AK],Am o fun CS H o=>?_⟩;refine tt ?_;refine sw o fun H o=>tt ?_
 have CH : ix ls (an.getD k default)∈ls:=Bi hy.2.1
 have hti : (ix ls (an.getD k default)).i=n∨(ix ls (an.getD k default)).j=n:=hy.2.2
 have next : ∀ (b2 : Bool),(b2=true↔Fits (p.set n e) (ix ls (an.getD k default)))→(b2=true↔∀ j,j<k+1→Fits (p.set n e) (ix ls (an.getD j default))) :=
  fun b2 h=>h.trans ⟨fun hf=>AG jx hf,fun h=>h k (by omega)⟩
 generalize ix ls (an.getD k default)=lk at *
 have bi:=ok.i lk CH
 have bj:=ok.j lk CH
 have bl:=ok.left lk CH
 have br:=ok.right lk CH
 have pv : ∀ i : Int,i.toNat<p.length→0≤ix p i→ix p i<ix A4 i:=fun i hi h0=>by
  rcases hp.2 _ hi with h | h
  ·simp only [ix] at h0; omega
  ·exact h.2
 have szn : ix A4 (n : Int)=A4.getD n default:=AJ _ _;refine AN o (by simp) (tt ?_);apply bk <;> intro c1
 ·refine tw c1 ?_
  have c1p:=A7 c1;refine AN o (by simp) (tt ?_);apply bk <;> intro c2
  ·refine tt ?_
   have c2p:=A7 c2;refine AN o (by simp) (tt ?_);rw [c1p,szn] at bl;rw [c2p,szn] at br;refine ⟨by omega,AN o (by simp) ?_⟩;refine tt ?_;refine ⟨by omega, ?_⟩;refine tw w3 ?_;refine A5 _ (by omega) ⟨next _ ?_,o.tl⟩ rfl;rw [decide_eq_true_eq,qH c1p c2p hn (by omega),AJ,AJ]
  ·refine tt ?_
   have c2p:=A9 c2;refine AN o (by simp) ?_;refine tw c1 ?_;refine AN o (by simp) (tt ?_);refine ⟨⟨bj.1,by omega⟩, ?_⟩;apply bk <;> intro c3
   ·refine tt ?_
    have c3p:=A7 c3;refine AN o (by simp) (tt ?_);rw [c1p,szn] at bl
    have:=pv _ (by omega) c3p;refine ⟨by omega,AN o (by simp) ?_⟩;refine tt ?_;refine AN o (by simp) (tt ?_);refine ⟨⟨bj.1,by omega⟩,⟨c3p,by omega⟩, ?_⟩;refine tw w3 ?_;refine A5 _ (by omega) ⟨next _ ?_,o.tl⟩ rfl;rw [decide_eq_true_eq,pF c1p c2p bj.1 hn (by omega) c3p,AJ]
   ·refine tt ?_
    have c3p:=A9 c3;refine AN o (by simp) ?_;refine tw c2 ?_;refine A5 _ (by omega) ⟨next _ ?_,o.tl⟩ (by rw [w3]);exact ⟨fun _=>jZ c2p bj.1 c3p,fun _=>rfl⟩
 ·refine tw c1 ?_
  have c1p:=A9 c1
  have c2p:=hti.resolve_left c1p;refine AN o (by simp) ?_;refine tw c1 ?_;refine AN o (by simp) (tt ?_);apply bk <;> intro c2
  rotate_left
  ·exact absurd c2p (A9 c2)
  refine tw c2 ?_;refine AN o (by simp) (tt ?_);refine ⟨⟨bi.1,by omega⟩, ?_⟩;apply bk <;> intro c3
  ·refine tt ?_
   have c3p:=A7 c3;refine AN o (by simp) (tt ?_);refine AN o (by simp) (tt ?_);rw [c2p,szn] at br
   have:=pv _ (by omega) c3p;refine ⟨⟨bi.1,by omega⟩,⟨c3p,by omega⟩,AN o (by simp) ?_⟩;refine tt ?_;refine ⟨by omega, ?_⟩;refine tw w3 ?_;refine A5 _ (by omega) ⟨next _ ?_,o.tl⟩ rfl;rw [decide_eq_true_eq,pN c2p c1p bi.1 hn (by omega) c3p,AJ]
  ·refine tt ?_
   have c3p:=A9 c3;refine A5 _ (by omega) ⟨next _ ?_,o.tl⟩ (by rw [w3]);exact ⟨fun _=>kH c1p bi.1 c3p,fun _=>rfl⟩
end Go.Proofs.Shf
namespace Go.AW
open Go.Proofs Go.Shf Go.Proofs.Shf
theorem BG.XZ {P : Program} {α : Type} {f : α→AV} {B : Nat} {fn : FuncId} {args es : List AV} {H0 H : AA} {base : List (Nat × AF)} {Q : List α→Prop} {K : Ap} (o : AB H0 H base) (D4 : ∀ a,Cr (f a)) (hl : es.length=args.length)
  (ht : ∀ i,i<args.length→∀ g w v,Ao g B H w→Ad g (args.getD i nv) v→Ad (g.Em H w) (es.getD i nv) v)
  (h : BG P B fn es H.Q4 (P9 f H.Q4 [] Q)) (hk : ∀ id A H',AB H0 H' ((id,.cells 1 (A.map f) 0)::base)→Q A→K (.buf id A.length) H') : BG P B fn args H K :=
 BG.borrow hl ht h fun r H' ⟨id,A,e,o',q⟩=>⟨[(id,.cells 1 (A.map f) 0)],o',fun x hx=>by
   rw [List.mem_singleton] at hx; subst hx
   intro c hc
   obtain ⟨a,_,rfl⟩:=List.mem_map.mp hc;exact D4 a,e ▸ Cr.buf _ _,fun hn=>by subst e; exact hk id A _ (o.trans (AB.Q4 o' hn)) q⟩
end Go.AW
namespace Go.Proofs.Shf
open Go.AW Go.Proofs Go.Shf
theorem RD (B : Nat) (A4 : List Int) (ls : List Lk) (at' : List (List Int)) (most : Nat) (HD : most≤1048576) (ok : H8 A4 ls) (ha : k0 A4 ls at') (Gd : A4.length≤1048576) :
  ∀ (n : Nat) (p : List Int),DY p=n→JM A4 p→Cons ls p→∀ (H0 H : AA) (l : List (Nat × AF)) (V9 : Nat) (X : AV) (found : List (List Int)),
   Cb iL H0 H ((V9,.cells 5 (Bz A4 ls at' most X) 0)::l) X found→found.length<most →
   CB B 241 [.ref V9 0,iL p] H (fun r H'=>r=.CK []∧∃ X',Cb iL H0 H' ((V9,.cells 5 (Bz A4 ls at' most X') 0)::l) X' (found++(H6 A4 ls p).take (most - found.length))):=by
 intro n
 induction n using Nat.strongRecOn with
 | _ n ih =>
 intro p hn hp hc H0 H l V9 X found hX G7;refine ab.go fun _=>?_
 have Ko:=hp.1
 obtain ⟨pp,o,VF⟩:=hX.split;clear hX;refine tt ?_;refine Ae iI o fun gB H o=>?_
 have wl : IntKind.i64.wrap ((p.length : Int) - 1)=(p.length : Int) - 1:=wrap_i64 (by omega) (by omega);refine tw wl ?_
 refine De [0,1] (fun (g : (Nat × List Int) × Nat × Int)=>[(4,some (.int .i64 g.2.2)),(5,some (.buf g.1.1 g.1.2.length)),(6,some (.int .i64 ((g.2.1 : Int) - 1)))])
  (fun k g H=>k=g.2.1∧k≤p.length∧qC A4 ls p g.2.1 g.2.2 g.1.2∧AB H0 H ((g.1.1,.cells 1 (g.1.2.map iI) 0)::(pp++((V9,.cells 5 (Bz A4 ls at' most X) 0)::l)))) p.length ((gB,[]),p.length,-1)
  ⟨rfl,Nat.le_refl _,.inl ⟨rfl,rfl,fun m h1 h2=>by have h1 : p.length≤m:=h1; omega⟩,o⟩ rfl ?_
 rintro k ⟨⟨gB,ch⟩,k',first⟩ H ⟨Sv,hk,hg,o⟩
 obtain rfl : k=k':=Sv;dsimp only at hg o;refine tt ?_;apply bk <;> intro h1
 ·refine tt ?_
  have AU:=A7 h1
  obtain ⟨m,rfl⟩ : ∃ m,k=m+1:=⟨k - 1,by omega⟩
  have e1 : ((m+1 : Nat) : Int) - 1=(m : Int):=by omega
  have wm : IntKind.i64.wrap ((m : Int) - 1)=(m : Int) - 1:=wrap_i64 (by omega) (by omega);refine tw e1 ?_;refine ⟨by omega, ?_⟩;apply bk <;> intro h2
  ·refine tt ?_
   have Ah:=A7 h2;refine BG.XZ (f:=iI) (Q:=(·=Bt A4 ls p m)) (es:=[.ptr (Bz A4 ls at' most X),iL p,.int .i64 m]) o (fun _=>.int _ _) rfl (fun i hi=>?_) (Oz B A4 ls at' most X ok ha p hp m (by omega) Ah H.Q4) ?_
   ·obtain rfl | rfl | rfl : i=0∨i=1∨i=2:=by simp only [List.length_cons,List.length_nil] at hi; omega
    ·have hg : H.get V9=some (.cells 5 (Bz A4 ls at' most X) 0):=o.get (V9,_) (by simp);exact (Tr.ref V9 5 0 _ _ hg rfl fun i _=>.val _).arg
    ·exact DT _
    ·exact DT _
   rintro ES ch2 H o rfl;refine tt ?_;apply bk <;> intro h3
   ·refine tt ?_
    have BB:=A7 h3
    have rJ : Bt A4 ls p m=[]:=List.eq_nil_of_length_eq_zero (by omega);refine ⟨_,.refl _,rfl,X, ?_⟩;rw [GH (Z9 ok Ko (by omega) Ah rJ),List.take_nil,List.append_nil];exact Cb.mk o.tl.tl VF
   ·refine tw wm ?_
    have BB:=A9 h3;refine CY m ((_,_),m,_) (by omega) ⟨rfl,by omega,qC.WV (by omega) Ah fun e=>BB (by rw [e]; rfl),o.swap.tl⟩ rfl
  ·refine tw wm ?_
   have Ah:=A9 h2;exact CY m ((_,_),m,_) (by omega) ⟨rfl,by omega,hg.skip Ah,o⟩ rfl
 ·refine tt ?_
  have AU:=A9 h1
  obtain rfl : k=0:=by omega
  apply bk <;> intro h5
  ·have Hj:=A7 h5
   rcases hg with ⟨rfl,rfl,Aj⟩ | ⟨f,rfl,_⟩
   rotate_left
   ·omega
   refine tt ?_
   have nU:=Od (A4:=A4) hc fun m hm=>Aj m (by omega) hm
   have hX:=Cb.mk o.tl VF;refine Al hX.obj (by simp [Bz]) (tt ?_);refine ⟨_,(Dg B p).run,tt ?_⟩;refine hX.app p rfl (by simp only [AK]; omega) fun ES H o=>tt ?_;refine Aq o.swap (by simp [Bz]) rfl (by simp only [Bu,CZ]; exact ⟨rfl,trivial⟩) fun H o=>?_;have o:=s2 o;refine tt ?_;refine ⟨_,.refl _,rfl,.buf ES (found++[p]).length,.inr ⟨ES, ?_, ?_⟩⟩
   ·rw [GH nU,List.take_of_length_le (by simp; omega)]
   ·rw [GH nU,List.take_of_length_le (by simp; omega)]; exact o.swap
  ·have Hj:=A9 h5
   rcases hg with ⟨rfl,rfl,Aj⟩ | ⟨f,rfl,_,gP,T5,Pn,rfl,Bq⟩
   ·omega
   refine tt ?_
   have Ma : (Bt A4 ls p f).length≤17:=by
    have:=Iz (cS ls p f) (A4.getD f default).toNat
    have h2:=ok.sz _ (AE.mpr ⟨f,by omega,rfl⟩);rw [Bt]; omega
   have D1:=TE ok hp hc gP T5 fun m hm=>Pn m (by omega) hm
   generalize rN : Bt A4 ls p f=ch at *
   have hchm : ∀ e,e∈ch→(0≤e∧e<A4.getD f default)∧tO ls p f e:=fun e he=>FP.mp (by rw [rN]; exact he)
   have tx:=Cb.mk (l:=(V9,AF.cells 5 (Bz A4 ls at' most X) 0)::((gB,AF.cells 1 (ch.map iI) 0)::l)) (X:=X) (A:=found) (f:=iL) (p:=pp) (o.perm (((List.perm_middle (a:=(gB,AF.cells 1 (ch.map iI) 0)) (l₁:=pp)).symm).trans (List.Perm.append_left _ (List.Perm.swap _ _ _)))) VF
   have VG : (most - found.length)+found.length=most:=by omega
   refine AD [0,1,4,5] (fun k _=>[(7,some (.int .i64 (k : Int)))]) (fun k X H=>Cb iL H0 H ((V9,.cells 5 (Bz A4 ls at' most X) 0)::((gB,.cells 1 (ch.map iI) 0)::l)) X (found++((ch.take k).flatMap fun e=>H6 A4 ls (p.set f e)).take (most - found.length))) ch.length X (by simpa using tx) rfl ?_
   rintro k X H hk hX
   have gW : ∀ X H,Cb iL H0 H ((V9,.cells 5 (Bz A4 ls at' most X) 0)::((gB,.cells 1 (ch.map iI) 0)::l)) X (found++(H6 A4 ls p).take (most - found.length)) →
     ∃ X',Cb iL H0 H ((V9,.cells 5 (Bz A4 ls at' most X') 0)::l) X' (found++(H6 A4 ls p).take (most - found.length)):=by
    intro X H hX
    obtain ⟨q,o,hq⟩:=hX.split;refine ⟨X,Cb.mk (p:=q) ?_ hq⟩
    have o2:=o.perm ((List.Perm.append_left q (List.Perm.swap _ _ l)).trans (List.perm_middle (a:=(gB,AF.cells 1 (ch.map iI) 0)) (l₁:=q)));exact o2.tl
   refine tt ?_;apply bk <;> intro h2
   rotate_left
   ·refine tw h2 ?_
    have Ah:=A9 h2
    obtain rfl : k=ch.length:=by omega
    rw [List.take_length,← D1] at hX;exact ⟨_,.refl _,rfl,gW _ _ hX⟩
   refine tw h2 ?_
   have Ah:=A7 h2
   have w2:=ws k;refine Al hX.obj (by simp [Bz]) (tt ?_);rw [hX.FF];refine tt ?_;refine Al hX.obj (by simp [Bz]) (tt ?_);apply bk <;> intro h3
   rotate_left
   ·refine tt ?_
    have BB:=A9 h3;refine ⟨H,.refl _,rfl,gW X H ?_⟩
    have e : ((ch.take k).flatMap fun e=>H6 A4 ls (p.set f e)).take (most - found.length)=(H6 A4 ls p).take (most - found.length):=by
     rw [D1]
     conv=>rhs; rw [← List.take_append_drop k ch,List.flatMap_append]
     rw [List.take_append_of_le_length];rw [List.length_append,List.length_take] at BB;omega
    rw [← e]; exact hX
   refine tt ?_
   have BB:=A7 h3
   obtain ⟨q,o,hq⟩:=hX.split;refine (ID B p H0 H _ o).own ?_
   rintro Ec A8 H o rfl;refine tt ?_
   have aQ : H.get gB=some (.cells 1 (ch.map iI) 0):=o.get (gB,.cells 1 (ch.map iI) 0) (by simp);refine ⟨Ah,CD aQ Ah ?_⟩;refine tt ?_;refine ⟨by omega,C4 (ch.getD k default) o rfl (by omega) fun H o=>?_⟩;refine tt ?_;refine LV 1 rfl o (by rw [List.length_set]) fun H o=>?_;simp only [List.set_cons_succ,List.set_cons_zero]
   have hce:=hchm _ (AE.mpr ⟨k,Ah,rfl⟩)
   have D3 : ((ch.take k).flatMap fun e=>H6 A4 ls (A8.set f e)).length<most - found.length:=by
    rw [List.length_append,List.length_take] at BB; omega
   refine (ih _ (hn ▸ MY gP T5 hce.1.1) _ rfl (hp.set hce.1) (Nl ok hc hce.2) H0 H _ V9 X _ (Cb.mk o hq) BB).mono ?_
   rintro r H' ⟨rfl,X',Jw⟩;refine tw w2 ?_;refine A5 X' (by omega) ?_ rfl
   have e : found++((ch.take (k+1)).flatMap fun e=>H6 A4 ls (A8.set f e)).take (most - found.length) =
     (found++((ch.take k).flatMap fun e=>H6 A4 ls (A8.set f e)).take (most - found.length))++(H6 A4 ls (A8.set f (ch.getD k default))).take (most - (found++((ch.take k).flatMap fun e=>H6 A4 ls (A8.set f e)).take (most - found.length)).length):=by
    rw [D8 ch Ah,List.flatMap_append,List.flatMap_singleton,← Zd _ _ _ D3,List.append_assoc,List.length_append]
    congr 3
    omega
   rw [e]; exact Jw
def GD (l : Lk) : List Int:=[l.i,l.j]
theorem TV (B : Nat) (A4 : List Int) (ls : List Lk) (most : Nat) (VG : 0<most) (HD : most≤1048576) (ok : H8 A4 ls) (Gd : A4.length≤40) (QW : ls.length≤1600) :
  PB B 161 [iL A4,mL iH ls,.int .i64 most] (BD ((Vk A4 ls).take most)):=by
 refine ⟨fun H0=>cw.go fun _=>tt ?_⟩;refine ⟨⟨by omega,by simp only [AK]; omega⟩, ?_⟩;rw [Jl];refine Af (.nil _) fun Ec H o=>tt ?_
 refine AD [0,1,2,8] (G:=(AV × List (List Int)) × List AV × List (List Int) × List (Nat × AF)) (fun k g=>[(7,some g.1.1),(9,some (.int .i64 (k : Int)))])
  (fun k g H=>uG iL H0 H ((Ec,.cells 1 g.2.1 0)::g.2.2.2) g.1.1 g.1.2∧Ez iI g.2.1 g.2.2.1 g.2.2.2∧g.1.2=(ls.take k).map GD∧jT A4.length ls k g.2.2.1) ls.length ((.FI,[]),(List.replicate A4.length .A1,List.replicate A4.length [],[]))
  ⟨.inl ⟨rfl,rfl,o⟩,Ez.rep iI _,by simp,jT.zero _ _⟩ rfl ?_
 rintro k ⟨⟨Xp,P⟩,Xs,As,ob⟩ H hk ⟨hE,hR,hP,hA⟩;dsimp only at hE hR hP hA
 have JN:=hR.len
 have Lt:=hA.len
 have vI : P.length=k:=by rw [hP]; simp; omega
 refine tt ?_;apply bk <;> intro h1
 ·refine tt ?_
  have AU:=A7 h1
  have w1:=ws k
  have CH : ls.getD k default∈ls:=AE.mpr ⟨k,AU,rfl⟩
  have bi:=ok.i _ CH
  have bj:=ok.j _ CH;refine ⟨AU,AU, ?_⟩;refine hE.app (f:=iL) (GD (ls.getD k default)) rfl (by simp only [AK]; omega) fun sF H o=>tt ?_
  obtain ⟨i,hi⟩ : ∃ i : Nat,(ls.getD k default).i=i:=⟨(ls.getD k default).i.toNat,by omega⟩
  obtain ⟨j,hj⟩ : ∃ j : Nat,(ls.getD k default).j=j:=⟨(ls.getD k default).j.toNat,by omega⟩
  have D1:=hA.step (i:=i) (j:=j) (by omega) (by omega) hi hj
  have hPs : P++[GD (ls.getD k default)]=(ls.take (k+1)).map GD:=by rw [BS ls GD AU,hP]
  refine ⟨bi,Al o.tl.h0 (by omega) ?_⟩;refine tt ?_
  refine HP (l:=[(sF,.cells 1 ((P++[GD (ls.getD k default)]).map iL) 0)]) (o.perm ((List.Perm.swap _ _ _).trans (List.Perm.cons _ (List.perm_append_singleton _ _).symm))) hR (by omega) (k : Int) rfl
   (by have:=hA.lens (ls.getD k default).i.toNat bi.2; simp only [AK]; omega) fun X' o' H T7 hR o=>?_
  try simp only [go_sem,↓reduceIte,reduceEqDiff,reduceAdd,reduceMul,reduceLeDiff,reduceLT,AV.cells_one T7]
  refine ⟨bi,Aq o (by omega) rfl (by simp only [Bu,CZ]; exact ⟨T7,trivial⟩) fun H o=>?_⟩;simp only [Fw,Ht] at o;refine tt ?_
  have YG : ∀ {Xs : List AV} {o' : List (Nat × AF)} {H : AA},AB H0 H ((Ec,.cells 1 Xs 0)::(o'++[(sF,.cells 1 ((P++[GD (ls.getD k default)]).map iL) 0)]))→uG iL H0 H ((Ec,.cells 1 Xs 0)::o') (.buf sF (P++[GD (ls.getD k default)]).length) (P++[GD (ls.getD k default)]):=by
   intro Xs o' H o;exact .inr ⟨sF,rfl,o.perm (List.perm_append_singleton (sF,AF.cells 1 ((P++[GD (ls.getD k default)]).map iL) 0) ((Ec,AF.cells 1 Xs 0)::o'))⟩
  rw [hi] at hR o;rw [Int.toNat_natCast] at hR o;apply bk <;> intro h2
  ·refine tt ?_
   have Ah : ¬ i=j:=fun e=>by rw [hi,hj,e] at h2; simp at h2
   rw [if_neg Ah] at D1
   have Ia : ((As.set i (As.getD i []++[(k : Int)])).getD j []).length≤1601:=by
    have:=D1.lens j (by omega);rw [BL,if_pos ⟨rfl,by rw [List.length_set]; omega⟩,List.length_append] at this;omega
   refine ⟨bj,Al o.h0 (by rw [List.length_set]; omega) ?_⟩;refine tt ?_;refine HP o hR (by rw [List.length_set]; omega) (k : Int) rfl (by simp only [AK]; rw [hj,Int.toNat_natCast]; omega) fun X2 o2 H Wx hR o=>?_;try simp only [go_sem,↓reduceIte,reduceEqDiff,reduceAdd,reduceMul,reduceLeDiff,reduceLT,AV.cells_one Wx]
   refine ⟨bj,Aq o (by rw [List.length_set]; omega) rfl (by simp only [Bu,CZ]; exact ⟨Wx,trivial⟩) fun H o=>?_⟩;simp only [Fw,Ht] at o;rw [hj] at hR o;rw [Int.toNat_natCast] at hR o;refine tw w1 ?_;exact A5 ((_,_),(_,_,_)) (by omega) ⟨YG o,hR,hPs,D1⟩ rfl
  ·refine tw w1 ?_
   have Ah : i=j:=by
    rw [hi,hj] at h2
    have : (i : Int)=j:=by simpa using h2
    omega
   rw [if_pos Ah] at D1;exact A5 ((_,_),(_,_,_)) (by omega) ⟨YG o,hR,hPs,D1⟩ rfl
 ·refine tt ?_
  have AU:=A9 h1
  obtain rfl : k=ls.length:=by omega
  rw [List.take_length] at hP
  have hAt:=hA.ok
  obtain ⟨ope,hpe⟩ : ∃ q,q=ob:=⟨_,rfl⟩;refine Xb 7 hE rfl fun H o=>?_;refine Cy (l:=[]) hR [] H (by simpa using o) fun H o=>AX ?_;rw [List.nil_append] at o
  have e8 : A4.length=As.length:=Lt.symm;refine tt ?_;rw [e8];refine Ak o rfl fun H o=>?_;rw [Lt];refine tt ?_;refine (WU B A4.length (by omega) P (fun q hq=>?_) H).mono ?_
  ·rw [hP] at hq
   obtain ⟨l,hl,rfl⟩:=List.mem_map.mp hq;exact ⟨by simp [GD],ok.i l hl,ok.j l hl⟩
  rintro r H' ⟨rfl,parts,Ko,Ux,rfl⟩;refine tt ?_
  have htb:=jY parts Ux;refine AD [0,1,2,8,12] (fun q _=>[(13,some (.int .i64 (q : Int)))]) (fun q _ H=>AB H0 H []) (NG parts).toNat () o rfl ?_
  rintro q _ H hq o;refine tt ?_;refine (ZB B parts Ux).go fun _=>tt ?_;apply bk <;> intro h2
  ·refine tt ?_
   have Ah:=A7 h2
   have w2:=ws q;refine Ae iI o fun id H o=>tt ?_;refine AD [0,1,2,8,12,13] (G:=Nat × List Int) (fun n g=>[(14,some (.buf g.1 g.2.length)),(15,some (.int .i64 (n : Int)))]) (fun n g H=>(g.2.length=n∧∀ m,m<n→g.2.getD m default=-1∨g.2.getD m default=-2)∧AB H0 H [(g.1,.cells 1 (g.2.map iI) 0)]) A4.length (id,[]) ⟨⟨rfl,by simp⟩,o⟩ rfl ?_
   rintro n ⟨id,list⟩ H hn ⟨⟨Zw,jy⟩,o⟩;dsimp only at o Zw jy
   have Lq : ∀ (y : Int),y=-1∨y=-2→∀ m,m<n+1→(list++[y]).getD m default=-1∨(list++[y]).getD m default=-2:=by
    intro y hy m hm;rw [gE,List.getElem?_append]
    split
    ·have:=jy m (by omega); rwa [gE] at this
    ·rw [show m - list.length=0 by omega]; simpa using hy
   refine tt ?_;apply bk <;> intro h3
   ·refine tt ?_
    have BB:=A7 h3
    have w3:=ws n;refine ⟨by omega, ?_⟩;apply bk <;> intro h4
    ·refine tt ?_;refine Ac (-1 : Int) o rfl rfl (by simp only [AK]; omega) fun id H o=>?_;refine tw w3 ?_;exact A5 (_,_) (by omega) ⟨⟨by simp [Zw],Lq _ (.inl rfl)⟩,o⟩ rfl
    ·refine tt ?_;refine Ac (-2 : Int) o rfl rfl (by simp only [AK]; omega) fun id H o=>?_;refine tw w3 ?_;exact A5 (_,_) (by omega) ⟨⟨by simp [Zw],Lq _ (.inr rfl)⟩,o⟩ rfl
   ·refine tt ?_
    have BB:=A9 h3
    obtain rfl : n=A4.length:=by omega
    refine nb o fun V9 H o=>tt ?_;refine LV 1 rfl o.swap rfl fun H o=>?_;simp only [List.set_cons_succ,List.set_cons_zero]
    have RJ : JM A4 list:=⟨Zw,fun m hm=>.inl (by have:=jy m (by omega); omega)⟩
    have Mb : Cons ls list:=O4 ok Zw fun m hm=>by have:=jy m (by omega); omega
    refine (RD B A4 ls As 1 (by omega) ok hAt (by omega) _ list rfl RJ Mb H0 H [] V9 .A1 [] (.inl ⟨rfl,rfl,o⟩) (by simp)).mono ?_
    rintro r H' ⟨rfl,X',Jw⟩;rw [List.nil_append] at Jw;refine tt ?_;refine Al Jw.obj (by simp [Bz]) (tt ?_);rw [Jw.FF];refine tt ?_;apply bk <;> intro h5
    ·refine tt ?_
     have Hj:=A7 h5
     have rJ : H6 A4 ls list=[]:=by
      cases he : H6 A4 ls list with
      | nil=>rfl
      | cons a r=>rw [he] at Hj; simp at Hj
     refine Ae iL (AB.nil _) fun ES H2 o2=>tt ?_;refine Ak o2 rfl fun H2 o2=>tt ?_
     have Cq : H0.sub H':=by obtain ⟨_,oo,_⟩:=Jw.split; exact oo.sub
     refine A6 ?_ (Cq.trans o2.sub)
     have Ev : Vk A4 ls=[]:=by
      refine GH (Kw fun t ht=>?_)
      obtain ⟨u,hu⟩:=ht.part Zw (fun m hm=>jy m (by omega)) ok
      have:=((SD ok RJ Mb).mem u).mpr hu;rw [rJ] at this; simp at this
     rw [Ev,List.take_nil]
    ·refine tw w2 ?_
     obtain ⟨_,oo,_⟩:=Jw.split;exact A5 () (by omega) ⟨oo.sub,by simp,by simp,by simp⟩ rfl
  ·refine tt ?_
   have Ah:=A9 h2;refine Ae iL o fun jj H o=>tt ?_;refine nb o fun V9 H o=>tt ?_;refine (Sa B (-1) A4.length (by omega)).go fun _=>tt ?_
   have Uz : ∀ m,m<(List.replicate A4.length (-1 : Int)).length→(List.replicate A4.length (-1 : Int)).getD m default<0:=fun m hm=>by
    rw [List.length_replicate] at hm
    simp [gE,hm]
   have RJ : JM A4 (List.replicate A4.length (-1)):=⟨by simp,fun m hm=>.inl (Uz m hm)⟩
   have Mb : Cons ls (List.replicate A4.length (-1)):=O4 ok (by simp) Uz;refine (RD B A4 ls As most HD ok hAt (by omega) _ _ rfl RJ Mb H0 H [] V9 (.buf jj 0) [] (.inr ⟨jj,rfl,o.swap⟩) (by simpa using VG)).mono ?_
   rintro r H' ⟨rfl,X',Jw⟩;rw [List.nil_append,List.length_nil,Nat.sub_zero] at Jw;refine tt ?_;refine Al Jw.obj (by simp [Bz]) (tt ?_)
   rcases Jw with ⟨rfl,hl,o⟩ | ⟨id,rfl,o⟩
   ·refine tt ?_;exact A6 (by rw [show (Vk A4 ls).take most=[] from hl]; rfl) o.sub
   ·refine tt ?_;refine Ak o rfl fun H o=>tt ?_;exact A6 rfl o.sub
theorem eW {f : SF} {x : Int} {s : List Int} (h : f.Shape) (hs : f.shape.Ax x s) {r : List Int} (hr : r∈rowsOf f.shape s) :
  r.length=3∧(0≤r.getD 0 default∧(r.getD 0 default).toNat<s.length)∧(0≤r.getD 1 default∧(r.getD 1 default).toNat<f.Aa.length)∧(0≤r.getD 2 default∧(r.getD 2 default).toNat<s.length):=by
 obtain ⟨i,hi,b,hb,e,rfl⟩:=GB.mp hr
 have:=(F9 h hs hi hb e).1;exact ⟨rfl,⟨by simp [Gt],by simpa [Gt] using hi⟩,⟨by simp [Gt],by rw [h.al]; simpa [Gt] using hb⟩,this⟩
theorem O5 (B : Nat) (f : SF) (x : Int) (s : List Int) (h : f.Shape) (hs : f.shape.Ax x s) (most : Nat) (VG : 0<most) (HD : most≤1048576) :
  PB B 83 [.agg f.cells,iL s,.int .i64 most] (BD ((BQ f s).take most)):=by
 refine ⟨fun H0=>c83p.go fun _=>?_⟩
 have hm:=h.is.1.m
 have Hg:=h.is.1.He
 have hslen:=hs.len
 have Gd:=h.sl
 have Fh:=h.is.1.o;refine tt ?_;refine nb (.nil _) fun Cv H o=>tt ?_;refine sw o fun H o=>tt ?_;refine Ae iI o fun Ec H o=>tt ?_;refine Af o fun HC H o=>tt ?_;refine AD [1,2,3,7,9] (G:=Nat × List Int) (fun k g=>[(8,some (.buf g.1 g.2.length)),(10,some (.int .i64 (k : Int)))]) (fun k g H=>g.2=(s.take k).map (fun a=>ix f.A4 (ix f.shape.to a))∧AB H0 H ((g.1,.cells 1 (g.2.map iI) 0)::[(HC,.cells 4 (flat (([] : List Lk).map iH)) 0),(Cv,.cells 5 [iI f.shape.AR,iL f.shape.AH,iL f.shape.to,iL f.shape.Aw,BD f.shape.comp] 0)])) s.length (Ec,[]) ⟨by simp,o.swap⟩ rfl ?_
 rintro k ⟨Ec,out⟩ H hk ⟨Av,o⟩;dsimp only at Av o
 have V8 : out.length=k:=by rw [Av]; simp; omega
 refine tt ?_;apply bk <;> intro h1
 ·refine tt ?_
  have AU:=A7 h1
  have w1:=ws k
  have ha:=hs.arr (AE.mpr ⟨k,AU,rfl⟩)
  have Cu:=h.is.1.C7 ha.1.2;refine AN o.tl.tl (by simp) (tt ?_);refine ⟨AU,⟨ha.1.1,by omega⟩,⟨Cu.1,by omega⟩, ?_⟩;refine Ac (ix f.A4 (ix f.shape.to (s.getD k default))) o rfl rfl (by simp only [AK]; omega) fun Ec H o=>?_;refine tw w1 ?_;exact A5 (_,_) (by omega) ⟨by rw [BS s _ AU,Av],o⟩ rfl
 ·refine tt ?_
  have AU:=A9 h1
  have CW : out=B2 f s:=by rw [Av,show k=s.length by omega,List.take_length]; rfl
  refine AZ o.tl.tl (by simp) (tt ?_);refine (UL B f.shape h.is.1 s (fun a ha=>(hs.arr ha).1) (by omega)).go fun _=>?_
  have Lu : (rowsOf f.shape s).length≤1600:=by
   have h1:=G9 f.shape s s.length
   have h2 : s.length*f.shape.AH.length≤40*40:=Nat.mul_le_mul (by omega) hm;unfold rowsOf; omega
  refine tt ?_;refine AD [2,3,8,11] (G:=Nat × List Lk) (fun k g=>[(9,some (.buf g.1 g.2.length)),(12,some (.int .i64 (k : Int)))]) (fun k g H=>g.2=((rowsOf f.shape s).take k).map (Jp f s)∧AB H0 H [(g.1,.cells 4 (flat (g.2.map iH)) 0),(Ec,.cells 1 (out.map iI) 0)]) (rowsOf f.shape s).length (HC,[]) ⟨by simp,(o.swap.perm (List.Perm.refl _)).perm (by exact (List.perm_append_comm (l₁:=[_,_]) (l₂:=[_]))) |>.tl⟩ rfl ?_
  rintro k2 ⟨HC,ls⟩ H IM ⟨Hh,o⟩;dsimp only at Hh o
  have QW : ls.length=k2:=by rw [Hh]; simp; omega
  have G7 : (B2 f s).length=s.length:=by simp [B2]
  refine tt ?_;apply bk <;> intro h2
  ·refine tt ?_
   have Ah:=A7 h2
   have w2:=ws k2
   have hr:=eW h hs (AE.mpr ⟨k2,Ah,rfl⟩)
   generalize iY : (rowsOf f.shape s).getD k2 default=r at *
   have e0 : ix r 0=r.getD 0 default:=rfl
   have e1 : ix r 1=r.getD 1 default:=rfl
   have e2 : ix r 2=r.getD 2 default:=rfl
   have l0 : (0 : Int)≤0∧(0 : Int).toNat<r.length:=⟨by omega,by rw [hr.1]; decide⟩
   have l1 : (0 : Int)≤1∧(1 : Int).toNat<r.length:=⟨by omega,by rw [hr.1]; decide⟩
   have l2 : (0 : Int)≤2∧(2 : Int).toNat<r.length:=⟨by omega,by rw [hr.1]; decide⟩
   have V1:=(D0 h hs hr.2.2.2.2).2
   have hsz2 : ix out (r.getD 2 default)=(((B2 f s).getD (r.getD 2 default).toNat default).toNat : Int):=by
    rw [CW,Int.toNat_of_nonneg V1.1]; rfl
   refine ⟨Ah,l0,l2,l1,⟨by rw [e1]; exact hr.2.2.1.1,by rw [e1]; exact hr.2.2.1.2⟩,l2,⟨by rw [e2]; exact hr.2.2.2.1,by rw [e2,CW,G7]; exact hr.2.2.2.2⟩,BX o.tl (by rw [e2,CW,G7]; exact hr.2.2.2.2) ?_⟩;refine tt ?_;rw [show out.getD (ix r 2).toNat default=(((B2 f s).getD (r.getD 2 default).toNat default).toNat : Int) from hsz2];refine ⟨_,(Ue B _ (by omega)).run,tt ?_⟩;refine L0 (f:=iH) (Jp f s r) o ?_ rfl (by simp only [AK]; omega) fun HC H o=>?_
   ·simp only [iH,Jp,N3]
    rfl
   refine tw w2 ?_;exact A5 (_,_) (by omega) ⟨by rw [BS _ _ Ah,Hh,iY],o⟩ rfl
  ·refine tt ?_
   have Ah:=A9 h2
   have gr : ls=EE f s:=by rw [Hh,show k2=(rowsOf f.shape s).length by omega,List.take_length]; rfl
   refine RX o rfl fun H o=>tt ?_;refine Ak o rfl fun H o=>tt ?_;rw [CW,gr];refine (TV B (B2 f s) (EE f s) most VG HD (Xt h hs) (by rw [G7]; omega) (by rw [← gr]; omega)).go fun _=>tt ?_;exact A6 rfl o.sub
end Go.Proofs.Shf
