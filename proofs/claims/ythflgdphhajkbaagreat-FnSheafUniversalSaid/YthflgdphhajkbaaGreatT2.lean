/- Contracts, part 2. -/
import Derived.Test.YthflgdphhajkbaaGreatT1
set_option linter.unusedVariables false
set_option linter.unusedSimpArgs false
set_option linter.unusedSectionVars false
open Nat (reduceEqDiff reduceAdd reduceMul reduceLeDiff reduceLT)
namespace Go.Proofs.Shf
open Go.AW Go.Proofs Go.Shf
theorem eW (B : Nat) (c : Ay) (L : List (List (List Int))) (t : Ds c L) (M : List (List Bool)) (hM : DU L M) : PB B 258 [.agg (BE c L),vP M] (.bool (dec (ZK c L M))):=by
 refine ⟨fun H0=>yw.go fun ⟨_,hfM,_⟩=>?_⟩
 have E6:=hM.len
 have F3:=t.is.1.o
 have Va:=t.len;refine tt ?_;refine Ag (CM (α:=Bool)) (.nil _) fun id H o=>tt ?_;refine AD [1,2] (G:=Nat × List (Nat × List Bool)) (fun k g=>[(5,some (.buf g.1 g.2.length)),(6,some (.int .i64 (k : Int)))]) (fun k g H=>g.2.map Prod.snd=M.take k∧AA H0 H ((g.1,.cells 1 (g.2.map CM) 0)::(inner AV.bool g.2++[]))) M.length (id,[]) ⟨by simp,o⟩ rfl ?_
 rintro k ⟨id,ms⟩ H hk ⟨Jm,o⟩;dsimp only at Jm o
 have K8 : ms.length=k:=by have:=congrArg List.length Jm; rw [List.length_map,List.length_take] at this; omega
 refine tt ?_;apply bk <;> intro h1
 ·refine tt ?_
  have AR:=dd h1
  have w1:=ws k
  have B3:=hM.row k (by omega)
  have Bc:=t.Yh k (by omega);refine Ag AV.bool o fun BQ H o=>tt ?_;refine ⟨AR, ?_⟩;refine Ed (f:=AV.bool) o rfl (by simp only [AL,List.length_nil]; omega) fun BQ H o=>?_;rw [List.nil_append] at *;refine tt ?_;refine Ad (f:=CM) (BQ,M.getD k default) o.swap rfl rfl (by simp only [AL]; omega) fun id H o=>?_;refine tw w1 ?_;refine A5 (_,_) (by omega) ⟨by rw [List.map_append,Jm,Co M AR]; rfl,o.perm ?_⟩ rfl;refine List.Perm.cons _ ?_;rw [inner,inner,List.map_append,List.append_nil,List.append_nil];exact (List.perm_append_comm (l₁:=[_])).trans (by simp)
 ·refine tt ?_
  have AR:=dd h1
  obtain rfl : k=M.length:=by omega
  rw [List.take_length] at Jm;refine (W9 B c L t ms (by rw [Jm]; exact hM) id H0 H [] o).mono ?_
  rintro r H' ⟨rfl,rfl⟩;refine tt ?_;refine A6 ?_ (.refl _);rw [Jm]
  congr 1
  by_cases h : ZK c L M
  ·rw [Aw h,Aa (by simpa using h)]; rfl
  ·rw [Aa h,Aw h]; rfl
theorem UU (B : Nat) (c : Ay) (L : List (List (List Int))) (t : Ds c L) (C : List (List (List Int))) (hC : C.length=L.length) (hm : ∀ x : Nat,x<L.length→∀ s,s∈C.getD x default→s∈L.getD x default) :
  PB B 295 [.agg (BE c L),Ft C] (vP (marksOf L C)):=by
 refine ⟨fun H0=>ai.go fun ⟨_,hfC,_⟩=>?_⟩
 have F3:=t.is.1.o
 have Va:=t.len;refine tt ?_;refine Ag bL (.nil _) fun id H o=>tt ?_;refine AD [1,2] (G:=Nat × List (List Bool)) (fun k g=>[(5,some (.buf g.1 g.2.length)),(6,some (.int .i64 (k : Int)))]) (fun k g H=>g.2=(List.range k).map (KK L C)∧AA H0 H [(g.1,.cells 1 (g.2.map bL) 0)]) L.length (id,[]) ⟨rfl,o⟩ rfl ?_
 rintro k ⟨id,out⟩ H hk ⟨Au,o⟩;dsimp only at Au
 have TM : out.length=k:=by rw [Au]; simp
 refine tt ?_;apply bk <;> intro h1
 ·refine tt ?_
  have AR:=dd h1
  have w1:=ws k
  have Bc:=t.Yh k AR;refine ⟨AR,⟨by omega,by simp only [AL]; omega⟩,DD AV.bool false rfl o fun BQ H o=>?_⟩;refine tt ?_;refine AD [1,2,5,6,7] (fun j _=>[(8,some (.int .i64 (j : Int)))]) (fun j A H=>PO (L.getD k default) (C.getD k default) j A∧AA H0 H [(BQ,.cells 1 (A.map AV.bool) 0),(id,.cells 1 (out.map bL) 0)]) (C.getD k default).length _ ⟨PO.zero _ _,o⟩ rfl ?_
  rintro j A H hj ⟨hI,o⟩
  have Lz:=hI.1
  have NW : (C.getD k default).length≤AL:=AM (by have:=IA (i:=(k : Int)) hfC (by rw [HU]; omega); rw [AH] at this; exact this);simp only [AL] at NW;refine tt ?_;refine ⟨by omega, ?_⟩;apply bk <;> intro h2
  ·refine tt ?_
   have Ah:=dd h2
   have w2:=ws j
   have CJ : (C.getD k default).getD j default∈L.getD k default:=hm k AR _ (AE.mpr ⟨j,Ah,rfl⟩)
   have hi:=BD CJ;refine ⟨AR,by omega,Ah,_,(KY ..).run,tt ?_⟩;refine ⟨⟨hi.1,by omega⟩,Bw true o rfl (by omega) fun H o=>?_⟩;refine tw w2 ?_;exact A5 _ (by omega) ⟨hI.step (t.all k AR).nodup CJ,o⟩ rfl
  ·refine tt ?_
   have Ah:=dd h2
   obtain rfl : j=(C.getD k default).length:=by omega
   rw [← Lz];refine Al o rfl fun H o=>tt ?_;refine Ad A o rfl rfl (by simp only [AL]; omega) fun id H o=>?_;refine tw w1 ?_;exact A5 (_,_) (by omega) ⟨by rw [Bb,← Au,hI.done]; rfl,o⟩ rfl
 ·refine tt ?_
  have AR:=dd h1;refine Al o rfl fun H o=>tt ?_;exact A6 (by rw [Au,show k=L.length by omega]; rfl) o.sub
theorem FN (B : Nat) (j : Dw) : PB B 114 [.agg j.cells] (.bool (dec j.Form)):=by
 refine ⟨fun H0=>xf.go fun ⟨hf,_⟩=>?_⟩
 have Ly:=hf.agg (c:=Ft j.AP) (by simp [Dw.cells])
 have hl:=AM Ly;simp only [AL] at hl;refine tt ?_;refine (Iy B j.shape).go fun _=>tt ?_;apply bn <;> intro h1
 rotate_left
 ·refine tw h1 ?_
  have AR:=dd h1;exact A6 (by rw [Aa]; intro s; exact AR s.is) (.refl _)
 refine tw h1 ?_
 have AR:=dd h1
 have hs:=AR.1;apply bk <;> intro h2
 ·refine tw h2 ?_
  have Ah:=dd h2;exact A6 (by rw [Aa]; intro s; exact Ah s.len) (.refl _)
 refine tw h2 ?_
 have Ah:=dd h2
 refine AD [1] (fun k _=>[(3,some (.int .i64 (k : Int)))]) (fun k _ H=>H=H0∧∀ x : Nat,x<k→∀ k : Nat,k<(j.AP.getD x default).length→j.shape.Az x ((j.AP.getD x default).getD k default) ∧
   (0<k→cmp ((j.AP.getD x default).getD (k - 1) default) ((j.AP.getD x default).getD k default)<0)) j.AP.length () ⟨rfl,by simp⟩ rfl ?_
 rintro x _ H hx ⟨rfl,Ak⟩;refine tt ?_;apply bk <;> intro g1
 rotate_left
 ·refine tt ?_
  have CK:=dd g1;refine A6 ?_ (.refl _);rw [Aw];exact ⟨AR,Ah,fun x hx k hk=>(Ak x (by omega) k hk).1,fun x hx k hk=>(Ak x (by omega) (k+1) hk).2 (by omega)⟩
 have CK:=dd g1
 have wx:=ws x
 have sN:=AM (JD Ly (AE.mpr ⟨x,CK,rfl⟩));simp only [AL] at sN;refine tt ?_
 refine AD [1,3] (fun k _=>[(4,some (.int .i64 (k : Int)))]) (fun k' _ H'=>H'=H∧∀ k : Nat,k<k'→j.shape.Az x ((j.AP.getD x default).getD k default) ∧
   (0<k→cmp ((j.AP.getD x default).getD (k - 1) default) ((j.AP.getD x default).getD k default)<0)) (j.AP.getD x default).length () ⟨rfl,by simp⟩ rfl ?_
 rintro k _ H' hk ⟨rfl,Hm⟩;refine tt ?_;refine ⟨CK, ?_⟩;apply bk <;> intro g2
 rotate_left
 ·refine tw wx ?_
  have CO:=dd g2;exact A5 () CK ⟨rfl,AG Ak fun k hk=>Hm k (by omega)⟩ rfl
 have CO:=dd g2
 have wk:=ws k;refine tt ?_;refine ⟨CK,CO,_,(U1 B j.shape hs x _).run,tt ?_⟩;apply bn <;> intro g3
 rotate_left
 ·refine tw g3 ?_
  have Dh:=dd g3;exact A6 (by rw [Aa]; intro s; exact Dh (s.sv x CK k CO)) (.refl _)
 refine tw g3 ?_
 have Dh:=dd g3;apply bk <;> intro g4
 rotate_left
 ·try simp only [go_sem,↓reduceIte,reduceEqDiff,reduceAdd,reduceMul,reduceLeDiff,reduceLT,g3,g4,wk]
  have Fm:=dd g4;exact A5 () CO ⟨rfl,AG Hm ⟨Dh,fun h=>absurd h (by omega)⟩⟩ rfl
 have g4q : 0<k:=by have:=A7 g4; omega
 have wp:=K1 (k:=k) g4q (by omega);try simp only [go_sem,↓reduceIte,reduceEqDiff,reduceAdd,reduceMul,reduceLeDiff,reduceLT,g3,g4,wp]
 refine ⟨CK,by omega,CK,CO,_,(KM ..).run,tt ?_⟩;apply bk <;> intro g5
 ·refine tt ?_
  have Hr:=dd g5;refine A6 ?_ (.refl _);rw [Aa]; intro s
  have:=s.ord x CK (k - 1) (by omega);rw [show k - 1+1=k by omega] at this;omega
 ·refine tw wk ?_
  have Hr:=dd g5;exact A5 () CO ⟨rfl,AG Hm ⟨Dh,fun _=>by omega⟩⟩ rfl
theorem Og (B : Nat) (j : Dw) : PB B 174 [.ptr j.cells] (.bool (dec j.Form)):=by
 refine ⟨fun H0=>zm.go fun ⟨hf,_⟩=>?_⟩
 have Ly:=hf.ptr (c:=Ft j.AP) (by simp [Dw.cells])
 have hl:=AM Ly;simp only [AL] at hl;refine tt ?_;refine ⟨_,(K4 B j.shape).run,tt ?_⟩;apply bn <;> intro h1
 rotate_left
 ·refine tw h1 ?_
  have AR:=dd h1;exact A6 (by rw [Aa]; intro s; exact AR s.is) (.refl _)
 refine tw h1 ?_
 have AR:=dd h1
 have hs:=AR.1;apply bk <;> intro h2
 ·refine tw h2 ?_
  have Ah:=dd h2;exact A6 (by rw [Aa]; intro s; exact Ah s.len) (.refl _)
 refine tw h2 ?_
 have Ah:=dd h2
 refine AD [3,29,30] (fun k _=>[(31,some (.int .i64 (k : Int)))]) (fun k _ H=>H=H0∧∀ x : Nat,x<k→∀ k : Nat,k<(j.AP.getD x default).length→j.shape.Az x ((j.AP.getD x default).getD k default) ∧
   (0<k→cmp ((j.AP.getD x default).getD (k - 1) default) ((j.AP.getD x default).getD k default)<0)) j.AP.length () ⟨rfl,by simp⟩ rfl ?_
 rintro x _ H hx ⟨rfl,Ak⟩;refine tt ?_;apply bk <;> intro g1
 rotate_left
 ·refine tt ?_
  have CK:=dd g1;refine A6 ?_ (.refl _);rw [Aw];exact ⟨AR,Ah,fun x hx k hk=>(Ak x (by omega) k hk).1,fun x hx k hk=>(Ak x (by omega) (k+1) hk).2 (by omega)⟩
 have CK:=dd g1
 have wx:=ws x
 have sN:=AM (JD Ly (AE.mpr ⟨x,CK,rfl⟩));simp only [AL] at sN;refine tt ?_;refine ⟨CK, ?_⟩
 refine AD [3,4,5,29,30,31,36,37] (fun k _=>[(38,some (.int .i64 (k : Int)))]) (fun k' _ H'=>H'=H∧∀ k : Nat,k<k'→j.shape.Az x ((j.AP.getD x default).getD k default) ∧
   (0<k→cmp ((j.AP.getD x default).getD (k - 1) default) ((j.AP.getD x default).getD k default)<0)) (j.AP.getD x default).length () ⟨rfl,by simp⟩ rfl ?_
 rintro k _ H' hk ⟨rfl,Hm⟩;refine tt ?_;apply bk <;> intro g2
 rotate_left
 ·refine tw wx ?_
  have CO:=dd g2;exact A5 () CK ⟨rfl,AG Ak fun k hk=>Hm k (by omega)⟩ rfl
 have CO:=dd g2
 have wk:=ws k;refine tt ?_;refine ⟨CO,(WO B j.shape hs x _).go fun _=>?_⟩;refine tt ?_;apply bn <;> intro g3
 rotate_left
 ·refine tw g3 ?_
  have Dh:=dd g3;exact A6 (by rw [Aa]; intro s; exact Dh (s.sv x CK k CO)) (.refl _)
 refine tw g3 ?_
 have Dh:=dd g3;apply bk <;> intro g4
 rotate_left
 ·try simp only [go_sem,↓reduceIte,reduceEqDiff,reduceAdd,reduceMul,reduceLeDiff,reduceLT,g3,g4,wk]
  have Fm:=dd g4;exact A5 () CO ⟨rfl,AG Hm ⟨Dh,fun h=>absurd h (by omega)⟩⟩ rfl
 have g4q : 0<k:=by have:=A7 g4; omega
 have wp:=K1 (k:=k) g4q (by omega);try simp only [go_sem,↓reduceIte,reduceEqDiff,reduceAdd,reduceMul,reduceLeDiff,reduceLT,g3,g4,wp]
 refine ⟨by omega,(KQ ..).go fun _=>?_⟩;refine tt ?_;apply bk <;> intro g5
 ·refine tt ?_
  have Hr:=dd g5;refine A6 ?_ (.refl _);rw [Aa]; intro s
  have:=s.ord x CK (k - 1) (by omega);rw [show k - 1+1=k by omega] at this;omega
 ·refine tw wk ?_
  have Hr:=dd g5;exact A5 () CO ⟨rfl,AG Hm ⟨Dh,fun _=>by omega⟩⟩ rfl
theorem VB (B : Nat) (f : SF) : PB B 237 [.agg f.cells] (.bool (dec f.Shape)):=by
 refine ⟨fun H0=>bq.go fun ⟨hf,_⟩=>?_⟩
 have hl:=AM (hf.agg (c:=iL f.A4) (by simp [SF.cells]))
 have Ii:=AM (hf.agg (c:=BA f.AU) (by simp [SF.cells]));simp only [AL] at hl Ii;refine tt ?_;refine (Iy B f.shape).go fun _=>tt ?_;apply bn <;> intro h1
 rotate_left
 ·refine tw h1 ?_
  have AR:=dd h1;exact A6 (by rw [Aa]; intro s; exact AR s.is) (.refl _)
 refine tw h1 ?_
 have AR:=dd h1
 have hs:=AR.1
 have IQ:=hs.HN;apply bn <;> intro h2
 rotate_left
 ·refine tw h2 ?_
  have Ah:=dd h2;exact A6 (by rw [Aa]; intro s; exact Ah s.sl) (.refl _)
 refine tw h2 ?_
 have Ah:=dd h2;apply bk <;> intro h3
 ·refine tw h3 ?_
  have B8:=dd h3;exact A6 (by rw [Aa]; intro s; exact B8 s.al) (.refl _)
 refine tw h3 ?_
 have B8:=dd h3;refine AD [1] (fun k _=>[(3,some (.int .i64 (k : Int)))]) (fun k _ H=>H=H0∧∀ x,x<k→0≤f.A4.getD x default∧f.A4.getD x default<17) f.A4.length () ⟨rfl,by simp⟩ rfl ?_
 rintro x _ H hx ⟨rfl,Ak⟩;refine tt ?_;apply bk <;> intro g1
 ·have CK:=dd g1
  have wx:=ws x;refine tt ?_;refine ⟨CK,(Uj ..).go fun _=>?_⟩;refine tt ?_;apply bk <;> intro g2
  ·refine tt ?_
   have CO:=dd g2;exact A6 (by rw [Aa]; intro s; have:=s.sz _ (AE.mpr ⟨x,CK,rfl⟩); omega) (.refl _)
  ·refine tw wx ?_
   have CO:=dd g2;exact A5 () CK ⟨rfl,AG Ak (by omega)⟩ rfl
 have CK:=dd g1
 have CU : ∀ y,y∈f.A4→0≤y∧y<17:=DZ.mpr fun i hi=>Ak i (by omega);refine tt ?_
 refine AD [1] (fun k _=>[(4,some (.int .i64 (k : Int)))]) (fun k _ H'=>H'=H∧∀ a,a<k→((f.AU.getD a default).length : Int)=ix f.A4 (f.shape.AJ.getD a default) ∧
  ∀ y,y∈f.AU.getD a default→0≤y∧y<ix f.A4 (f.shape.to.getD a default)) f.AU.length () ⟨rfl,by simp⟩ rfl ?_
 rintro a _ H' ha ⟨rfl,Lq⟩;refine tt ?_;apply bk <;> intro g2
 rotate_left
 ·refine tt ?_
  have CO:=dd g2;exact A6 (by rw [Aw]; exact ⟨AR,Ah,B8,CU,fun a h=>Lq a (by omega)⟩) (.refl _)
 have CO:=dd g2
 have wa:=ws a
 have TK : a<f.shape.AJ.length:=by omega
 have f1:=hs.QV TK
 have f2:=hs.vJ TK
 have Ya:=hs.il;refine tt ?_;refine ⟨CO,TK,⟨f1.1,by omega⟩, ?_⟩;apply bn <;> intro g3
 rotate_left
 ·refine tw g3 ?_
  have Dh:=dd g3;exact A6 (by rw [Aa]; intro s; exact Dh (s.act a CO).1) (.refl _)
 refine tw g3 ?_
 have Dh:=dd g3;refine ⟨by omega,⟨f2.1,by omega⟩,CO,_,(Hd ..).run,tt ?_⟩;apply bk <;> intro g4
 ·refine tt ?_
  have Fm:=dd g4;exact A6 (by rw [Aa]; intro s; exact Fm (s.act a CO).2) (.refl _)
 ·refine tw wa ?_
  have Fm:=dd g4;exact A5 () CO ⟨rfl,AG Lq ⟨Dh,Fm⟩⟩ rfl
theorem Rz (B : Nat) (f : SF) : PB B 243 [.ptr f.cells] (.bool (dec f.Shape)):=by
 refine ⟨fun H0=>c243.go fun ⟨hf,_⟩=>?_⟩
 have hl:=AM (hf.ptr (c:=iL f.A4) (by simp [SF.cells]))
 have Ii:=AM (hf.ptr (c:=BA f.AU) (by simp [SF.cells]));simp only [AL] at hl Ii;refine tt ?_;refine ⟨_,(K4 B f.shape).run,tt ?_⟩;apply bn <;> intro h1
 rotate_left
 ·refine tw h1 ?_
  have AR:=dd h1;exact A6 (by rw [Aa]; intro s; exact AR s.is) (.refl _)
 refine tw h1 ?_
 have AR:=dd h1
 have hs:=AR.1
 have IQ:=hs.HN;apply bn <;> intro h2
 rotate_left
 ·refine tw h2 ?_
  have Ah:=dd h2;exact A6 (by rw [Aa]; intro s; exact Ah s.sl) (.refl _)
 refine tw h2 ?_
 have Ah:=dd h2;refine ⟨_,(G4 B f.A4 17 (by omega)).run,tt ?_⟩;apply bn <;> intro h3
 rotate_left
 ·refine tw h3 ?_
  have B8:=dd h3;exact A6 (by rw [Aa]; intro s; exact B8 s.sz) (.refl _)
 refine tw h3 ?_
 have B8:=dd h3;refine ⟨_,(Hi B f.shape).run,tt ?_⟩;apply bk <;> intro h4
 ·refine tw h4 ?_
  have Cr:=dd h4;exact A6 (by rw [Aa]; intro s; exact Cr s.al) (.refl _)
 refine tw h4 ?_
 have Cr:=dd h4
 refine AD [0,3,45,46] (fun k _=>[(47,some (.int .i64 (k : Int)))]) (fun k _ H'=>H'=H0∧∀ a,a<k→((f.AU.getD a default).length : Int)=ix f.A4 (f.shape.AJ.getD a default) ∧
  ∀ y,y∈f.AU.getD a default→0≤y∧y<ix f.A4 (f.shape.to.getD a default)) f.AU.length () ⟨rfl,by simp⟩ rfl ?_
 rintro a _ H' ha ⟨rfl,Lq⟩;refine tt ?_;apply bk <;> intro g2
 rotate_left
 ·refine tt ?_
  have CO:=dd g2;exact A6 (by rw [Aw]; exact ⟨AR,Ah,Cr,B8,fun a h=>Lq a (by omega)⟩) (.refl _)
 have CO:=dd g2
 have wa:=ws a
 have TK : a<f.shape.AJ.length:=by omega
 have f1:=hs.QV TK
 have f2:=hs.vJ TK
 have Ya:=hs.il
 have DS:=B8 _ (Bh (l:=f.A4) (i:=f.shape.to.getD a default) (by omega));refine tt ?_;refine ⟨CO,TK,⟨f1.1,by omega⟩,by omega,⟨f2.1,by omega⟩,_,(Oz B _ _ _ (by omega)).run,tt ?_⟩;apply bk <;> intro g4
 ·refine tt ?_
  have Fm:=dd g4;exact A6 (by rw [Aa]; intro s; exact Fm (s.act a CO)) (.refl _)
 ·refine tw wa ?_
  have Fm:=dd g4;exact A5 () CO ⟨rfl,AG Lq Fm⟩ rfl
theorem V3 (B : Nat) (f : SF) (s : f.Shape) (H0 : AB) : CB B 238 [.agg f.cells] H0 (OY f.Laws H0):=by
 refine yi.go fun ⟨hf,_⟩=>?_
 have hs:=s.is.1
 have hm:=hs.m
 have Md:=hs.cl
 have IQ:=hs.HN
 have Ya:=hs.il
 have Np:=s.al
 have Fg:=s.sl
 have F3:=hs.o;refine tt ?_;refine ⟨by simp [AL],fun i1 n1=>?_⟩;refine tt ?_
 generalize hH : ((H0.set i1 _).set i1 _)=H1
 have hg : H1.get i1=some (.cells 5 [iI f.shape.AO,iL f.shape.AJ,iL f.shape.to,iL f.shape.Av,BA f.shape.comp] 0):=by rw [← hH]; simp
 have Cs : H0.sub H1:=by rw [← hH]; exact C7 (C7 (.refl _) n1) n1
 clear hH;refine AD [1,6] (fun k _=>[(7,some (.int .i64 (k : Int)))]) (fun k _ H=>H=H1∧∀ x,x<k→∀ e : Nat,e<(ix f.AU (f.shape.Av.getD x default)).length→(ix f.AU (f.shape.Av.getD x default)).getD e default=e) f.shape.Av.length () ⟨rfl,by simp⟩ rfl ?_
 rintro x _ H hx ⟨rfl,Ak⟩;refine tw hg ?_;apply bk <;> intro g1
 ·have CK:=dd g1
  have gN : x<f.shape.Av.length:=by omega
  have wx:=ws x
  have K9:=hs.Av _ (AE.mpr ⟨x,gN,rfl⟩)
  have hlen:=s.cN gN;refine tw hg ?_;refine AD [1,6,7] (fun k _=>[(8,some (.int .i64 (k : Int)))]) (fun k _ H'=>H'=H∧∀ e : Nat,e<k→(ix f.AU (f.shape.Av.getD x default)).getD e default=e) (ix f.AU (f.shape.Av.getD x default)).length () ⟨rfl,by simp⟩ rfl ?_
  rintro e _ H' he ⟨rfl,Dd⟩;refine tw hg ?_;refine ⟨by omega, ?_⟩;apply bk <;> intro g2
  rotate_left
  ·refine tw wx ?_
   have CO:=dd g2;exact A5 () gN ⟨rfl,AG Ak fun e he=>Dd e (by omega)⟩ rfl
  have CO:=dd g2
  have aY : e<(ix f.AU (f.shape.Av.getD x default)).length:=by omega
  have hz : f.A4.getD x default<17:=(s.sz _ (AE.mpr ⟨x,by omega,rfl⟩)).2
  have we:=ws e;refine tw hg ?_;refine ⟨gN,⟨K9.1,by omega⟩,aY, ?_⟩;apply bk <;> intro g3
  ·refine tt ?_
   have Dh:=dd g3;exact CV (by constructor; (intro h; cases h); intro l; exact absurd (l.ZO x gN e aY) Dh) Cs
  ·refine tw we ?_
   have Dh:=dd g3;exact A5 () aY ⟨rfl,AG Dd Dh⟩ rfl
 have CK:=dd g1
 have sR : ∀ x : Nat,x<f.shape.Av.length→∀ e : Nat,e<(ix f.AU (f.shape.Av.getD x default)).length→(ix f.AU (f.shape.Av.getD x default)).getD e default=e:=fun x hx=>Ak x (by omega);refine tt ?_;refine AD [1,6] (fun k _=>[(9,some (.int .i64 (k : Int)))]) (fun k _ H'=>H'=H∧∀ a,a<k→∀ b,b<f.shape.AJ.length→f.Si a b) f.shape.AJ.length () ⟨rfl,by simp⟩ rfl ?_
 rintro a _ H' ha ⟨rfl,hA⟩;refine tw hg ?_;apply bk <;> intro g1
 rotate_left
 ·refine tt ?_
  have CK:=dd g1;exact CV (by simp only [true_iff]; exact ⟨sR,fun a b ha hb=>hA a (by omega) b hb⟩) Cs
 have CK:=dd g1
 have wa:=ws a
 have ra:=hs.row a CK
 have fa:=hs.QV CK
 have la:=s.Cw (a:=(a : Int)) (by omega);rw [DB,DB] at la
 have za:=s.sz _ (Bh (l:=f.A4) (i:=f.shape.AJ.getD a default) (by omega));refine tw hg ?_;refine AD [1,6,9] (fun k _=>[(10,some (.int .i64 (k : Int)))]) (fun k _ H=>H=H'∧∀ b,b<k→f.Si a b) f.shape.AJ.length () ⟨rfl,by simp⟩ rfl ?_
 rintro b _ H hb ⟨rfl,hB⟩;refine tw hg ?_;apply bk <;> intro g2
 rotate_left
 ·refine tw wa ?_
  have CO:=dd g2;exact A5 () CK ⟨rfl,AG hA fun b hb=>hB b (by omega)⟩ rfl
 have CO:=dd g2
 have wb:=ws b;refine tw hg ?_;refine ⟨by omega,CO, ?_⟩;apply bk <;> intro g3
 ·refine tw wb ?_
  have Dh:=dd g3;exact A5 () CO ⟨rfl,AG hB fun e=>absurd e Dh⟩ rfl
 have Dh:=dd g3
 have hy:=hs.yes a b CK CO Dh
 have lc:=s.Cw (a:=(f.shape.comp.getD a default).getD b default) (by omega);rw [hy.2.1] at lc
 have lb:=s.Cw (a:=(b : Int)) (by omega);rw [DB,DB] at lb;refine tw hg ?_
 refine AD [1,6,9,10] (fun k _=>[(11,some (.int .i64 (k : Int)))]) (fun k _ H'=>H'=H∧∀ e : Nat,e<k →
  (ix f.AU ((f.shape.comp.getD a default).getD b default)).getD e default=ix (f.AU.getD b default) ((f.AU.getD a default).getD e default)) (f.AU.getD a default).length () ⟨rfl,by simp⟩ rfl ?_
 rintro e _ H' he ⟨rfl,hE⟩;refine tw hg ?_;refine ⟨CK,⟨fa.1,by omega⟩, ?_⟩;apply bk <;> intro g4
 rotate_left
 ·refine tw wb ?_
  have Fm:=dd g4;exact A5 () CO ⟨rfl,AG hB fun _ e he=>hE e (by omega)⟩ rfl
 have Fm:=dd g4
 have we:=ws e
 have aY : e<(f.AU.getD a default).length:=by omega
 have hv:=(s.act a (by omega)).2 _ (AE.mpr ⟨e,aY,rfl⟩);rw [Dh] at hv;refine tw hg ?_;refine ⟨by omega,by omega,⟨hy.1.1,by omega⟩,by omega,by omega,by omega,aY,⟨hv.1,by omega⟩, ?_⟩;apply bk <;> intro g5
 ·refine tt ?_
  have Hr:=dd g5;exact CV (by constructor; (intro h; cases h); intro l; exact absurd (l.comp a b CK CO Dh e aY) Hr) Cs
 ·refine tw we ?_
  have Hr:=dd g5;exact A5 () aY ⟨rfl,AG hE Hr⟩ rfl
theorem WV (B : Nat) (f : SF) (s : f.Shape) (H0 : AB) : CB B 244 [.ptr f.cells] H0 (OY f.Laws H0):=by
 refine wq.go fun ⟨hf,_⟩=>?_
 have hs:=s.is.1
 have hm:=hs.m
 have Md:=hs.cl
 have IQ:=hs.HN
 have Ya:=hs.il
 have Np:=s.al
 have Fg:=s.sl
 have F3:=hs.o;refine tt ?_;refine AD [0,6,23,24] (fun k _=>[(25,some (.int .i64 (k : Int)))]) (fun k _ H=>H=H0∧∀ x,x<k→∀ e : Nat,e<(ix f.AU (f.shape.Av.getD x default)).length→(ix f.AU (f.shape.Av.getD x default)).getD e default=e) f.shape.Av.length () ⟨rfl,by simp⟩ rfl ?_
 rintro x _ H hx ⟨rfl,Ak⟩;refine tt ?_;apply bk <;> intro g1
 ·have CK:=dd g1
  have wx:=ws x
  have K9:=hs.Av _ (AE.mpr ⟨x,CK,rfl⟩)
  have hlen:=s.cN CK
  have hz : f.A4.getD x default<17:=(s.sz _ (AE.mpr ⟨x,by omega,rfl⟩)).2;refine tt ?_;refine ⟨CK,⟨K9.1,by omega⟩, ?_⟩;refine AD [0,6,7,23,24,25,36,37] (fun k _=>[(38,some (.int .i64 (k : Int)))]) (fun k _ H'=>H'=H∧∀ e : Nat,e<k→(ix f.AU (f.shape.Av.getD x default)).getD e default=e) (ix f.AU (f.shape.Av.getD x default)).length () ⟨rfl,by simp⟩ rfl ?_
  rintro e _ H' he ⟨rfl,Dd⟩;refine tt ?_;apply bk <;> intro g2
  rotate_left
  ·refine tw wx ?_
   have CO:=dd g2;exact A5 () CK ⟨rfl,AG Ak fun e he=>Dd e (by omega)⟩ rfl
  have CO:=dd g2
  have we:=ws e;refine tt ?_;refine ⟨CO, ?_⟩;apply bk <;> intro g3
  ·refine tt ?_
   have Dh:=dd g3;exact CV (by constructor; (intro h; cases h); intro l; exact absurd (l.ZO x CK e CO) Dh) (.refl _)
  ·refine tw we ?_
   have Dh:=dd g3;exact A5 () CO ⟨rfl,AG Dd Dh⟩ rfl
 have CK:=dd g1
 have sR : ∀ x : Nat,x<f.shape.Av.length→∀ e : Nat,e<(ix f.AU (f.shape.Av.getD x default)).length→(ix f.AU (f.shape.Av.getD x default)).getD e default=e:=fun x hx=>Ak x (by omega);refine tt ?_;refine AD [0,53,54] (fun k _=>[(55,some (.int .i64 (k : Int)))]) (fun k _ H'=>H'=H∧∀ a,a<k→∀ b,b<f.shape.AJ.length→f.Si a b) f.shape.comp.length () ⟨rfl,by simp⟩ rfl ?_
 rintro a _ H' ha ⟨rfl,hA⟩;refine tt ?_;apply bk <;> intro g1
 rotate_left
 ·refine tt ?_
  have CK:=dd g1;exact CV (by simp only [true_iff]; exact ⟨sR,fun a b ha hb=>hA a (by omega) b hb⟩) (.refl _)
 have CK:=dd g1
 have TQ : a<f.shape.AJ.length:=by omega
 have wa:=ws a
 have ra:=hs.row a TQ
 have fa:=hs.QV TQ
 have la:=s.Cw (a:=(a : Int)) (by omega);rw [DB,DB] at la
 have za:=s.sz _ (Bh (l:=f.A4) (i:=f.shape.AJ.getD a default) (by omega));refine tt ?_;refine ⟨CK, ?_⟩;refine AD [0,11,53,54,55,60,61] (fun k _=>[(62,some (.int .i64 (k : Int)))]) (fun k _ H=>H=H'∧∀ b,b<k→f.Si a b) (f.shape.comp.getD a default).length () ⟨rfl,by simp⟩ rfl ?_
 rintro b _ H hb ⟨rfl,hB⟩;refine tt ?_;apply bk <;> intro g2
 rotate_left
 ·refine tw wa ?_
  have CO:=dd g2;exact A5 () CK ⟨rfl,AG hA fun b hb=>hB b (by omega)⟩ rfl
 have CO:=dd g2
 have uh : b<f.shape.AJ.length:=by omega
 have wb:=ws b;refine tt ?_;refine ⟨CO, ?_⟩;apply bk <;> intro g3
 ·refine tw wb ?_
  have Dh:=dd g3;exact A5 () CO ⟨rfl,AG hB fun e=>by have:=(hs.pos TQ uh).mpr e; omega⟩ rfl
 have Dh:=dd g3
 have jt:=(hs.pos TQ uh).mp Dh
 have hy:=hs.yes a b TQ uh jt
 have lc:=s.Cw (a:=(f.shape.comp.getD a default).getD b default) (by omega);rw [hy.2.1] at lc
 have lb:=s.Cw (a:=(b : Int)) (by omega);rw [DB,DB] at lb;refine tt ?_;refine ⟨by omega, ?_⟩
 refine AD [0,11,13,14,53,54,55,60,61,62,75,76] (fun k _=>[(77,some (.int .i64 (k : Int)))]) (fun k _ H'=>H'=H∧∀ e : Nat,e<k →
  (ix f.AU ((f.shape.comp.getD a default).getD b default)).getD e default=ix (f.AU.getD b default) ((f.AU.getD a default).getD e default)) (f.AU.getD a default).length () ⟨rfl,by simp⟩ rfl ?_
 rintro e _ H' he ⟨rfl,hE⟩;refine tt ?_;apply bk <;> intro g4
 rotate_left
 ·refine tw wb ?_
  have Fm:=dd g4;exact A5 () CO ⟨rfl,AG hB fun _ e he=>hE e (by omega)⟩ rfl
 have Fm:=dd g4
 have we:=ws e
 have hv:=(s.act a (by omega)).2 _ (AE.mpr ⟨e,Fm,rfl⟩);rw [jt] at hv;refine tt ?_;refine ⟨Fm,⟨Dh,by omega⟩,by omega,by omega,⟨hv.1,by omega⟩, ?_⟩;apply bk <;> intro g5
 ·refine tt ?_
  have Hr:=dd g5;exact CV (by constructor; (intro h; cases h); intro l; exact absurd (l.comp a b TQ uh jt e Fm) Hr) (.refl _)
 ·refine tw we ?_
  have Hr:=dd g5;exact A5 () Fm ⟨rfl,AG hE Hr⟩ rfl
theorem PY (B : Nat) (f : SF) : PB B 157 [.agg f.cells] (.bool (dec f.Is)):=by
 refine ⟨fun H0=>xg.go fun hf=>tt ?_⟩;refine (VB B f).go fun _=>tt ?_;apply bk <;> intro h1
 ·refine tt ?_
  have AR:=dd h1;exact A6 (by rw [Aa]; intro s; exact AR s.1) (.refl _)
 have AR:=dd h1;refine tt ?_;refine (V3 B f AR H0).Iu ?_
 rintro _ _ _ ⟨rfl,k,a,b,d,rfl,hk⟩;refine tt ?_;exact A6 (by rw [BK]; congr 1; exact BX ⟨fun h=>⟨AR,hk.mp h⟩,fun h=>hk.mpr h.2⟩) (.refl _)
theorem NB (B : Nat) (f : SF) : PB B 163 [.ptr f.cells] (.bool (dec f.Is)):=by
 refine ⟨fun H0=>yc.go fun hf=>tt ?_⟩;refine (Rz B f).go fun _=>tt ?_;apply bk <;> intro h1
 ·refine tt ?_
  have AR:=dd h1;exact A6 (by rw [Aa]; intro s; exact AR s.1) (.refl _)
 have AR:=dd h1;refine tt ?_;refine (WV B f AR H0).Iu ?_
 rintro _ _ _ ⟨rfl,k,a,b,d,rfl,hk⟩;refine tt ?_;exact A6 (by rw [BK]; congr 1; exact BX ⟨fun h=>⟨AR,hk.mp h⟩,fun h=>hk.mpr h.2⟩) (.refl _)
instance : Inhabited SF:=⟨⟨⟨0,[],[],[],[]⟩,[],[]⟩⟩
abbrev nx (f : SF) : AV:=.ptr f.cells
instance : One nx:=⟨fun _=>rfl,fun _=>rfl⟩
theorem Eg (B : Nat) (l : List SF) : PB B 175 [mL nx l] (.bool (dec (∀ f,f∈l→f.Is))):=by
 refine ⟨fun H0=>wc.go fun ⟨hf,_⟩=>?_⟩
 have hl:=AM hf;simp only [AL] at hl;refine tt ?_;refine AD [5,6] (fun k _=>[(7,some (.int .i64 (k : Int)))]) (fun k _ H=>H=H0∧∀ i,i<k→(l.getD i default).Is) l.length () ⟨rfl,by simp⟩ rfl ?_
 rintro k _ H hk ⟨rfl,Ak⟩;refine tt ?_;apply bk <;> intro h1
 ·have AR:=dd h1
  have w1:=ws k;refine tt ?_;refine ⟨AR,(NB B _).go fun _=>?_⟩;refine tt ?_;apply bk <;> intro h2
  ·refine tt ?_
   have Ah:=dd h2;exact A6 (by rw [Aa]; intro h; exact Ah (h _ (AE.mpr ⟨k,AR,rfl⟩))) (.refl _)
  ·refine tw w1 ?_
   have Ah:=dd h2;exact A5 () (by omega) ⟨rfl,AG Ak Ah⟩ rfl
 ·refine tt ?_
  have AR:=dd h1;exact A6 (by rw [Aw]; exact DZ.mpr fun i hi=>Ak i (by omega)) (.refl _)
theorem Ny (B : Nat) (a b : Ay) : PB B 189 [.agg a.cells,.agg b.cells] (.bool (dec (a=b))):=by
 refine ⟨fun H0=>c189.go fun hf=>tt ?_⟩;apply bk <;> intro h0
 rotate_left
 ·refine tw h0 ?_
  have Nn:=dd h0;exact A6 (by rw [Aa]; rintro rfl; exact Nn rfl) (.refl _)
 refine tw h0 ?_
 have Nn:=dd h0;refine (Dq B a.AJ b.AJ).go fun _=>tt ?_;apply bk <;> intro h1
 rotate_left
 ·refine tw h1 ?_
  have AR:=dd h1;exact A6 (by rw [Aa]; rintro rfl; exact AR rfl) (.refl _)
 refine tw h1 ?_
 have AR:=dd h1;refine (Dq B a.to b.to).go fun _=>tt ?_;apply bk <;> intro h2
 rotate_left
 ·refine tw h2 ?_
  have Ah:=dd h2;exact A6 (by rw [Aa]; rintro rfl; exact Ah rfl) (.refl _)
 refine tw h2 ?_
 have Ah:=dd h2;refine (Dq B a.Av b.Av).go fun _=>tt ?_;apply bk <;> intro h3
 rotate_left
 ·refine tw h3 ?_
  have B8:=dd h3;exact A6 (by rw [Aa]; rintro rfl; exact B8 rfl) (.refl _)
 refine tw h3 ?_
 have B8:=dd h3;refine (UO B a.comp b.comp).go fun _=>tt ?_;refine A6 ?_ (.refl _)
 congr 1
 refine BX ⟨fun h=>?_,fun h=>by rw [h]⟩
 cases a; cases b; simp_all
theorem EG (B : Nat) (a b : Ay) : PB B 203 [.ptr a.cells,.ptr b.cells] (.bool (dec (a=b))):=by
 refine ⟨fun H0=>c203.go fun ⟨hf,hg,_⟩=>?_⟩
 have hl:=AM (hf.ptr (c:=BA a.comp) (by simp [Ay.cells]));simp only [AL] at hl;refine tt ?_;apply bn <;> intro h0
 rotate_left
 ·refine tw h0 ?_
  have Nn:=dd h0;exact A6 (by rw [Aa]; rintro rfl; exact Nn rfl) (.refl _)
 refine tw h0 ?_
 have Nn:=dd h0;refine ⟨_,(Fw B a.AJ b.AJ).run,tt ?_⟩;apply bn <;> intro h1
 rotate_left
 ·refine tw h1 ?_
  have AR:=dd h1;exact A6 (by rw [Aa]; rintro rfl; exact AR rfl) (.refl _)
 refine tw h1 ?_
 have AR:=dd h1;refine ⟨_,(Fw B a.to b.to).run,tt ?_⟩;apply bn <;> intro h2
 rotate_left
 ·refine tw h2 ?_
  have Ah:=dd h2;exact A6 (by rw [Aa]; rintro rfl; exact Ah rfl) (.refl _)
 refine tw h2 ?_
 have Ah:=dd h2;refine ⟨_,(Fw B a.Av b.Av).run,tt ?_⟩;apply bn <;> intro h3
 rotate_left
 ·refine tw h3 ?_
  have B8:=dd h3;exact A6 (by rw [Aa]; rintro rfl; exact B8 rfl) (.refl _)
 refine tw h3 ?_
 have B8:=dd h3;apply bk <;> intro h4
 ·refine tw h4 ?_
  have Cr:=dd h4;exact A6 (by rw [Aa]; rintro rfl; exact Cr rfl) (.refl _)
 refine tw h4 ?_
 have Cr:=dd h4;refine AD [0,1,68] (fun k _=>[(69,some (.int .i64 (k : Int)))]) (fun k _ H=>H=H0∧∀ i,i<k→a.comp.getD i default=b.comp.getD i default) a.comp.length () ⟨rfl,by simp⟩ rfl ?_
 rintro k _ H hk ⟨rfl,Ak⟩;refine tt ?_;apply bk <;> intro g1
 ·have CK:=dd g1
  have w1:=ws k;refine tt ?_;refine ⟨CK,by omega,_,(Fw ..).run,tt ?_⟩;apply bk <;> intro g2
  ·refine tt ?_
   have CO:=dd g2;exact A6 (by rw [Aa]; rintro rfl; exact CO rfl) (.refl _)
  ·refine tw w1 ?_
   have CO:=dd g2;exact A5 () CK ⟨rfl,AG Ak CO⟩ rfl
 ·refine tt ?_
  have CK:=dd g1;refine A6 ?_ (.refl _);rw [Aw]
  have e : a.comp=b.comp:=by
   refine List.ext_getElem Cr fun i hi hj=>?_
   have:=Ak i (by omega)
   simpa [gE,hi,hj] using this
  cases a; cases b; simp_all
theorem KF (B : Nat) (c : Ay) (hc : c.Is) : PB B 294 [.agg c.cells] (.CG [.agg (eO c),.bool (dec (Bg c))]):=by
 refine ⟨fun H0=>c294.go fun _=>?_⟩
 have hs:=hc.1
 have F3:=hs.o;refine tt ?_;refine nb (.nil _) fun id H o=>tt ?_;refine (U9 B c hc).go fun _=>tt ?_;apply bk <;> intro h1
 ·refine tt ?_
  have AR:=dd h1;refine sw o fun H o=>tt ?_;rw [o.rc 8 0 (by simp)];refine tt ?_;exact A6 (by rw [Ww AR,Aa AR]; rfl) o.sub
 ·refine tt ?_
  have AR:=dd h1;rw [cL AR];refine ⟨_,(Vj B c hs (AN c) (by simp [AN]; omega)).run,tt ?_⟩;refine ⟨_,(WT ..).run,tt ?_⟩;refine sw o fun H o=>tt ?_;rw [o.rc 8 0 (by simp)];refine tt ?_;exact A6 (by rw [XP AR,Aw AR]; rfl) o.sub
theorem EW {j : Dw} (h : j.Form) (hf : Bg j.shape) : j.AP.length=(AN j.shape).length∧∀ x : Nat,x<(AN j.shape).length→∀ s,s∈j.AP.getD x default→j.shape.Az x s∧s∈(AN j.shape).getD x default:=by
 have t:=Hj h.is hf
 have hl:=t.len
 have Ii:=h.len;refine ⟨by omega,fun x hx s hs=>?_⟩
 obtain ⟨k,hk,rfl⟩:=AE.mp hs
 have:=h.sv x (by omega) k hk;exact ⟨this,((t.all x hx).mem _).mpr this⟩
theorem XS (B : Nat) (j : Dw) (h : ¬ j.Form) : PB B 257 [.agg j.cells] (.CG [.agg MN,.sl [],.int .i64 1]):=by
 refine ⟨fun H0=>bZ.go fun _=>tt ?_⟩;refine nb (.nil _) fun id H o=>tt ?_;refine (FN B j).go fun _=>?_;rw [Aa h];refine tt ?_;refine sw o fun H o=>tt ?_;rw [o.rc 8 0 (by simp)];refine tt ?_;exact A6 rfl o.sub
theorem S7 (B : Nat) (j : Dw) (h : j.Form) (hf : ¬ Bg j.shape) : PB B 257 [.agg j.cells] (.CG [.agg MN,.sl [],.int .i64 3]):=by
 refine ⟨fun H0=>bZ.go fun _=>tt ?_⟩;refine nb (.nil _) fun id H o=>tt ?_;refine (FN B j).go fun _=>?_;rw [Aw h];refine tt ?_;refine (KF B j.shape h.is).go fun _=>?_;rw [Aa hf,Ww hf];refine tt ?_;refine nb o fun CP H o=>tt ?_;refine sw o fun H o=>tt ?_;refine sw o.swap fun H o=>tt ?_;rw [o.rc 8 0 (by simp)];refine tt ?_;exact A6 rfl o.sub
theorem XG (B : Nat) (j : Dw) (h : j.Form) (hf : Bg j.shape) : PB B 257 [.agg j.cells] (.CG [.agg (BE j.shape (AN j.shape)),vP (marksOf (AN j.shape) j.AP),.int .i64 0]):=by
 refine ⟨fun H0=>bZ.go fun _=>?_⟩
 have Kl:=EW h hf;refine tt ?_;refine nb (.nil _) fun id H o=>tt ?_;refine (FN B j).go fun _=>?_;rw [Aw h];refine tt ?_;refine (KF B j.shape h.is).go fun _=>?_;rw [Aw hf,XP hf];refine tt ?_;refine nb o fun CP H o=>tt ?_;refine sw o fun H o=>tt ?_;refine Ac o (by simp) (tt ?_);refine Ac o (by simp) (tt ?_);refine ⟨_,(UU B j.shape (AN j.shape) (Hj h.is hf) j.AP Kl.1 fun x hx s hs=>(Kl.2 x hx s hs).2).run,tt ?_⟩;refine sw o.swap fun H o=>tt ?_;rw [o.rc 8 0 (by simp)];refine tt ?_;exact A6 rfl o.sub
open Classical in
/-- The code of a topology. -/
noncomputable def DO (j : Dw) : Int:=if ¬ j.Form then 1 else if ¬ Bg j.shape then 3 else if Ia j.shape j.AP then 0 else 5
def mU (j : Dw) (H0 : AB) : Am:=fun r H'=>H'=H0∧∃ cs b,cs.length=8∧(∀ c,c∈cs→c.one=true)∧r=.CG [.agg cs,b,.int .i64 (DO j)]
theorem Ot {j : Dw} {H0 H : AB} {cs : List AV} {b : AV} {n : Int} (hs : H0.sub H) (hl : cs.length=8) (ho : ∀ c,c∈cs→c.one=true) (hn : n=DO j) : Ik (mU j H0) (.CG [.agg cs,b,.int .i64 n]) H :=
 ⟨H0,hs,rfl,cs,b,hl,ho,by rw [hn]⟩
theorem Vr (B : Nat) (j : Dw) (H0 : AB) : CB B 188 [.agg j.cells] H0 (mU j H0):=by
 refine uL.go fun _=>?_;refine tt ?_;refine nb (.nil _) fun id H o=>tt ?_
 by_cases h : j.Form
 ·by_cases hf : Bg j.shape
  ·have t:=Hj h.is hf
   have Kl:=EW h hf
   have lW:=TR t (C:=j.AP) fun x hx s hs=>(Kl.2 x hx s hs).1;refine (XG B j h hf).go fun _=>tt ?_;refine nb o fun CP H o=>tt ?_;refine sw o fun H o=>?_;try simp only [go_sem,↓reduceIte,reduceEqDiff,reduceAdd,reduceMul,reduceLeDiff,reduceLT,decide_true,decide_false,eq_self,Int.reduceEq]
   refine Ac o (by simp) (tt ?_);refine (eW B j.shape (AN j.shape) t (marksOf (AN j.shape) j.AP) GH).go fun _=>tt ?_;apply bk <;> intro h1
   all_goals
    refine tt ?_;refine Ac o (by simp) (tt ?_);refine sw o.swap fun H o=>tt ?_;rw [o.rc 8 0 (by simp)];refine tt ?_
    have AR:=dd h1;rw [lW] at AR;refine Ot o.sub rfl (by first | (simp only [go_sem]; done) | ((try simp only [go_sem]); simp [AV.one,EP])) ?_
    simp [DO,h,hf,AR]
  ·refine (S7 B j h hf).go fun _=>tt ?_;refine nb o fun CP H o=>tt ?_;refine sw o fun H o=>?_;try simp only [go_sem,↓reduceIte,reduceEqDiff,reduceAdd,reduceMul,reduceLeDiff,reduceLT,decide_true,decide_false,eq_self,Int.reduceEq]
   refine Ac o (by simp) (tt ?_);refine sw o.swap fun H o=>tt ?_;rw [o.rc 8 0 (by simp)];refine tt ?_;refine Ot o.sub rfl (by first | (simp only [go_sem]; done) | ((try simp only [go_sem]); simp [AV.one,EP])) ?_
   simp [DO,h,hf]
 ·refine (XS B j h).go fun _=>tt ?_;refine nb o fun CP H o=>tt ?_;refine sw o fun H o=>?_;try simp only [go_sem,↓reduceIte,reduceEqDiff,reduceAdd,reduceMul,reduceLeDiff,reduceLT,decide_true,decide_false,eq_self,Int.reduceEq]
  refine Ac o (by simp) (tt ?_);refine sw o.swap fun H o=>tt ?_;rw [o.rc 8 0 (by simp)];refine tt ?_;refine Ot o.sub rfl (by first | (simp only [go_sem]; done) | ((try simp only [go_sem]); simp [AV.one,EP])) ?_
  simp [DO,h]
open Classical in
/-- The code of a topology and a set functor. -/
noncomputable def codeF (j : Dw) (f : SF) : Int:=if ¬ (j.Form∧f.Is) then 1 else if DO j=0∧¬ j.shape=f.shape then 5 else DO j
theorem O7 (B : Nat) (j : Dw) (f : SF) : PB B 105 [.agg j.cells,.agg f.cells] (.int .i64 (codeF j f)):=by
 refine ⟨fun H0=>xl.go fun _=>tt ?_⟩;refine (FN B j).go fun _=>?_
 by_cases h1 : j.Form
 rotate_left
 ·rw [Aa h1];refine tt ?_;exact A6 (by rw [codeF,if_pos fun h=>h1 h.1]) (.refl _)
 rw [Aw h1];refine tt ?_;refine (PY B f).go fun _=>?_
 by_cases h2 : f.Is
 rotate_left
 ·rw [Aa h2];refine tt ?_;exact A6 (by rw [codeF,if_pos fun h=>h2 h.2]) (.refl _)
 rw [Aw h2];refine tt ?_;refine (Vr B j H0).mono ?_
 rintro r H' ⟨rfl,cs,b,hl,ho,rfl⟩;refine tt ?_;refine nb (.nil _) fun CP H o=>tt ?_;refine Ap o (by simp) hl ho fun H o=>tt ?_;apply bk <;> intro h3
 ·refine tw h3 ?_
  have B8:=dd h3;refine (Ny B j.shape f.shape).go fun _=>tt ?_;apply bk <;> intro h4
  ·refine tt ?_
   have Cr:=dd h4;exact A6 (by rw [codeF,if_neg (fun h=>h ⟨h1,h2⟩),if_pos ⟨B8,Cr⟩]) o.sub
  ·refine tt ?_
   have Cr:=dd h4;exact A6 (by rw [codeF,if_neg (fun h=>h ⟨h1,h2⟩),if_neg (fun h=>h.2 Cr)]) o.sub
 ·refine tw h3 ?_
  have B8:=dd h3;exact A6 (by rw [codeF,if_neg (fun h=>h ⟨h1,h2⟩),if_neg (fun h=>B8 h.1)]) o.sub
theorem H9 (B : Nat) (j : Dw) : PB B 100 [.agg j.cells] (BA (Aq j.shape j.AP)):=by
 refine ⟨fun H0=>yM.go fun ⟨hf,_⟩=>?_⟩
 have Ly:=hf.agg (c:=Ft j.AP) (by simp [Dw.cells])
 have hl:=AM Ly;simp only [AL] at hl;refine tt ?_;refine Ag iL (.nil _) fun id H o=>tt ?_;refine AD [1] (G:=Nat × List (List Int)) (fun k g=>[(3,some (.buf g.1 g.2.length)),(4,some (.int .i64 (k : Int)))]) (fun k g H=>g.2=(List.range k).map (EI j.shape j.AP)∧AA H0 H [(g.1,.cells 1 (g.2.map iL) 0)]) j.AP.length (id,[]) ⟨rfl,o⟩ rfl ?_
 rintro k ⟨id,out⟩ H hk ⟨Au,o⟩;dsimp only at Au
 have TM : out.length=k:=by rw [Au]; simp
 refine tt ?_;apply bk <;> intro h1
 ·refine tt ?_
  have AR:=dd h1
  have w1:=ws k
  have hRl : (j.AP.getD k default).length≤AL:=AM (by have:=IA (i:=(k : Int)) Ly (by rw [HU]; omega); rw [AH] at this; exact this);simp only [AL] at hRl;refine (MZ B j.shape k).go fun JP=>?_
  have Va:=AM JP;simp only [AL] at Va;refine tt ?_;refine Ag iI o fun BQ H o=>tt ?_
  generalize hou : outs j.shape k=ou at *
  generalize hR : j.AP.getD k default=R at *;refine AD [1,3,4,5] (G:=Nat × List Int) (fun i g=>[(6,some (.buf g.1 g.2.length)),(7,some (.int .i64 (i : Int)))]) (fun i g H=>g.2=(ou.take i).filter (E4 R)∧AA H0 H [(g.1,.cells 1 (g.2.map iI) 0),(id,.cells 1 (out.map iL) 0)]) ou.length (BQ,[]) ⟨by simp,o⟩ rfl ?_
  rintro i ⟨BQ,row⟩ H hi ⟨B3,o⟩;dsimp only at B3
  have Mc : row.length≤i:=by rw [B3]; exact Ts _ _ _
  refine tt ?_;apply bk <;> intro h2
  ·refine tt ?_
   have Ah:=dd h2
   have w2:=ws i;refine AD [1,3,4,5,6,7] (G:=Bool) (fun q b=>[(8,some (.bool b)),(9,some (.int .i64 (q : Int)))]) (fun q b H'=>H'=H∧(b=true↔∀ x,x<q→ou.getD i default∈R.getD x default)) R.length true ⟨rfl,by simp⟩ rfl ?_
   rintro q b H' hq ⟨rfl,hb⟩;refine tt ?_;refine ⟨AR, ?_⟩;rw [hR];apply bk <;> intro h3
   ·refine tt ?_
    have B8:=dd h3
    have w3:=ws q;apply bk <;> intro h4
    ·refine tw h4 ?_
     have Cr:=h4;refine ⟨AR, ?_⟩;rw [hR];refine ⟨B8,Ah,_,(Je ..).run, ?_⟩;refine tw w3 ?_;refine A5 _ (by omega) ⟨rfl, ?_⟩ rfl;rw [Fx];exact ⟨fun h x hx=>AG (hb.mp Cr) h x hx,fun h=>h q (by omega)⟩
    ·refine t2 h4 w3 ?_
     have Cr:=h4;refine A5 _ (by omega) ⟨rfl, ?_⟩ rfl;refine ⟨fun h=>(by cases h),fun h=>?_⟩;rw [hb.mpr fun x hx=>h x (by omega)] at Cr; cases Cr
   ·refine tt ?_
    have B8:=dd h3
    obtain rfl : q=R.length:=by omega
    apply bk <;> intro h4
    ·refine tt ?_
     have Cr:=h4;refine ⟨Ah, ?_⟩;refine Ad (ou.getD i default) o rfl rfl (by simp only [AL]; omega) fun BQ H o=>?_;refine tw w2 ?_;exact A5 (_,_) (by omega) ⟨by rw [B3,c5 Ah (cM (hb.mp Cr))],o⟩ rfl
    ·refine tw w2 ?_
     have Cr:=h4;refine A5 (_,_) (by omega) ⟨?_,o⟩ rfl
     have ES : ¬ ∀ x,x<R.length→ou.getD i default∈R.getD x default:=fun h=>by rw [hb.mpr h] at Cr; cases Cr
     have : ∃ x,x<R.length∧ou.getD i default ∉ R.getD x default:=Classical.byContradiction fun hn=>ES fun x hx=>Classical.byContradiction fun h=>hn ⟨x,hx,h⟩
     obtain ⟨x,hx,hxn⟩:=this;rw [B3,dL Ah (eC hx hxn)]
  ·refine tt ?_
   have Ah:=dd h2;refine Al o rfl fun H o=>tt ?_;refine Ad row o rfl rfl (by simp only [AL]; omega) fun id H o=>?_;refine tw w1 ?_;refine A5 (_,_) (by omega) ⟨?_,o⟩ rfl
   have e : row=EI j.shape j.AP k:=by rw [B3,show i=ou.length by omega,List.take_length,EI,hou,hR]
   rw [Bb,← Au,← e]
 ·refine tt ?_
  have AR:=dd h1;refine Al o rfl fun H o=>tt ?_;exact A6 (by rw [Au,show k=j.AP.length by omega]; rfl) o.sub
theorem Un (B : Nat) (c : Ay) (hs : c.Shape) (s : List Int) (hv : ∀ a,a∈s→0≤a∧a.toNat<c.AJ.length) (Fg : s.length≤40) : PB B 159 [.agg c.cells,iL s] (BA (rowsOf c s)):=by
 refine ⟨fun H0=>c159.go fun _=>?_⟩
 have hm:=hs.m
 have Md:=hs.cl
 have IQ:=hs.HN;refine tt ?_;refine Ag iL (.nil _) fun id H o=>tt ?_;refine AD [1,2] (G:=Nat × List (List Int)) (fun k g=>[(5,some (.buf g.1 g.2.length)),(6,some (.int .i64 (k : Int)))]) (fun k g H=>g.2=EM c s k∧AA H0 H [(g.1,.cells 1 (g.2.map iL) 0)]) s.length (id,[]) ⟨rfl,o⟩ rfl ?_
 rintro k ⟨id,out⟩ H hk ⟨Au,o⟩;dsimp only at Au
 have TM : out.length≤k*c.AJ.length:=by rw [Au]; exact GO c s k
 have hmul : k*c.AJ.length≤40*40:=Nat.mul_le_mul (by omega) hm;refine tt ?_;apply bk <;> intro h1
 ·refine tt ?_
  have AR:=dd h1
  have w1:=ws k
  have ha:=hv _ (AE.mpr ⟨k,AR,rfl⟩)
  have hr:=hs.L8 (a:=s.getD k default) ha.2;refine AD [1,2,6] (G:=Nat × List (List Int)) (fun b g=>[(5,some (.buf g.1 g.2.length)),(7,some (.int .i64 (b : Int)))]) (fun b g H=>g.2=out++E5 c s k b∧AA H0 H [(g.1,.cells 1 (g.2.map iL) 0)]) c.AJ.length (id,out) ⟨by simp [E5],o⟩ rfl ?_
  rintro b ⟨id,out2⟩ H hb ⟨VT,o⟩;dsimp only at VT
  have hol2 : out2.length≤1600+b:=by rw [VT,List.length_append]; have:=OP c s k b; omega
  refine tt ?_;apply bk <;> intro h2
  ·refine tt ?_
   have Ah:=dd h2
   have w2:=ws b;refine ⟨Ah,AR,⟨ha.1,by omega⟩, ?_⟩;apply bk <;> intro h3
   ·refine tt ?_
    have B8:=dd h3;refine ⟨AR,_,(F9 B c (s.getD k default) b ⟨ha.1,by omega⟩ ⟨by omega,by omega⟩).run,tt ?_⟩;refine ⟨_,(FU ..).run,tt ?_⟩;refine ⟨by simp [AL],Ad (f:=iL) (H8 c s k b) o (by simp [H8,mL,AH]) rfl (by simp only [AL]; omega) fun id H o=>?_⟩;refine tw w2 ?_;exact A5 (_,_) (by omega) ⟨by rw [fN (by simpa [ZV] using B8),VT,List.append_assoc],o⟩ rfl
   ·refine tw w2 ?_
    have B8:=dd h3;exact A5 (_,_) (by omega) ⟨by rw [fA (by simpa [ZV] using B8),VT],o⟩ rfl
  ·refine tw w1 ?_
   have Ah:=dd h2;exact A5 (_,_) (by omega) ⟨by rw [JB,VT,Au,show b=c.AJ.length by omega],o⟩ rfl
 ·refine tt ?_
  have AR:=dd h1;refine Al o rfl fun H o=>tt ?_;exact A6 (by rw [Au,show k=s.length by omega]; rfl) o.sub
def NV (p : List Int) : Int:=p.foldl (fun n y=>if y+1 > n then y+1 else n) 0
theorem RQ (p : List Int) {k : Nat} (h : k<p.length) : NV (p.take (k+1))=if p.getD k default+1 > NV (p.take k) then p.getD k default+1 else NV (p.take k):=by
 rw [NV,Co p h,List.foldl_append]; rfl
theorem Zf (B : Nat) (p : List Int) (hp : ∀ y,y∈p→0≤y∧y<1048576) : PB B 240 [iL p] (.int .i64 (NV p)):=by
 refine ⟨fun H0=>xe.go fun ⟨hf,_⟩=>?_⟩
 have hl:=AM hf;simp only [AL] at hl;refine tt ?_;refine AD [0] (G:=Int) (fun k n=>[(3,some (.int .i64 n)),(4,some (.int .i64 (k : Int)))]) (fun k n H=>H=H0∧n=NV (p.take k)) p.length 0 ⟨rfl,rfl⟩ rfl ?_
 rintro k n H hk ⟨rfl,hn⟩;refine tt ?_;apply bk <;> intro h1
 ·refine tt ?_
  have AR:=dd h1
  have w1:=ws k
  have hy:=hp _ (AE.mpr ⟨k,AR,rfl⟩)
  have w2 : IntKind.i64.wrap (p.getD k default+1)=p.getD k default+1:=wrap_i64 (by omega) (by omega);refine ⟨AR, ?_⟩;refine t2 w1 w2 ?_
  exact A5 _ (by omega) ⟨rfl,by rw [RQ p AR,← hn]⟩ rfl
 ·refine tt ?_
  have AR:=dd h1;exact A6 (by rw [hn,show k=p.length by omega,List.take_length]) (.refl _)
theorem kM (p : List Int) (hp : ∀ y,y∈p→0≤y∧y<1048576) : 0≤NV p∧NV p≤1048576:=by
 have key : ∀ k,k≤p.length→0≤NV (p.take k)∧NV (p.take k)≤1048576:=by
  intro k
  induction k with
  | zero=>intro _; simp [NV]
  | succ k ih =>
   intro hk
   have:=ih (by omega)
   have hy:=hp _ (AE.mpr ⟨k,by omega,rfl⟩);rw [RQ p (by omega)]
   split <;> omega
 have:=key p.length (Nat.le_refl _)
 rwa [List.take_length] at this
theorem QX (B : Nat) (l : List Int) (hl : l.length≤100000) (H0 : AB) : CB B 279 [iL l] H0 (fun r H'=>H'=H0∧∃ p : List Int,p.length=l.length∧(∀ y,y∈p→0≤y∧y<1048576)∧r=iL p):=by
 refine mK.go fun _=>?_;refine tt ?_;refine Ag iI (.nil _) fun Ce H o=>tt ?_;refine Ag iI o fun BJ H o=>tt ?_
 refine AD [0] (G:=(Nat × List Int) × (Nat × List Int)) (fun k g=>[(3,some (.buf g.1.1 g.1.2.length)),(4,some (.buf g.2.1 g.2.2.length)),(5,some (.int .i64 (k : Int)))])
  (fun k g H=>(g.1.2.length=k∧(∀ y,y∈g.1.2→0≤y∧y<1048576)∧g.2.2.length≤k)∧AA H0 H [(g.2.1,.cells 1 (g.2.2.map iI) 0),(g.1.1,.cells 1 (g.1.2.map iI) 0)]) l.length ((Ce,[]),(BJ,[])) ⟨⟨rfl,by simp,by simp⟩,o⟩ rfl ?_
 rintro k ⟨⟨Ce,out⟩,⟨BJ,seen⟩⟩ H hk ⟨⟨TM,ve,Fg⟩,o⟩;dsimp only at o TM ve Fg;refine tt ?_;apply bk <;> intro h1
 ·refine tt ?_
  have AR:=dd h1
  have w1:=ws k;refine ⟨AR,MK 0 rfl o rfl (.int _ _) (FU ..).run ?_⟩
  have hb:=GL seen (l.getD k default);refine tt ?_;apply bk <;> intro h2
  ·refine tt ?_
   have Ah:=dd h2;refine ⟨AR, ?_⟩;refine Ad (l.getD k default) o rfl rfl (by simp only [AL]; omega) fun BJ H o=>tt ?_;refine Ad ((seen.length : Nat) : Int) o.swap rfl rfl (by simp only [AL]; omega) fun Ce H o=>?_;refine tw w1 ?_;refine A5 ((_,_),(_,_)) (by omega) ⟨⟨by simp [TM],fun y hy=>?_,by simp; omega⟩,o.swap⟩ rfl
   rcases List.mem_append.mp hy with hy | hy
   ·exact ve y hy
   ·rw [List.mem_singleton] at hy; subst hy; omega
  ·refine tt ?_
   have Ah:=dd h2;refine Ad (indexOf seen (l.getD k default)) o.swap rfl rfl (by simp only [AL]; omega) fun Ce H o=>?_;refine tw w1 ?_;refine A5 ((_,_),(_,_)) (by omega) ⟨⟨by simp [TM],fun y hy=>?_,by simp; omega⟩,o.swap⟩ rfl
   rcases List.mem_append.mp hy with hy | hy
   ·exact ve y hy
   ·rw [List.mem_singleton] at hy; subst hy; omega
 ·refine tt ?_
  have AR:=dd h1;refine Al o.swap rfl fun H o=>tt ?_;exact ⟨_,o.sub,rfl,out,by omega,ve,rfl⟩
theorem Wl (B : Nat) (n : Nat) (hn : n≤100000) (ps : List (List Int)) (hp : ∀ q,q∈ps→2≤q.length∧(0≤q.getD 0 default∧(q.getD 0 default).toNat<n)∧(0≤q.getD 1 default∧(q.getD 1 default).toNat<n)) (H0 : AB) :
  CB B 229 [.int .i64 n,BA ps] H0 (fun r H'=>H'=H0∧∃ p : List Int,p.length=n∧(∀ y,y∈p→0≤y∧y<1048576)∧r=iL p):=by
 refine mY.go fun ⟨_,hf,_⟩=>?_
 have hl:=AM hf;simp only [AL] at hl;refine tt ?_;refine Ag iI (.nil _) fun id H o=>tt ?_;refine AD [0,1] (G:=Nat × List Int) (fun k g=>[(5,some (.buf g.1 g.2.length)),(6,some (.int .i64 (k : Int)))]) (fun k g H=>g.2.length=k∧AA H0 H [(g.1,.cells 1 (g.2.map iI) 0)]) n (id,[]) ⟨rfl,o⟩ rfl ?_
 rintro k ⟨id,A⟩ H hk ⟨hA,o⟩;dsimp only at hA;refine tt ?_;apply bk <;> intro h1
 ·refine tt ?_
  have AR:=dd h1
  have w1:=ws k;refine Ad (k : Int) o rfl rfl (by simp only [AL]; omega) fun id H o=>?_;refine tw w1 ?_;exact A5 (_,_) (by omega) ⟨by simp [hA],o⟩ rfl
 ·refine tt ?_
  have AR:=dd h1
  obtain rfl : k=n:=by omega
  refine AD [1,5] (fun q _=>[(7,some (.int .i64 (q : Int)))]) (fun q A H=>A.length=k∧AA H0 H [(id,.cells 1 (A.map iI) 0)]) ps.length A ⟨hA,o⟩ rfl ?_
  rintro q A2 H hq ⟨aZ,o⟩;refine tt ?_;apply bk <;> intro h2
  ·refine tt ?_
   have Ah:=dd h2
   have w2:=ws q
   have sL:=hp _ (AE.mpr ⟨q,Ah,rfl⟩)
   have e0 : ix (ps.getD q default) 0=(ps.getD q default).getD 0 default:=rfl
   have e1 : ix (ps.getD q default) 1=(ps.getD q default).getD 1 default:=rfl;refine ⟨Ah,⟨by omega,Nat.lt_of_lt_of_le (by decide) sL.1⟩,⟨by rw [e0]; omega,by rw [e0]; omega⟩,BU o (by rw [e0]; omega) ?_⟩;refine tt ?_;refine ⟨Ah,⟨by omega,Nat.lt_of_lt_of_le (by decide) sL.1⟩,⟨by rw [e1]; omega,by rw [e1]; omega⟩,BU o (by rw [e1]; omega) ?_⟩;refine tt ?_;refine AD [1,5,7,8,9] (fun i _=>[(10,some (.int .i64 (i : Int)))]) (fun i A H=>A.length=k∧AA H0 H [(id,.cells 1 (A.map iI) 0)]) k A2 ⟨aZ,o⟩ rfl ?_
   rintro i A3 H hi ⟨l6,o⟩;rw [hA];refine tt ?_;apply bk <;> intro h3
   ·refine tw h3 ?_
    have B8:=dd h3
    have w3:=ws i;apply bk <;> intro h4
    ·refine tt ?_
     have Cr:=dd h4;refine ⟨B8,BU o (by omega) ?_⟩;refine tt ?_;apply bk <;> intro h5
     ·refine tt ?_
      have Ho:=dd h5;refine ⟨B8,Bw _ o rfl (by omega) fun H o=>?_⟩;refine tw w3 ?_;exact A5 _ (by omega) ⟨by rw [List.length_set]; exact l6,o⟩ rfl
     ·refine tw w3 ?_;exact A5 _ (by omega) ⟨l6,o⟩ rfl
    ·refine tw w2 ?_;exact A5 _ (by omega) ⟨l6,o⟩ rfl
   ·refine t2 h3 w2 ?_
    exact A5 _ (by omega) ⟨l6,o⟩ rfl
  ·refine tt ?_
   have Ah:=dd h2;rw [hA,← aZ];refine Al o rfl fun H o=>tt ?_;refine (QX B A2 (by omega) H).mono ?_
   rintro r H' ⟨rfl,p,h3,h4,rfl⟩;refine tt ?_;exact ⟨_,o.sub,rfl,p,by omega,h4,rfl⟩
@[go_sem] def Bt (A4 : List Int) (ls : List Lk) (at' : List (List Int)) (most : Nat) (X : AV) : List AV:=[iL A4,mL iO ls,BA at',.int .i64 most,X]
theorem OU (B : Nat) (A4 : List Int) (ls : List Lk) (at' : List (List Int)) (most : Nat) (X : AV) (ok : Gp A4 ls) (ha : j6 A4 ls at') (p : List Int) (hp : J2 A4 p) (n : Nat) (hn : n<p.length) (h1 : p.getD n default=-1) (H0 : AB) :
  CB B 285 [.ptr (Bt A4 ls at' most X),iL p,.int .i64 n] H0 (PQ iI H0 [] (·=Bq A4 ls p n)):=by
 refine zK.go fun ⟨hfT,_⟩=>?_
 have Q5 : AV.EY (BA at'):=hfT.ptr (by simp [Bt])
 have Kn:=hp.1
 have Hs:=ha.len
 have hanl : (at'.getD n default).length≤AL:=AM (by have:=IA (i:=(n : Int)) Q5 (by rw [HU]; omega); rw [AH] at this; exact this);simp only [AL] at hanl
 have CU:=ok.sz _ (AE.mpr ⟨n,by omega,rfl⟩);refine tt ?_;refine Ag iI (.nil _) fun id H o=>tt ?_;refine AD [0,1,2] (G:=Nat × List Int) (fun e g=>[(7,some (.buf g.1 g.2.length)),(8,some (.int .i64 (e : Int)))]) (fun e g H=>g.2=Eu (cY ls p n) e∧AA H0 H [(g.1,.cells 1 (g.2.map iI) 0)]) (A4.getD n default).toNat (id,[]) ⟨by simp,o⟩ rfl ?_
 rintro e ⟨id,out⟩ H he ⟨Au,o⟩;dsimp only at Au
 have TM : out.length≤e:=by rw [Au]; exact HZ _ _
 refine tt ?_;refine ⟨by omega, ?_⟩;apply bk <;> intro h2
 rotate_left
 ·refine tt ?_
  have Ah:=dd h2;exact Gy o rfl (by rw [Au,show e=(A4.getD n default).toNat by omega]; rfl)
 refine tt ?_
 have Ah:=dd h2
 have w1:=ws e
 generalize Qm : at'.getD n default=an at *;refine AD [0,1,2,7,8] (G:=Bool) (fun k b=>[(9,some (.bool b)),(10,some (.int .i64 (k : Int)))]) (fun k b H=>(b=true↔∀ j,j<k→Fits (p.set n e) (ix ls (an.getD j default)))∧AA H0 H [(id,.cells 1 (out.map iI) 0)]) an.length true ⟨by simp,o⟩ rfl ?_
 rintro k b H hk ⟨hb,o⟩;refine tt ?_;refine ⟨by omega, ?_⟩;rw [Qm]
 have fin : ∀ (b : Bool) (k : Nat) (H : AB),AA H0 H [(id,.cells 1 (out.map iI) 0)]→k≤an.length→(b=true↔∀ j,j<k→Fits (p.set n e) (ix ls (an.getD j default)))→(b=false∨k=an.length)→(cY ls p n e=b):=by
  intro b k H o hk hb hx
  have hc:=pH ha (p:=p) (e:=(e : Int)) (n:=n) (by omega);rw [Qm] at hc
  cases b with
  | true =>
   rw [cY,Fx,hc]
   have hk : k=an.length:=by rcases hx with h | h; cases h; exact h
   rw [← hk]; exact hb.mp rfl
  | false =>
   rw [cY,Oy,hc]
   intro h
   have:=hb.mpr fun j hj=>h j (by omega)
   cases this
 apply bk <;> intro h3
 rotate_left
 ·refine tw h3 ?_
  have B8:=dd h3
  have fY:=fin b k H o hk hb (.inr (by omega));apply bk <;> intro h4
  ·refine tw h4 ?_;refine Ad (e : Int) o rfl rfl (by simp only [AL]; omega) fun id H o=>?_;refine tw w1 ?_;exact A5 (_,_) (by omega) ⟨by rw [Au,On (by rw [fY]; exact h4)],o⟩ rfl
  ·refine t2 h4 w1 ?_
   exact A5 (_,_) (by omega) ⟨by rw [Au,Kd (by rw [fY]; exact h4)],o⟩ rfl
 refine tw h3 ?_
 have B8:=dd h3;apply bk <;> intro h4
 rotate_left
 ·refine t2 h4 w1 ?_
  have fY:=fin b k H o hk hb (.inl h4);exact A5 (_,_) (by omega) ⟨by rw [Au,Kd (by rw [fY]; exact h4)],o⟩ rfl
 refine tw h4 ?_
 have ll:=hb.mp h4
 have w3:=ws k
 have hy:=(ha.mem n (by omega) _).mp (by rw [Qm]; exact AE.mpr ⟨k,B8,rfl⟩);refine ⟨by omega, ?_⟩;rw [Qm];refine tt ?_;refine ⟨B8,⟨hy.1,hy.2.1⟩,by simp [AL],Ai o fun CP H o=>?_⟩;refine tt ?_;refine sw o fun H o=>tt ?_
 have CJ : ix ls (an.getD k default)∈ls:=Bh hy.2.1
 have hti : (ix ls (an.getD k default)).i=n∨(ix ls (an.getD k default)).j=n:=hy.2.2
 have next : ∀ (b2 : Bool),(b2=true↔Fits (p.set n e) (ix ls (an.getD k default)))→(b2=true↔∀ j,j<k+1→Fits (p.set n e) (ix ls (an.getD j default))) :=
  fun b2 h=>h.trans ⟨fun hf=>AG ll hf,fun h=>h k (by omega)⟩
 generalize ix ls (an.getD k default)=lk at *
 have bi:=ok.i lk CJ
 have bj:=ok.j lk CJ
 have bl:=ok.left lk CJ
 have br:=ok.right lk CJ
 have pv : ∀ i : Int,i.toNat<p.length→0≤ix p i→ix p i<ix A4 i:=fun i hi h0=>by
  rcases hp.2 _ hi with h | h
  ·simp only [ix] at h0; omega
  ·exact h.2
 have szn : ix A4 (n : Int)=A4.getD n default:=AH _ _;refine AK o (by simp) (tt ?_);apply bk <;> intro c1
 ·refine tw c1 ?_
  have c1p:=A7 c1;refine AK o (by simp) (tt ?_);apply bk <;> intro c2
  ·refine tt ?_
   have c2p:=A7 c2;refine AK o (by simp) (tt ?_);rw [c1p,szn] at bl;rw [c2p,szn] at br;refine ⟨by omega,AK o (by simp) ?_⟩;refine tt ?_;refine ⟨by omega, ?_⟩;refine tw w3 ?_;refine A5 _ (by omega) ⟨next _ ?_,o.tl⟩ rfl;rw [decide_eq_true_eq,rJ c1p c2p hn (by omega),AH,AH]
  ·refine tt ?_
   have c2p:=A9 c2;refine AK o (by simp) ?_;refine tw c1 ?_;refine AK o (by simp) (tt ?_);refine ⟨⟨bj.1,by omega⟩, ?_⟩;apply bk <;> intro c3
   ·refine tt ?_
    have c3p:=A7 c3;refine AK o (by simp) (tt ?_);rw [c1p,szn] at bl
    have:=pv _ (by omega) c3p;refine ⟨by omega,AK o (by simp) ?_⟩;refine tt ?_;refine AK o (by simp) (tt ?_);refine ⟨⟨bj.1,by omega⟩,⟨c3p,by omega⟩, ?_⟩;refine tw w3 ?_;refine A5 _ (by omega) ⟨next _ ?_,o.tl⟩ rfl;rw [decide_eq_true_eq,rI c1p c2p bj.1 hn (by omega) c3p,AH]
   ·refine tt ?_
    have c3p:=A9 c3;refine AK o (by simp) ?_;refine tw c2 ?_;refine A5 _ (by omega) ⟨next _ ?_,o.tl⟩ (by rw [w3]);exact ⟨fun _=>jX c2p bj.1 c3p,fun _=>rfl⟩
 ·refine tw c1 ?_
  have c1p:=A9 c1
  have c2p:=hti.resolve_left c1p;refine AK o (by simp) ?_;refine tw c1 ?_;refine AK o (by simp) (tt ?_);apply bk <;> intro c2
  rotate_left
  ·exact absurd c2p (A9 c2)
  refine tw c2 ?_;refine AK o (by simp) (tt ?_);refine ⟨⟨bi.1,by omega⟩, ?_⟩;apply bk <;> intro c3
  ·refine tt ?_
   have c3p:=A7 c3;refine AK o (by simp) (tt ?_);refine AK o (by simp) (tt ?_);rw [c2p,szn] at br
   have:=pv _ (by omega) c3p;refine ⟨⟨bi.1,by omega⟩,⟨c3p,by omega⟩,AK o (by simp) ?_⟩;refine tt ?_;refine ⟨by omega, ?_⟩;refine tw w3 ?_;refine A5 _ (by omega) ⟨next _ ?_,o.tl⟩ rfl;rw [decide_eq_true_eq,qK c2p c1p bi.1 hn (by omega) c3p,AH]
  ·refine tt ?_
   have c3p:=A9 c3;refine A5 _ (by omega) ⟨next _ ?_,o.tl⟩ (by rw [w3]);exact ⟨fun _=>kP c1p bi.1 c3p,fun _=>rfl⟩
end Go.Proofs.Shf
namespace Go.AW
open Go.Proofs Go.Shf Go.Proofs.Shf
theorem B7.Y0 {P : Program} {α : Type} {f : α→AV} {B : Nat} {fn : FuncId} {args es : List AV} {H0 H : AB} {base : List (Nat × AF)} {Q : List α→Prop} {K : Am} (o : AA H0 H base) (D3 : ∀ a,Cp (f a)) (hl : es.length=args.length)
  (ht : ∀ i,i<args.length→∀ g w v,Ao g B H w→Ab g (args.getD i nv) v→Ab (g.EB H w) (es.getD i nv) v)
  (h : B7 P B fn es H.Ov (PQ f H.Ov [] Q)) (hk : ∀ id A H',AA H0 H' ((id,.cells 1 (A.map f) 0)::base)→Q A→K (.buf id A.length) H') : B7 P B fn args H K :=
 B7.borrow hl ht h fun r H' ⟨id,A,e,o',q⟩=>⟨[(id,.cells 1 (A.map f) 0)],o',fun x hx=>by
   rw [List.mem_singleton] at hx; subst hx
   intro c hc
   obtain ⟨a,_,rfl⟩:=List.mem_map.mp hc;exact D3 a,e ▸ Cp.buf _ _,fun hn=>by subst e; exact hk id A _ (o.trans (AA.Ov o' hn)) q⟩
end Go.AW
namespace Go.Proofs.Shf
open Go.AW Go.Proofs Go.Shf
theorem Qr (B : Nat) (A4 : List Int) (ls : List Lk) (at' : List (List Int)) (most : Nat) (FY : most≤1048576) (ok : Gp A4 ls) (ha : j6 A4 ls at') (Fg : A4.length≤1048576) :
  ∀ (n : Nat) (p : List Int),DY p=n→J2 A4 p→Cons ls p→∀ (H0 H : AB) (l : List (Nat × AF)) (VV : Nat) (X : AV) (found : List (List Int)),
   CZ iL H0 H ((VV,.cells 5 (Bt A4 ls at' most X) 0)::l) X found→found.length<most →
   CB B 241 [.ref VV 0,iL p] H (fun r H'=>r=.CG []∧∃ X',CZ iL H0 H' ((VV,.cells 5 (Bt A4 ls at' most X') 0)::l) X' (found++(H7 A4 ls p).take (most - found.length))):=by
 intro n
 induction n using Nat.strongRecOn with
 | _ n ih =>
 intro p hn hp hc H0 H l VV X found hX Fc;refine yL.go fun _=>?_
 have Kn:=hp.1
 obtain ⟨pp,o,Vc⟩:=hX.split;clear hX;refine tt ?_;refine Ag iI o fun gF H o=>?_
 have wl : IntKind.i64.wrap ((p.length : Int) - 1)=(p.length : Int) - 1:=wrap_i64 (by omega) (by omega);refine tw wl ?_
 refine Dg [0,1] (fun (g : (Nat × List Int) × Nat × Int)=>[(4,some (.int .i64 g.2.2)),(5,some (.buf g.1.1 g.1.2.length)),(6,some (.int .i64 ((g.2.1 : Int) - 1)))])
  (fun k g H=>k=g.2.1∧k≤p.length∧qI A4 ls p g.2.1 g.2.2 g.1.2∧AA H0 H ((g.1.1,.cells 1 (g.1.2.map iI) 0)::(pp++((VV,.cells 5 (Bt A4 ls at' most X) 0)::l)))) p.length ((gF,[]),p.length,-1)
  ⟨rfl,Nat.le_refl _,.inl ⟨rfl,rfl,fun m h1 h2=>by have h1 : p.length≤m:=h1; omega⟩,o⟩ rfl ?_
 rintro k ⟨⟨gF,ch⟩,k',first⟩ H ⟨TG,hk,hg,o⟩
 obtain rfl : k=k':=TG;dsimp only at hg o;refine tt ?_;apply bk <;> intro h1
 ·refine tt ?_
  have AR:=A7 h1
  obtain ⟨m,rfl⟩ : ∃ m,k=m+1:=⟨k - 1,by omega⟩
  have e1 : ((m+1 : Nat) : Int) - 1=(m : Int):=by omega
  have wm : IntKind.i64.wrap ((m : Int) - 1)=(m : Int) - 1:=wrap_i64 (by omega) (by omega);refine tw e1 ?_;refine ⟨by omega, ?_⟩;apply bk <;> intro h2
  ·refine tt ?_
   have Ah:=A7 h2;refine B7.Y0 (f:=iI) (Q:=(·=Bq A4 ls p m)) (es:=[.ptr (Bt A4 ls at' most X),iL p,.int .i64 m]) o (fun _=>.int _ _) rfl (fun i hi=>?_) (OU B A4 ls at' most X ok ha p hp m (by omega) Ah H.Ov) ?_
   ·obtain rfl | rfl | rfl : i=0∨i=1∨i=2:=by simp only [List.length_cons,List.length_nil] at hi; omega
    ·have hg : H.get VV=some (.cells 5 (Bt A4 ls at' most X) 0):=o.get (VV,_) (by simp);exact (Tr.ref VV 5 0 _ _ hg rfl fun i _=>.val _).arg
    ·exact DA _
    ·exact DA _
   rintro ER ch2 H o rfl;refine tt ?_;apply bk <;> intro h3
   ·refine tt ?_
    have B8:=A7 h3
    have sK : Bq A4 ls p m=[]:=List.eq_nil_of_length_eq_zero (by omega);refine ⟨_,.refl _,rfl,X, ?_⟩;rw [GP (ZM ok Kn (by omega) Ah sK),List.take_nil,List.append_nil];exact CZ.mk o.tl.tl Vc
   ·refine tw wm ?_
    have B8:=A9 h3;refine CY m ((_,_),m,_) (by omega) ⟨rfl,by omega,qI.XR (by omega) Ah fun e=>B8 (by rw [e]; rfl),o.swap.tl⟩ rfl
  ·refine tw wm ?_
   have Ah:=A9 h2;exact CY m ((_,_),m,_) (by omega) ⟨rfl,by omega,hg.skip Ah,o⟩ rfl
 ·refine tt ?_
  have AR:=A9 h1
  obtain rfl : k=0:=by omega
  apply bk <;> intro h5
  ·have Ho:=A7 h5
   rcases hg with ⟨rfl,rfl,Ak⟩ | ⟨f,rfl,_⟩
   rotate_left
   ·omega
   refine tt ?_
   have oI:=Pm (A4:=A4) hc fun m hm=>Ak m (by omega) hm
   have hX:=CZ.mk o.tl Vc;refine Af hX.obj (by simp [Bt]) (tt ?_);refine ⟨_,(Df B p).run,tt ?_⟩;refine hX.app p rfl (by simp only [AL]; omega) fun ER H o=>tt ?_;refine Ap o.swap (by simp [Bt]) rfl (by simp only [Bi,CR]; exact ⟨rfl,trivial⟩) fun H o=>?_;have o:=s2 o;refine tt ?_;refine ⟨_,.refl _,rfl,.buf ER (found++[p]).length,.inr ⟨ER, ?_, ?_⟩⟩
   ·rw [GP oI,List.take_of_length_le (by simp; omega)]
   ·rw [GP oI,List.take_of_length_le (by simp; omega)]; exact o.swap
  ·have Ho:=A9 h5
   rcases hg with ⟨rfl,rfl,Ak⟩ | ⟨f,rfl,_,gC,TP,Q0,rfl,Bp⟩
   ·omega
   refine tt ?_
   have Md : (Bq A4 ls p f).length≤17:=by
    have:=HZ (cY ls p f) (A4.getD f default).toNat
    have h2:=ok.sz _ (AE.mpr ⟨f,by omega,rfl⟩);rw [Bq]; omega
   have D0:=Uo ok hp hc gC TP fun m hm=>Q0 m (by omega) hm
   generalize rW : Bq A4 ls p f=ch at *
   have hchm : ∀ e,e∈ch→(0≤e∧e<A4.getD f default)∧vG ls p f e:=fun e he=>FQ.mp (by rw [rW]; exact he)
   have uw:=CZ.mk (l:=(VV,AF.cells 5 (Bt A4 ls at' most X) 0)::((gF,AF.cells 1 (ch.map iI) 0)::l)) (X:=X) (A:=found) (f:=iL) (p:=pp) (o.perm (((List.perm_middle (a:=(gF,AF.cells 1 (ch.map iI) 0)) (l₁:=pp)).symm).trans (List.Perm.append_left _ (List.Perm.swap _ _ _)))) Vc
   have Vd : (most - found.length)+found.length=most:=by omega
   refine AD [0,1,4,5] (fun k _=>[(7,some (.int .i64 (k : Int)))]) (fun k X H=>CZ iL H0 H ((VV,.cells 5 (Bt A4 ls at' most X) 0)::((gF,.cells 1 (ch.map iI) 0)::l)) X (found++((ch.take k).flatMap fun e=>H7 A4 ls (p.set f e)).take (most - found.length))) ch.length X (by simpa using uw) rfl ?_
   rintro k X H hk hX
   have gP : ∀ X H,CZ iL H0 H ((VV,.cells 5 (Bt A4 ls at' most X) 0)::((gF,.cells 1 (ch.map iI) 0)::l)) X (found++(H7 A4 ls p).take (most - found.length)) →
     ∃ X',CZ iL H0 H ((VV,.cells 5 (Bt A4 ls at' most X') 0)::l) X' (found++(H7 A4 ls p).take (most - found.length)):=by
    intro X H hX
    obtain ⟨q,o,hq⟩:=hX.split;refine ⟨X,CZ.mk (p:=q) ?_ hq⟩
    have o2:=o.perm ((List.Perm.append_left q (List.Perm.swap _ _ l)).trans (List.perm_middle (a:=(gF,AF.cells 1 (ch.map iI) 0)) (l₁:=q)));exact o2.tl
   refine tt ?_;apply bk <;> intro h2
   rotate_left
   ·refine tw h2 ?_
    have Ah:=A9 h2
    obtain rfl : k=ch.length:=by omega
    rw [List.take_length,← D0] at hX;exact ⟨_,.refl _,rfl,gP _ _ hX⟩
   refine tw h2 ?_
   have Ah:=A7 h2
   have w2:=ws k;refine Af hX.obj (by simp [Bt]) (tt ?_);rw [hX.Ee];refine tt ?_;refine Af hX.obj (by simp [Bt]) (tt ?_);apply bk <;> intro h3
   rotate_left
   ·refine tt ?_
    have B8:=A9 h3;refine ⟨H,.refl _,rfl,gP X H ?_⟩
    have e : ((ch.take k).flatMap fun e=>H7 A4 ls (p.set f e)).take (most - found.length)=(H7 A4 ls p).take (most - found.length):=by
     rw [D0]
     conv=>rhs; rw [← List.take_append_drop k ch,List.flatMap_append]
     rw [List.take_append_of_le_length];rw [List.length_append,List.length_take] at B8;omega
    rw [← e]; exact hX
   refine tt ?_
   have B8:=A7 h3
   obtain ⟨q,o,hq⟩:=hX.split;refine (I7 B p H0 H _ o).own ?_
   rintro Ea A8 H o rfl;refine tt ?_
   have Nc : H.get gF=some (.cells 1 (ch.map iI) 0):=o.get (gF,.cells 1 (ch.map iI) 0) (by simp);refine ⟨Ah,Bo Nc Ah ?_⟩;refine tt ?_;refine ⟨by omega,Bw (ch.getD k default) o rfl (by omega) fun H o=>?_⟩;refine tt ?_;refine Ks 1 rfl o (by rw [List.length_set]) fun H o=>?_;simp only [List.set_cons_succ,List.set_cons_zero]
   have hce:=hchm _ (AE.mpr ⟨k,Ah,rfl⟩)
   have D1 : ((ch.take k).flatMap fun e=>H7 A4 ls (A8.set f e)).length<most - found.length:=by
    rw [List.length_append,List.length_take] at B8; omega
   refine (ih _ (hn ▸ MI gC TP hce.1.1) _ rfl (hp.set hce.1) (PF ok hc hce.2) H0 H _ VV X _ (CZ.mk o hq) B8).mono ?_
   rintro r H' ⟨rfl,X',HJ⟩;refine tw w2 ?_;refine A5 X' (by omega) ?_ rfl
   have e : found++((ch.take (k+1)).flatMap fun e=>H7 A4 ls (A8.set f e)).take (most - found.length) =
     (found++((ch.take k).flatMap fun e=>H7 A4 ls (A8.set f e)).take (most - found.length))++(H7 A4 ls (A8.set f (ch.getD k default))).take (most - (found++((ch.take k).flatMap fun e=>H7 A4 ls (A8.set f e)).take (most - found.length)).length):=by
    rw [Co ch Ah,List.flatMap_append,List.flatMap_singleton,← Zu _ _ _ D1,List.append_assoc,List.length_append]
    congr 3
    omega
   rw [e]; exact HJ
def GB (l : Lk) : List Int:=[l.i,l.j]
theorem Ut (B : Nat) (A4 : List Int) (ls : List Lk) (most : Nat) (Vd : 0<most) (FY : most≤1048576) (ok : Gp A4 ls) (Fg : A4.length≤40) (Qi : ls.length≤1600) :
  PB B 161 [iL A4,mL iO ls,.int .i64 most] (BA ((Wb A4 ls).take most)):=by
 refine ⟨fun H0=>gf.go fun _=>tt ?_⟩;refine ⟨⟨by omega,by simp only [AL]; omega⟩, ?_⟩;rw [JZ];refine Ae (.nil _) fun Ea H o=>tt ?_
 refine AD [0,1,2,8] (G:=(AV × List (List Int)) × List AV × List (List Int) × List (Nat × AF)) (fun k g=>[(7,some g.1.1),(9,some (.int .i64 (k : Int)))])
  (fun k g H=>uX iL H0 H ((Ea,.cells 1 g.2.1 0)::g.2.2.2) g.1.1 g.1.2∧Et iI g.2.1 g.2.2.1 g.2.2.2∧g.1.2=(ls.take k).map GB∧j8 A4.length ls k g.2.2.1) ls.length ((.FG,[]),(List.replicate A4.length .A1,List.replicate A4.length [],[]))
  ⟨.inl ⟨rfl,rfl,o⟩,Et.rep iI _,by simp,j8.zero _ _⟩ rfl ?_
 rintro k ⟨⟨Xp,P⟩,Xs,As,ob⟩ H hk ⟨hE,hR,hP,hA⟩;dsimp only at hE hR hP hA
 have IV:=hR.len
 have Lz:=hA.len
 have wP : P.length=k:=by rw [hP]; simp; omega
 refine tt ?_;apply bk <;> intro h1
 ·refine tt ?_
  have AR:=A7 h1
  have w1:=ws k
  have CJ : ls.getD k default∈ls:=AE.mpr ⟨k,AR,rfl⟩
  have bi:=ok.i _ CJ
  have bj:=ok.j _ CJ;refine ⟨AR,AR, ?_⟩;refine hE.app (f:=iL) (GB (ls.getD k default)) rfl (by simp only [AL]; omega) fun sZ H o=>tt ?_
  obtain ⟨i,hi⟩ : ∃ i : Nat,(ls.getD k default).i=i:=⟨(ls.getD k default).i.toNat,by omega⟩
  obtain ⟨j,hj⟩ : ∃ j : Nat,(ls.getD k default).j=j:=⟨(ls.getD k default).j.toNat,by omega⟩
  have D0:=hA.step (i:=i) (j:=j) (by omega) (by omega) hi hj
  have hPs : P++[GB (ls.getD k default)]=(ls.take (k+1)).map GB:=by rw [BW ls GB AR,hP]
  refine ⟨bi,Af o.tl.h0 (by omega) ?_⟩;refine tt ?_
  refine Ha (l:=[(sZ,.cells 1 ((P++[GB (ls.getD k default)]).map iL) 0)]) (o.perm ((List.Perm.swap _ _ _).trans (List.Perm.cons _ (List.perm_append_singleton _ _).symm))) hR (by omega) (k : Int) rfl
   (by have:=hA.lens (ls.getD k default).i.toNat bi.2; simp only [AL]; omega) fun X' o' H QB hR o=>?_
  try simp only [go_sem,↓reduceIte,reduceEqDiff,reduceAdd,reduceMul,reduceLeDiff,reduceLT,AV.cells_one QB]
  refine ⟨bi,Ap o (by omega) rfl (by simp only [Bi,CR]; exact ⟨QB,trivial⟩) fun H o=>?_⟩;simp only [FI,HE] at o;refine tt ?_
  have Ym : ∀ {Xs : List AV} {o' : List (Nat × AF)} {H : AB},AA H0 H ((Ea,.cells 1 Xs 0)::(o'++[(sZ,.cells 1 ((P++[GB (ls.getD k default)]).map iL) 0)]))→uX iL H0 H ((Ea,.cells 1 Xs 0)::o') (.buf sZ (P++[GB (ls.getD k default)]).length) (P++[GB (ls.getD k default)]):=by
   intro Xs o' H o;exact .inr ⟨sZ,rfl,o.perm (List.perm_append_singleton (sZ,AF.cells 1 ((P++[GB (ls.getD k default)]).map iL) 0) ((Ea,AF.cells 1 Xs 0)::o'))⟩
  rw [hi] at hR o;rw [Int.toNat_natCast] at hR o;apply bk <;> intro h2
  ·refine tt ?_
   have Ah : ¬ i=j:=fun e=>by rw [hi,hj,e] at h2; simp at h2
   rw [if_neg Ah] at D0
   have Ii : ((As.set i (As.getD i []++[(k : Int)])).getD j []).length≤1601:=by
    have:=D0.lens j (by omega);rw [BH,if_pos ⟨rfl,by rw [List.length_set]; omega⟩,List.length_append] at this;omega
   refine ⟨bj,Af o.h0 (by rw [List.length_set]; omega) ?_⟩;refine tt ?_;refine Ha o hR (by rw [List.length_set]; omega) (k : Int) rfl (by simp only [AL]; rw [hj,Int.toNat_natCast]; omega) fun X2 o2 H Xb hR o=>?_;try simp only [go_sem,↓reduceIte,reduceEqDiff,reduceAdd,reduceMul,reduceLeDiff,reduceLT,AV.cells_one Xb]
   refine ⟨bj,Ap o (by rw [List.length_set]; omega) rfl (by simp only [Bi,CR]; exact ⟨Xb,trivial⟩) fun H o=>?_⟩;simp only [FI,HE] at o;rw [hj] at hR o;rw [Int.toNat_natCast] at hR o;refine tw w1 ?_;exact A5 ((_,_),(_,_,_)) (by omega) ⟨Ym o,hR,hPs,D0⟩ rfl
  ·refine tw w1 ?_
   have Ah : i=j:=by
    rw [hi,hj] at h2
    have : (i : Int)=j:=by simpa using h2
    omega
   rw [if_pos Ah] at D0;exact A5 ((_,_),(_,_,_)) (by omega) ⟨Ym o,hR,hPs,D0⟩ rfl
 ·refine tt ?_
  have AR:=A9 h1
  obtain rfl : k=ls.length:=by omega
  rw [List.take_length] at hP
  have hAt:=hA.ok
  obtain ⟨ope,uz⟩ : ∃ q,q=ob:=⟨_,rfl⟩;refine YH 7 hE rfl fun H o=>?_;refine Cy (l:=[]) hR [] H (by simpa using o) fun H o=>AY ?_;rw [List.nil_append] at o
  have e8 : A4.length=As.length:=Lz.symm;refine tt ?_;rw [e8];refine Al o rfl fun H o=>?_;rw [Lz];refine tt ?_;refine (Wl B A4.length (by omega) P (fun q hq=>?_) H).mono ?_
  ·rw [hP] at hq
   obtain ⟨l,hl,rfl⟩:=List.mem_map.mp hq;exact ⟨by simp [GB],ok.i l hl,ok.j l hl⟩
  rintro r H' ⟨rfl,parts,Kn,VS,rfl⟩;refine tt ?_
  have htb:=kM parts VS;refine AD [0,1,2,8,12] (fun q _=>[(13,some (.int .i64 (q : Int)))]) (fun q _ H=>AA H0 H []) (NV parts).toNat () o rfl ?_
  rintro q _ H hq o;refine tt ?_;refine (Zf B parts VS).go fun _=>tt ?_;apply bk <;> intro h2
  ·refine tt ?_
   have Ah:=A7 h2
   have w2:=ws q;refine Ag iI o fun id H o=>tt ?_;refine AD [0,1,2,8,12,13] (G:=Nat × List Int) (fun n g=>[(14,some (.buf g.1 g.2.length)),(15,some (.int .i64 (n : Int)))]) (fun n g H=>(g.2.length=n∧∀ m,m<n→g.2.getD m default=-1∨g.2.getD m default=-2)∧AA H0 H [(g.1,.cells 1 (g.2.map iI) 0)]) A4.length (id,[]) ⟨⟨rfl,by simp⟩,o⟩ rfl ?_
   rintro n ⟨id,list⟩ H hn ⟨⟨aT,lq⟩,o⟩;dsimp only at o aT lq
   have Ls : ∀ (y : Int),y=-1∨y=-2→∀ m,m<n+1→(list++[y]).getD m default=-1∨(list++[y]).getD m default=-2:=by
    intro y hy m hm;rw [gE,List.getElem?_append]
    split
    ·have:=lq m (by omega); rwa [gE] at this
    ·rw [show m - list.length=0 by omega]; simpa using hy
   refine tt ?_;apply bk <;> intro h3
   ·refine tt ?_
    have B8:=A7 h3
    have w3:=ws n;refine ⟨by omega, ?_⟩;apply bk <;> intro h4
    ·refine tt ?_;refine Ad (-1 : Int) o rfl rfl (by simp only [AL]; omega) fun id H o=>?_;refine tw w3 ?_;exact A5 (_,_) (by omega) ⟨⟨by simp [aT],Ls _ (.inl rfl)⟩,o⟩ rfl
    ·refine tt ?_;refine Ad (-2 : Int) o rfl rfl (by simp only [AL]; omega) fun id H o=>?_;refine tw w3 ?_;exact A5 (_,_) (by omega) ⟨⟨by simp [aT],Ls _ (.inr rfl)⟩,o⟩ rfl
   ·refine tt ?_
    have B8:=A9 h3
    obtain rfl : n=A4.length:=by omega
    refine nb o fun VV H o=>tt ?_;refine Ks 1 rfl o.swap rfl fun H o=>?_;simp only [List.set_cons_succ,List.set_cons_zero]
    have RZ : J2 A4 list:=⟨aT,fun m hm=>.inl (by have:=lq m (by omega); omega)⟩
    have Mf : Cons ls list:=Pf ok aT fun m hm=>by have:=lq m (by omega); omega
    refine (Qr B A4 ls As 1 (by omega) ok hAt (by omega) _ list rfl RZ Mf H0 H [] VV .A1 [] (.inl ⟨rfl,rfl,o⟩) (by simp)).mono ?_
    rintro r H' ⟨rfl,X',HJ⟩;rw [List.nil_append] at HJ;refine tt ?_;refine Af HJ.obj (by simp [Bt]) (tt ?_);rw [HJ.Ee];refine tt ?_;apply bk <;> intro h5
    ·refine tt ?_
     have Ho:=A7 h5
     have sK : H7 A4 ls list=[]:=by
      cases he : H7 A4 ls list with
      | nil=>rfl
      | cons a r=>rw [he] at Ho; simp at Ho
     refine Ag iL (AA.nil _) fun ER H2 o2=>tt ?_;refine Al o2 rfl fun H2 o2=>tt ?_
     have Cs : H0.sub H':=by obtain ⟨_,oo,_⟩:=HJ.split; exact oo.sub
     refine A6 ?_ (Cs.trans o2.sub)
     have ES : Wb A4 ls=[]:=by
      refine GP (LG fun t ht=>?_)
      obtain ⟨u,hu⟩:=ht.part aT (fun m hm=>lq m (by omega)) ok
      have:=((SY ok RZ Mf).mem u).mpr hu;rw [sK] at this; simp at this
     rw [ES,List.take_nil]
    ·refine tw w2 ?_
     obtain ⟨_,oo,_⟩:=HJ.split;exact A5 () (by omega) ⟨oo.sub,by simp,by simp,by simp⟩ rfl
  ·refine tt ?_
   have Ah:=A9 h2;refine Ag iL o fun idf H o=>tt ?_;refine nb o fun VV H o=>tt ?_;refine (Rm B (-1) A4.length (by omega)).go fun _=>tt ?_
   have VR : ∀ m,m<(List.replicate A4.length (-1 : Int)).length→(List.replicate A4.length (-1 : Int)).getD m default<0:=fun m hm=>by
    rw [List.length_replicate] at hm
    simp [gE,hm]
   have RZ : J2 A4 (List.replicate A4.length (-1)):=⟨by simp,fun m hm=>.inl (VR m hm)⟩
   have Mf : Cons ls (List.replicate A4.length (-1)):=Pf ok (by simp) VR;refine (Qr B A4 ls As most FY ok hAt (by omega) _ _ rfl RZ Mf H0 H [] VV (.buf idf 0) [] (.inr ⟨idf,rfl,o.swap⟩) (by simpa using Vd)).mono ?_
   rintro r H' ⟨rfl,X',HJ⟩;rw [List.nil_append,List.length_nil,Nat.sub_zero] at HJ;refine tt ?_;refine Af HJ.obj (by simp [Bt]) (tt ?_)
   rcases HJ with ⟨rfl,hl,o⟩ | ⟨id,rfl,o⟩
   ·refine tt ?_;exact A6 (by rw [show (Wb A4 ls).take most=[] from hl]; rfl) o.sub
   ·refine tt ?_;refine Al o rfl fun H o=>tt ?_;exact A6 rfl o.sub
theorem cE {f : SF} {x : Int} {s : List Int} (h : f.Shape) (hs : f.shape.Az x s) {r : List Int} (hr : r∈rowsOf f.shape s) :
  r.length=3∧(0≤r.getD 0 default∧(r.getD 0 default).toNat<s.length)∧(0≤r.getD 1 default∧(r.getD 1 default).toNat<f.AU.length)∧(0≤r.getD 2 default∧(r.getD 2 default).toNat<s.length):=by
 obtain ⟨i,hi,b,hb,e,rfl⟩:=GM.mp hr
 have:=(F6 h hs hi hb e).1;exact ⟨rfl,⟨by simp [H8],by simpa [H8] using hi⟩,⟨by simp [H8],by rw [h.al]; simpa [H8] using hb⟩,this⟩
theorem JA (B : Nat) (f : SF) (x : Int) (s : List Int) (h : f.Shape) (hs : f.shape.Az x s) (most : Nat) (Vd : 0<most) (FY : most≤1048576) :
  PB B 83 [.agg f.cells,iL s,.int .i64 most] (BA ((C8 f s).take most)):=by
 refine ⟨fun H0=>xh.go fun _=>?_⟩
 have hm:=h.is.1.m
 have IQ:=h.is.1.HN
 have hslen:=hs.len
 have Fg:=h.sl
 have F3:=h.is.1.o;refine tt ?_;refine nb (.nil _) fun Cq H o=>tt ?_;refine sw o fun H o=>tt ?_;refine Ag iI o fun Ea H o=>tt ?_;refine Ae o fun Gf H o=>tt ?_;refine AD [1,2,3,7,9] (G:=Nat × List Int) (fun k g=>[(8,some (.buf g.1 g.2.length)),(10,some (.int .i64 (k : Int)))]) (fun k g H=>g.2=(s.take k).map (fun a=>ix f.A4 (ix f.shape.to a))∧AA H0 H ((g.1,.cells 1 (g.2.map iI) 0)::[(Gf,.cells 4 (flat (([] : List Lk).map iO)) 0),(Cq,.cells 5 [iI f.shape.AO,iL f.shape.AJ,iL f.shape.to,iL f.shape.Av,BA f.shape.comp] 0)])) s.length (Ea,[]) ⟨by simp,o.swap⟩ rfl ?_
 rintro k ⟨Ea,out⟩ H hk ⟨Au,o⟩;dsimp only at Au o
 have TM : out.length=k:=by rw [Au]; simp; omega
 refine tt ?_;apply bk <;> intro h1
 ·refine tt ?_
  have AR:=A7 h1
  have w1:=ws k
  have ha:=hs.arr (AE.mpr ⟨k,AR,rfl⟩)
  have DS:=h.is.1.Cb ha.1.2;refine AK o.tl.tl (by simp) (tt ?_);refine ⟨AR,⟨ha.1.1,by omega⟩,⟨DS.1,by omega⟩, ?_⟩;refine Ad (ix f.A4 (ix f.shape.to (s.getD k default))) o rfl rfl (by simp only [AL]; omega) fun Ea H o=>?_;refine tw w1 ?_;exact A5 (_,_) (by omega) ⟨by rw [BW s _ AR,Au],o⟩ rfl
 ·refine tt ?_
  have AR:=A9 h1
  have CU : out=B0 f s:=by rw [Au,show k=s.length by omega,List.take_length]; rfl
  refine Ac o.tl.tl (by simp) (tt ?_);refine (Un B f.shape h.is.1 s (fun a ha=>(hs.arr ha).1) (by omega)).go fun _=>?_
  have Mc : (rowsOf f.shape s).length≤1600:=by
   have h1:=GO f.shape s s.length
   have h2 : s.length*f.shape.AJ.length≤40*40:=Nat.mul_le_mul (by omega) hm;unfold rowsOf; omega
  refine tt ?_;refine AD [2,3,8,11] (G:=Nat × List Lk) (fun k g=>[(9,some (.buf g.1 g.2.length)),(12,some (.int .i64 (k : Int)))]) (fun k g H=>g.2=((rowsOf f.shape s).take k).map (Jn f s)∧AA H0 H [(g.1,.cells 4 (flat (g.2.map iO)) 0),(Ea,.cells 1 (out.map iI) 0)]) (rowsOf f.shape s).length (Gf,[]) ⟨by simp,(o.swap.perm (List.Perm.refl _)).perm (by exact (List.perm_append_comm (l₁:=[_,_]) (l₂:=[_]))) |>.tl⟩ rfl ?_
  rintro k2 ⟨Gf,ls⟩ H Hm ⟨Hp,o⟩;dsimp only at Hp o
  have Qi : ls.length=k2:=by rw [Hp]; simp; omega
  have Fc : (B0 f s).length=s.length:=by simp [B0]
  refine tt ?_;apply bk <;> intro h2
  ·refine tt ?_
   have Ah:=A7 h2
   have w2:=ws k2
   have hr:=cE h hs (AE.mpr ⟨k2,Ah,rfl⟩)
   generalize jA : (rowsOf f.shape s).getD k2 default=r at *
   have e0 : ix r 0=r.getD 0 default:=rfl
   have e1 : ix r 1=r.getD 1 default:=rfl
   have e2 : ix r 2=r.getD 2 default:=rfl
   have l0 : (0 : Int)≤0∧(0 : Int).toNat<r.length:=⟨by omega,by rw [hr.1]; decide⟩
   have l1 : (0 : Int)≤1∧(1 : Int).toNat<r.length:=⟨by omega,by rw [hr.1]; decide⟩
   have l2 : (0 : Int)≤2∧(2 : Int).toNat<r.length:=⟨by omega,by rw [hr.1]; decide⟩
   have QD:=(DG h hs hr.2.2.2.2).2
   have hsz2 : ix out (r.getD 2 default)=(((B0 f s).getD (r.getD 2 default).toNat default).toNat : Int):=by
    rw [CU,Int.toNat_of_nonneg QD.1]; rfl
   refine ⟨Ah,l0,l2,l1,⟨by rw [e1]; exact hr.2.2.1.1,by rw [e1]; exact hr.2.2.1.2⟩,l2,⟨by rw [e2]; exact hr.2.2.2.1,by rw [e2,CU,Fc]; exact hr.2.2.2.2⟩,BU o.tl (by rw [e2,CU,Fc]; exact hr.2.2.2.2) ?_⟩;refine tt ?_;rw [show out.getD (ix r 2).toNat default=(((B0 f s).getD (r.getD 2 default).toNat default).toNat : Int) from hsz2];refine ⟨_,(Ue B _ (by omega)).run,tt ?_⟩;refine J1 (f:=iO) (Jn f s r) o ?_ rfl (by simp only [AL]; omega) fun Gf H o=>?_
   ·simp only [iO,Jn,My]
    rfl
   refine tw w2 ?_;exact A5 (_,_) (by omega) ⟨by rw [BW _ _ Ah,Hp,jA],o⟩ rfl
  ·refine tt ?_
   have Ah:=A9 h2
   have je : ls=E9 f s:=by rw [Hp,show k2=(rowsOf f.shape s).length by omega,List.take_length]; rfl
   refine Ru o rfl fun H o=>tt ?_;refine Al o rfl fun H o=>tt ?_;rw [CU,je];refine (Ut B (B0 f s) (E9 f s) most Vd FY (YU h hs) (by rw [Fc]; omega) (by rw [← je]; omega)).go fun _=>tt ?_;exact A6 rfl o.sub
end Go.Proofs.Shf
