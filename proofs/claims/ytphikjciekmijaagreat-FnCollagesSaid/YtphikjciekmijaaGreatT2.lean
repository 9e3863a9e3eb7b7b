/- Contracts, part 2. -/
import Derived.Test.YtphikjciekmijaaGreatT1
set_option linter.unusedVariables false
set_option linter.unusedSimpArgs false
set_option linter.unusedSectionVars false
set_option maxRecDepth 100000
open Nat (reduceEqDiff reduceAdd reduceMul reduceLeDiff reduceLT)
namespace Go.Proofs.Shf
open Go.AW Go.Proofs Go.Shf
theorem SO (B : Nat) (f : SF) : PB B 166 [.agg f.cells] (.bool (dec f.Shape)):=by
 refine ⟨fun H0=>nf.go fun ⟨hf,_⟩=>?_⟩
 have hl:=AZ (hf.agg (c:=iL f.AK) (by simp [SF.cells]))
 have Ce:=AZ (hf.agg (c:=B5 f.AJ) (by simp [SF.cells]));simp only [AN] at hl Ce;refine tt ?_;refine (Jk B f.shape).go fun _=>tt ?_;apply bn <;> intro h1
 rotate_left
 ·refine tw h1 ?_
  have AU:=dd h1;exact A5 (by rw [Ad]; intro s; exact AU s.is) (.refl _)
 refine tw h1 ?_
 have AU:=dd h1
 have hs:=AU.1
 have Jc:=hs.L5;apply bn <;> intro h2
 rotate_left
 ·refine tw h2 ?_
  have Aq:=dd h2;exact A5 (by rw [Ad]; intro s; exact Aq s.sl) (.refl _)
 refine tw h2 ?_
 have Aq:=dd h2;apply bk <;> intro h3
 ·refine tw h3 ?_
  have BH:=dd h3;exact A5 (by rw [Ad]; intro s; exact BH s.al) (.refl _)
 refine tw h3 ?_
 have BH:=dd h3;refine AD [1] (fun k _=>[(3,some (.int .i64 (k : Int)))]) (fun k _ H=>H=H0∧∀ x,x<k→0≤f.AK.getD x default∧f.AK.getD x default<17) f.AK.length () ⟨rfl,by simp⟩ rfl ?_
 rintro x _ H hx ⟨rfl,Au⟩;refine tt ?_;apply bk <;> intro g1
 ·have CO:=dd g1
  have wx:=ws x;refine tt ?_;refine ⟨CO,(Ri ..).go fun _=>?_⟩;refine tt ?_;apply bk <;> intro g2
  ·refine tt ?_
   have CE:=dd g2;exact A5 (by rw [Ad]; intro s; have:=s.sz _ (AE.mpr ⟨x,CO,rfl⟩); omega) (.refl _)
  ·refine tw wx ?_
   have CE:=dd g2;exact A4 () CO ⟨rfl,AM Au (by omega)⟩ rfl
 have CO:=dd g1
 have CW : ∀ y,y∈f.AK→0≤y∧y<17:=IB.mpr fun i hi=>Au i (by omega);refine tt ?_
 refine AD [1] (fun k _=>[(4,some (.int .i64 (k : Int)))]) (fun k _ H'=>H'=H∧∀ a,a<k→((f.AJ.getD a default).length : Int)=ix f.AK (f.shape.AB.getD a default) ∧
  ∀ y,y∈f.AJ.getD a default→0≤y∧y<ix f.AK (f.shape.to.getD a default)) f.AJ.length () ⟨rfl,by simp⟩ rfl ?_
 rintro a _ H' ha ⟨rfl,OP⟩;refine tt ?_;apply bk <;> intro g2
 rotate_left
 ·refine tt ?_
  have CE:=dd g2;exact A5 (by rw [Av]; exact ⟨AU,Aq,BH,CW,fun a h=>OP a (by omega)⟩) (.refl _)
 have CE:=dd g2
 have wa:=ws a
 have l7 : a<f.shape.AB.length:=by omega
 have f1:=hs.OH l7
 have f2:=hs.mH l7
 have TJ:=hs.il;refine tt ?_;refine ⟨CE,l7,⟨f1.1,by omega⟩, ?_⟩;apply bn <;> intro g3
 rotate_left
 ·refine tw g3 ?_
  have Du:=dd g3;exact A5 (by rw [Ad]; intro s; exact Du (s.act a CE).1) (.refl _)
 refine tw g3 ?_
 have Du:=dd g3;refine ⟨by omega,⟨f2.1,by omega⟩,CE,_,(Ep ..).run,tt ?_⟩;apply bk <;> intro g4
 ·refine tt ?_
  have GB:=dd g4;exact A5 (by rw [Ad]; intro s; exact GB (s.act a CE).2) (.refl _)
 ·refine tw wa ?_
  have GB:=dd g4;exact A4 () CE ⟨rfl,AM OP ⟨Du,GB⟩⟩ rfl
theorem SB (B : Nat) (f : SF) (s : f.Shape) (H0 : AA) : CB B 167 [.agg f.cells] H0 (MN f.Laws H0):=by
 refine jz.go fun ⟨hf,_⟩=>?_
 have hs:=s.is.1
 have hm:=hs.m
 have RG:=hs.cl
 have Jc:=hs.L5
 have TJ:=hs.il
 have Tc:=s.al
 have Im:=s.sl
 have Ee:=hs.o;refine tt ?_;refine ⟨by simp [AN],fun i1 n1=>?_⟩;refine tt ?_
 generalize hH : ((H0.set i1 _).set i1 _)=H1
 have hg : H1.get i1=some (.cells 5 [iI f.shape.AF,iL f.shape.AB,iL f.shape.to,iL f.shape.Ac,B5 f.shape.comp] 0):=by rw [← hH]; simp
 have Dw : H0.sub H1:=by rw [← hH]; exact CV (CV (.refl _) n1) n1
 clear hH;refine AD [1,6] (fun k _=>[(7,some (.int .i64 (k : Int)))]) (fun k _ H=>H=H1∧∀ x,x<k→∀ e : Nat,e<(ix f.AJ (f.shape.Ac.getD x default)).length→(ix f.AJ (f.shape.Ac.getD x default)).getD e default=e) f.shape.Ac.length () ⟨rfl,by simp⟩ rfl ?_
 rintro x _ H hx ⟨rfl,Au⟩;refine tw hg ?_;apply bk <;> intro g1
 ·have CO:=dd g1
  have Zo : x<f.shape.Ac.length:=by omega
  have wx:=ws x
  have GC:=hs.Ac _ (AE.mpr ⟨x,Zo,rfl⟩)
  have hlen:=s.YV Zo;refine tw hg ?_;refine AD [1,6,7] (fun k _=>[(8,some (.int .i64 (k : Int)))]) (fun k _ H'=>H'=H∧∀ e : Nat,e<k→(ix f.AJ (f.shape.Ac.getD x default)).getD e default=e) (ix f.AJ (f.shape.Ac.getD x default)).length () ⟨rfl,by simp⟩ rfl ?_
  rintro e _ H' he ⟨rfl,FY⟩;refine tw hg ?_;refine ⟨by omega, ?_⟩;apply bk <;> intro g2
  rotate_left
  ·refine tw wx ?_
   have CE:=dd g2;exact A4 () Zo ⟨rfl,AM Au fun e he=>FY e (by omega)⟩ rfl
  have CE:=dd g2
  have Nu : e<(ix f.AJ (f.shape.Ac.getD x default)).length:=by omega
  have hz : f.AK.getD x default<17:=(s.sz _ (AE.mpr ⟨x,by omega,rfl⟩)).2
  have we:=ws e;refine tw hg ?_;refine ⟨Zo,⟨GC.1,by omega⟩,Nu, ?_⟩;apply bk <;> intro g3
  ·refine tt ?_
   have Du:=dd g3;exact Bx (by constructor; (intro h; cases h); intro l; exact absurd (l.XE x Zo e Nu) Du) Dw
  ·refine tw we ?_
   have Du:=dd g3;exact A4 () Nu ⟨rfl,AM FY Du⟩ rfl
 have CO:=dd g1
 have lZ : ∀ x : Nat,x<f.shape.Ac.length→∀ e : Nat,e<(ix f.AJ (f.shape.Ac.getD x default)).length→(ix f.AJ (f.shape.Ac.getD x default)).getD e default=e:=fun x hx=>Au x (by omega);refine tt ?_;refine AD [1,6] (fun k _=>[(9,some (.int .i64 (k : Int)))]) (fun k _ H'=>H'=H∧∀ a,a<k→∀ b,b<f.shape.AB.length→f.Qs a b) f.shape.AB.length () ⟨rfl,by simp⟩ rfl ?_
 rintro a _ H' ha ⟨rfl,hA⟩;refine tw hg ?_;apply bk <;> intro g1
 rotate_left
 ·refine tt ?_
  have CO:=dd g1;exact Bx (by simp only [true_iff]; exact ⟨lZ,fun a b ha hb=>hA a (by omega) b hb⟩) Dw
 have CO:=dd g1
 have wa:=ws a
 have ra:=hs.row a CO
 have fa:=hs.OH CO
 have la:=s.FN (a:=(a : Int)) (by omega);rw [Cx,Cx] at la
 have za:=s.sz _ (BL (l:=f.AK) (i:=f.shape.AB.getD a default) (by omega));refine tw hg ?_;refine AD [1,6,9] (fun k _=>[(10,some (.int .i64 (k : Int)))]) (fun k _ H=>H=H'∧∀ b,b<k→f.Qs a b) f.shape.AB.length () ⟨rfl,by simp⟩ rfl ?_
 rintro b _ H hb ⟨rfl,hB⟩;refine tw hg ?_;apply bk <;> intro g2
 rotate_left
 ·refine tw wa ?_
  have CE:=dd g2;exact A4 () CO ⟨rfl,AM hA fun b hb=>hB b (by omega)⟩ rfl
 have CE:=dd g2
 have wb:=ws b;refine tw hg ?_;refine ⟨by omega,CE, ?_⟩;apply bk <;> intro g3
 ·refine tw wb ?_
  have Du:=dd g3;exact A4 () CE ⟨rfl,AM hB fun e=>absurd e Du⟩ rfl
 have Du:=dd g3
 have hy:=hs.yes a b CO CE Du
 have lc:=s.FN (a:=(f.shape.comp.getD a default).getD b default) (by omega);rw [hy.2.1] at lc
 have lb:=s.FN (a:=(b : Int)) (by omega);rw [Cx,Cx] at lb;refine tw hg ?_
 refine AD [1,6,9,10] (fun k _=>[(11,some (.int .i64 (k : Int)))]) (fun k _ H'=>H'=H∧∀ e : Nat,e<k →
  (ix f.AJ ((f.shape.comp.getD a default).getD b default)).getD e default=ix (f.AJ.getD b default) ((f.AJ.getD a default).getD e default)) (f.AJ.getD a default).length () ⟨rfl,by simp⟩ rfl ?_
 rintro e _ H' he ⟨rfl,hE⟩;refine tw hg ?_;refine ⟨CO,⟨fa.1,by omega⟩, ?_⟩;apply bk <;> intro g4
 rotate_left
 ·refine tw wb ?_
  have GB:=dd g4;exact A4 () CE ⟨rfl,AM hB fun _ e he=>hE e (by omega)⟩ rfl
 have GB:=dd g4
 have we:=ws e
 have Nu : e<(f.AJ.getD a default).length:=by omega
 have hv:=(s.act a (by omega)).2 _ (AE.mpr ⟨e,Nu,rfl⟩);rw [Du] at hv;refine tw hg ?_;refine ⟨by omega,by omega,⟨hy.1.1,by omega⟩,by omega,by omega,by omega,Nu,⟨hv.1,by omega⟩, ?_⟩;apply bk <;> intro g5
 ·refine tt ?_
  have Kd:=dd g5;exact Bx (by constructor; (intro h; cases h); intro l; exact absurd (l.comp a b CO CE Du e Nu) Kd) Dw
 ·refine tw we ?_
  have Kd:=dd g5;exact A4 () Nu ⟨rfl,AM hE Kd⟩ rfl
theorem Hz (B : Nat) (f : SF) : PB B 63 [.agg f.cells] (.bool (dec f.Is)):=by
 refine ⟨fun H0=>c63.go fun hf=>tt ?_⟩;refine (SO B f).go fun _=>tt ?_;apply bk <;> intro h1
 ·refine tt ?_
  have AU:=dd h1;exact A5 (by rw [Ad]; intro s; exact AU s.1) (.refl _)
 have AU:=dd h1;refine tt ?_;refine (SB B f AU H0).IG ?_
 rintro _ _ _ ⟨rfl,k,a,b,d,rfl,hk⟩;refine tt ?_;exact A5 (by rw [BK]; congr 1; exact BJ ⟨fun h=>⟨AU,hk.mp h⟩,fun h=>hk.mpr h.2⟩) (.refl _)
instance : Inhabited SF:=⟨⟨⟨0,[],[],[],[]⟩,[],[]⟩⟩
theorem Da (B : Nat) (a b : Ax) : PB B 93 [.agg a.cells,.agg b.cells] (.bool (dec (a=b))):=by
 refine ⟨fun H0=>c93.go fun hf=>tt ?_⟩;apply bk <;> intro h0
 rotate_left
 ·refine tw h0 ?_
  have MG:=dd h0;exact A5 (by rw [Ad]; rintro rfl; exact MG rfl) (.refl _)
 refine tw h0 ?_
 have MG:=dd h0;refine (D7 B a.AB b.AB).go fun _=>tt ?_;apply bk <;> intro h1
 rotate_left
 ·refine tw h1 ?_
  have AU:=dd h1;exact A5 (by rw [Ad]; rintro rfl; exact AU rfl) (.refl _)
 refine tw h1 ?_
 have AU:=dd h1;refine (D7 B a.to b.to).go fun _=>tt ?_;apply bk <;> intro h2
 rotate_left
 ·refine tw h2 ?_
  have Aq:=dd h2;exact A5 (by rw [Ad]; rintro rfl; exact Aq rfl) (.refl _)
 refine tw h2 ?_
 have Aq:=dd h2;refine (D7 B a.Ac b.Ac).go fun _=>tt ?_;apply bk <;> intro h3
 rotate_left
 ·refine tw h3 ?_
  have BH:=dd h3;exact A5 (by rw [Ad]; rintro rfl; exact BH rfl) (.refl _)
 refine tw h3 ?_
 have BH:=dd h3;refine (LG B a.comp b.comp).go fun _=>tt ?_;refine A5 ?_ (.refl _)
 congr 1
 refine BJ ⟨fun h=>?_,fun h=>by rw [h]⟩
 cases a; cases b; simp_all
theorem BM (B : Nat) (a b : Ax) : PB B 85 [.ptr a.cells,.ptr b.cells] (.bool (dec (a=b))):=by
 refine ⟨fun H0=>c85.go fun ⟨hf,hg,_⟩=>?_⟩
 have hl:=AZ (hf.ptr (c:=B5 a.comp) (by simp [Ax.cells]));simp only [AN] at hl;refine tt ?_;apply bn <;> intro h0
 rotate_left
 ·refine tw h0 ?_
  have MG:=dd h0;exact A5 (by rw [Ad]; rintro rfl; exact MG rfl) (.refl _)
 refine tw h0 ?_
 have MG:=dd h0;refine ⟨_,(Fi B a.AB b.AB).run,tt ?_⟩;apply bn <;> intro h1
 rotate_left
 ·refine tw h1 ?_
  have AU:=dd h1;exact A5 (by rw [Ad]; rintro rfl; exact AU rfl) (.refl _)
 refine tw h1 ?_
 have AU:=dd h1;refine ⟨_,(Fi B a.to b.to).run,tt ?_⟩;apply bn <;> intro h2
 rotate_left
 ·refine tw h2 ?_
  have Aq:=dd h2;exact A5 (by rw [Ad]; rintro rfl; exact Aq rfl) (.refl _)
 refine tw h2 ?_
 have Aq:=dd h2;refine ⟨_,(Fi B a.Ac b.Ac).run,tt ?_⟩;apply bn <;> intro h3
 rotate_left
 ·refine tw h3 ?_
  have BH:=dd h3;exact A5 (by rw [Ad]; rintro rfl; exact BH rfl) (.refl _)
 refine tw h3 ?_
 have BH:=dd h3;apply bk <;> intro h4
 ·refine tw h4 ?_
  have D9:=dd h4;exact A5 (by rw [Ad]; rintro rfl; exact D9 rfl) (.refl _)
 refine tw h4 ?_
 have D9:=dd h4;refine AD [0,1,68] (fun k _=>[(69,some (.int .i64 (k : Int)))]) (fun k _ H=>H=H0∧∀ i,i<k→a.comp.getD i default=b.comp.getD i default) a.comp.length () ⟨rfl,by simp⟩ rfl ?_
 rintro k _ H hk ⟨rfl,Au⟩;refine tt ?_;apply bk <;> intro g1
 ·have CO:=dd g1
  have w1:=ws k;refine tt ?_;refine ⟨CO,by omega,_,(Fi ..).run,tt ?_⟩;apply bk <;> intro g2
  ·refine tt ?_
   have CE:=dd g2;exact A5 (by rw [Ad]; rintro rfl; exact CE rfl) (.refl _)
  ·refine tw w1 ?_
   have CE:=dd g2;exact A4 () CO ⟨rfl,AM Au CE⟩ rfl
 ·refine tt ?_
  have CO:=dd g1;refine A5 ?_ (.refl _);rw [Av]
  have e : a.comp=b.comp:=by
   refine List.ext_getElem D9 fun i hi hj=>?_
   have:=Au i (by omega)
   simpa [Go.AW.gE,hi,hj] using this
  cases a; cases b; simp_all
def Lo (p : List Int) : Int:=p.foldl (fun n y=>if y+1 > n then y+1 else n) 0
theorem Om (p : List Int) {k : Nat} (h : k<p.length) : Lo (p.take (k+1))=if p.getD k default+1 > Lo (p.take k) then p.getD k default+1 else Lo (p.take k):=by
 rw [Lo,Ar p h,List.foldl_append]; rfl
theorem XG (B : Nat) (p : List Int) (hp : ∀ y,y∈p→0≤y∧y<1048576) : PB B 96 [iL p] (.int .i64 (Lo p)):=by
 refine ⟨fun H0=>c96.go fun ⟨hf,_⟩=>?_⟩
 have hl:=AZ hf;simp only [AN] at hl;refine tt ?_;refine AD [0] (G:=Int) (fun k n=>[(3,some (.int .i64 n)),(4,some (.int .i64 (k : Int)))]) (fun k n H=>H=H0∧n=Lo (p.take k)) p.length 0 ⟨rfl,rfl⟩ rfl ?_
 rintro k n H hk ⟨rfl,hn⟩;refine tt ?_;apply bk <;> intro h1
 ·refine tt ?_
  have AU:=dd h1
  have w1:=ws k
  have hy:=hp _ (AE.mpr ⟨k,AU,rfl⟩)
  have w2 : IntKind.i64.wrap (p.getD k default+1)=p.getD k default+1:=wrap_i64 (by omega) (by omega);refine ⟨AU, ?_⟩;refine t2 w1 w2 ?_
  exact A4 _ (by omega) ⟨rfl,by rw [Om p AU,← hn]⟩ rfl
 ·refine tt ?_
  have AU:=dd h1;exact A5 (by rw [hn,show k=p.length by omega,List.take_length]) (.refl _)
theorem bV (p : List Int) (hp : ∀ y,y∈p→0≤y∧y<1048576) : 0≤Lo p∧Lo p≤1048576:=by
 have key : ∀ k,k≤p.length→0≤Lo (p.take k)∧Lo (p.take k)≤1048576:=by
  intro k
  induction k with
  | zero=>intro _; simp [Lo]
  | succ k ih =>
   intro hk
   have:=ih (by omega)
   have hy:=hp _ (AE.mpr ⟨k,by omega,rfl⟩);rw [Om p (by omega)]
   split <;> omega
 have:=key p.length (Nat.le_refl _)
 rwa [List.take_length] at this
theorem OA (B : Nat) (l : List Int) (hl : l.length≤100000) (H0 : AA) : CB B 265 [iL l] H0 (fun r H'=>H'=H0∧∃ p : List Int,p.length=l.length∧(∀ y,y∈p→0≤y∧y<1048576)∧r=iL p):=by
 refine fF.go fun _=>?_;refine tt ?_;refine Az iI (.nil _) fun C9 H o=>tt ?_;refine Az iI o fun B1 H o=>tt ?_
 refine AD [0] (G:=(Nat × List Int) × (Nat × List Int)) (fun k g=>[(3,some (.buf g.1.1 g.1.2.length)),(4,some (.buf g.2.1 g.2.2.length)),(5,some (.int .i64 (k : Int)))])
  (fun k g H=>(g.1.2.length=k∧(∀ y,y∈g.1.2→0≤y∧y<1048576)∧g.2.2.length≤k)∧A9 H0 H [(g.2.1,.cells 1 (g.2.2.map iI) 0),(g.1.1,.cells 1 (g.1.2.map iI) 0)]) l.length ((C9,[]),(B1,[])) ⟨⟨rfl,by simp,by simp⟩,o⟩ rfl ?_
 rintro k ⟨⟨C9,out⟩,⟨B1,seen⟩⟩ H hk ⟨⟨KU,ig,Im⟩,o⟩;dsimp only at o KU ig Im;refine tt ?_;apply bk <;> intro h1
 ·refine tt ?_
  have AU:=dd h1
  have w1:=ws k;refine ⟨AU,PA 0 rfl o rfl (.int _ _) (Hf ..).run ?_⟩
  have hb:=FI seen (l.getD k default);refine tt ?_;apply bk <;> intro h2
  ·refine tt ?_
   have Aq:=dd h2;refine ⟨AU, ?_⟩;refine Ae (l.getD k default) o rfl rfl (by simp only [AN]; omega) fun B1 H o=>tt ?_;refine Ae ((seen.length : Nat) : Int) o.swap rfl rfl (by simp only [AN]; omega) fun C9 H o=>?_;refine tw w1 ?_;refine A4 ((_,_),(_,_)) (by omega) ⟨⟨by simp [KU],fun y hy=>?_,by simp; omega⟩,o.swap⟩ rfl
   rcases List.mem_append.mp hy with hy | hy
   ·exact ig y hy
   ·rw [List.mem_singleton] at hy; subst hy; omega
  ·refine tt ?_
   have Aq:=dd h2;refine Ae (indexOf seen (l.getD k default)) o.swap rfl rfl (by simp only [AN]; omega) fun C9 H o=>?_;refine tw w1 ?_;refine A4 ((_,_),(_,_)) (by omega) ⟨⟨by simp [KU],fun y hy=>?_,by simp; omega⟩,o.swap⟩ rfl
   rcases List.mem_append.mp hy with hy | hy
   ·exact ig y hy
   ·rw [List.mem_singleton] at hy; subst hy; omega
 ·refine tt ?_
  have AU:=dd h1;refine Am o.swap rfl fun H o=>tt ?_;exact ⟨_,o.sub,rfl,out,by omega,ig,rfl⟩
theorem UP (B : Nat) (n : Nat) (hn : n≤100000) (ps : List (List Int)) (hp : ∀ q,q∈ps→2≤q.length∧(0≤q.getD 0 default∧(q.getD 0 default).toNat<n)∧(0≤q.getD 1 default∧(q.getD 1 default).toNat<n)) (H0 : AA) :
  CB B 203 [.int .i64 n,B5 ps] H0 (fun r H'=>H'=H0∧∃ p : List Int,p.length=n∧(∀ y,y∈p→0≤y∧y<1048576)∧r=iL p):=by
 refine fE.go fun ⟨_,hf,_⟩=>?_
 have hl:=AZ hf;simp only [AN] at hl;refine tt ?_;refine Az iI (.nil _) fun id H o=>tt ?_;refine AD [0,1] (G:=Nat × List Int) (fun k g=>[(5,some (.buf g.1 g.2.length)),(6,some (.int .i64 (k : Int)))]) (fun k g H=>g.2.length=k∧A9 H0 H [(g.1,.cells 1 (g.2.map iI) 0)]) n (id,[]) ⟨rfl,o⟩ rfl ?_
 rintro k ⟨id,A⟩ H hk ⟨hA,o⟩;dsimp only at hA;refine tt ?_;apply bk <;> intro h1
 ·refine tt ?_
  have AU:=dd h1
  have w1:=ws k;refine Ae (k : Int) o rfl rfl (by simp only [AN]; omega) fun id H o=>?_;refine tw w1 ?_;exact A4 (_,_) (by omega) ⟨by simp [hA],o⟩ rfl
 ·refine tt ?_
  have AU:=dd h1
  obtain rfl : k=n:=by omega
  refine AD [1,5] (fun q _=>[(7,some (.int .i64 (q : Int)))]) (fun q A H=>A.length=k∧A9 H0 H [(id,.cells 1 (A.map iI) 0)]) ps.length A ⟨hA,o⟩ rfl ?_
  rintro q A2 H hq ⟨Xq,o⟩;refine tt ?_;apply bk <;> intro h2
  ·refine tt ?_
   have Aq:=dd h2
   have w2:=ws q
   have mA:=hp _ (AE.mpr ⟨q,Aq,rfl⟩)
   have e0 : ix (ps.getD q default) 0=(ps.getD q default).getD 0 default:=rfl
   have e1 : ix (ps.getD q default) 1=(ps.getD q default).getD 1 default:=rfl;refine ⟨Aq,⟨by omega,Nat.lt_of_lt_of_le (by decide) mA.1⟩,⟨by rw [e0]; omega,by rw [e0]; omega⟩,CI o (by rw [e0]; omega) ?_⟩;refine tt ?_;refine ⟨Aq,⟨by omega,Nat.lt_of_lt_of_le (by decide) mA.1⟩,⟨by rw [e1]; omega,by rw [e1]; omega⟩,CI o (by rw [e1]; omega) ?_⟩;refine tt ?_;refine AD [1,5,7,8,9] (fun i _=>[(10,some (.int .i64 (i : Int)))]) (fun i A H=>A.length=k∧A9 H0 H [(id,.cells 1 (A.map iI) 0)]) k A2 ⟨Xq,o⟩ rfl ?_
   rintro i A3 H hi ⟨dN,o⟩;rw [hA];refine tt ?_;apply bk <;> intro h3
   ·refine tw h3 ?_
    have BH:=dd h3
    have w3:=ws i;apply bk <;> intro h4
    ·refine tt ?_
     have D9:=dd h4;refine ⟨BH,CI o (by omega) ?_⟩;refine tt ?_;apply bk <;> intro h5
     ·refine tt ?_
      have JB:=dd h5;refine ⟨BH,BT _ o rfl (by omega) fun H o=>?_⟩;refine tw w3 ?_;exact A4 _ (by omega) ⟨by rw [List.length_set]; exact dN,o⟩ rfl
     ·refine tw w3 ?_;exact A4 _ (by omega) ⟨dN,o⟩ rfl
    ·refine tw w2 ?_;exact A4 _ (by omega) ⟨dN,o⟩ rfl
   ·refine t2 h3 w2 ?_
    exact A4 _ (by omega) ⟨dN,o⟩ rfl
  ·refine tt ?_
   have Aq:=dd h2;rw [hA,← Xq];refine Am o rfl fun H o=>tt ?_;refine (OA B A2 (by omega) H).mono ?_
   rintro r H' ⟨rfl,p,h3,h4,rfl⟩;refine tt ?_;exact ⟨_,o.sub,rfl,p,by omega,h4,rfl⟩
@[go_sem] def BS (AK : List Int) (ls : List Lk) (at' : List (List Int)) (most : Nat) (X : AV) : List AV:=[iL AK,mL TX ls,B5 at',.int .i64 most,X]
theorem NQ (B : Nat) (AK : List Int) (ls : List Lk) (at' : List (List Int)) (most : Nat) (X : AV) (ok : Ft AK ls) (ha : aY AK ls at') (p : List Int) (hp : Ht AK p) (n : Nat) (hn : n<p.length) (h1 : p.getD n default=-1) (H0 : AA) :
  CB B 284 [.ptr (BS AK ls at' most X),iL p,.int .i64 n] H0 (O2 iI H0 [] (·=BQ AK ls p n)):=by
 refine uC.go fun ⟨hfT,_⟩=>?_
 have Nk : AV.Dn (B5 at'):=hfT.ptr (by simp [BS])
 have Nw:=hp.1
 have GX:=ha.len
 have xf : (at'.getD n default).length≤AN:=AZ (by have:=Th (i:=(n : Int)) Nk (by rw [X9]; omega); rw [AR] at this; exact this);simp only [AN] at xf
 have CW:=ok.sz _ (AE.mpr ⟨n,by omega,rfl⟩);refine tt ?_;refine Az iI (.nil _) fun id H o=>tt ?_;refine AD [0,1,2] (G:=Nat × List Int) (fun e g=>[(7,some (.buf g.1 g.2.length)),(8,some (.int .i64 (e : Int)))]) (fun e g H=>g.2=GI (Y2 ls p n) e∧A9 H0 H [(g.1,.cells 1 (g.2.map iI) 0)]) (AK.getD n default).toNat (id,[]) ⟨by simp,o⟩ rfl ?_
 rintro e ⟨id,out⟩ H he ⟨B2,o⟩;dsimp only at B2
 have KU : out.length≤e:=by rw [B2]; exact IA _ _
 refine tt ?_;refine ⟨by omega, ?_⟩;apply bk <;> intro h2
 rotate_left
 ·refine tt ?_
  have Aq:=dd h2;exact K3 o rfl (by rw [B2,show e=(AK.getD n default).toNat by omega]; rfl)
 refine tt ?_
 have Aq:=dd h2
 have w1:=ws e
 generalize Lu : at'.getD n default=an at *;refine AD [0,1,2,7,8] (G:=Bool) (fun k b=>[(9,some (.bool b)),(10,some (.int .i64 (k : Int)))]) (fun k b H=>(b=true↔∀ j,j<k→Fits (p.set n e) (ix ls (an.getD j default)))∧A9 H0 H [(id,.cells 1 (out.map iI) 0)]) an.length true ⟨by simp,o⟩ rfl ?_
 rintro k b H hk ⟨hb,o⟩;refine tt ?_;refine ⟨by omega, ?_⟩;rw [Lu]
 have fin : ∀ (b : Bool) (k : Nat) (H : AA),A9 H0 H [(id,.cells 1 (out.map iI) 0)]→k≤an.length→(b=true↔∀ j,j<k→Fits (p.set n e) (ix ls (an.getD j default)))→(b=false∨k=an.length)→(Y2 ls p n e=b):=by
  intro b k H o hk hb hx
  have hc:=kK ha (p:=p) (e:=(e : Int)) (n:=n) (by omega);rw [Lu] at hc
  cases b with
  | true =>
   rw [Y2,Gz,hc]
   have hk : k=an.length:=by rcases hx with h | h; cases h; exact h
   rw [← hk]; exact hb.mp rfl
  | false =>
   rw [Y2,Sz,hc]
   intro h
   have:=hb.mpr fun j hj=>h j (by omega)
   cases this
 apply bk <;> intro h3
 rotate_left
 ·refine tw h3 ?_
  have BH:=dd h3
  have Zq:=fin b k H o hk hb (.inr (by omega));apply bk <;> intro h4
  ·refine tw h4 ?_;refine Ae (e : Int) o rfl rfl (by simp only [AN]; omega) fun id H o=>?_;refine tw w1 ?_;exact A4 (_,_) (by omega) ⟨by rw [B2,YP (by rw [Zq]; exact h4)],o⟩ rfl
  ·refine t2 h4 w1 ?_
   exact A4 (_,_) (by omega) ⟨by rw [B2,UI (by rw [Zq]; exact h4)],o⟩ rfl
 refine tw h3 ?_
 have BH:=dd h3;apply bk <;> intro h4
 rotate_left
 ·refine t2 h4 w1 ?_
  have Zq:=fin b k H o hk hb (.inl h4);exact A4 (_,_) (by omega) ⟨by rw [B2,UI (by rw [Zq]; exact h4)],o⟩ rfl
 refine tw h4 ?_
 have y8:=hb.mp h4
 have w3:=ws k
 have hy:=(ha.mem n (by omega) _).mp (by rw [Lu]; exact AE.mpr ⟨k,BH,rfl⟩);refine ⟨by omega, ?_⟩;rw [Lu];refine tt ?_;refine ⟨BH,⟨hy.1,hy.2.1⟩,by simp [AN],Ai o fun Bv H o=>?_⟩;refine tt ?_;refine sw o fun H o=>tt ?_
 have GZ : ix ls (an.getD k default)∈ls:=BL hy.2.1
 have hti : (ix ls (an.getD k default)).i=n∨(ix ls (an.getD k default)).j=n:=hy.2.2
 have next : ∀ (b2 : Bool),(b2=true↔Fits (p.set n e) (ix ls (an.getD k default)))→(b2=true↔∀ j,j<k+1→Fits (p.set n e) (ix ls (an.getD j default))) :=
  fun b2 h=>h.trans ⟨fun hf=>AM y8 hf,fun h=>h k (by omega)⟩
 generalize ix ls (an.getD k default)=lk at *
 have bi:=ok.i lk GZ
 have bj:=ok.j lk GZ
 have bl:=ok.left lk GZ
 have br:=ok.right lk GZ
 have pv : ∀ i : Int,i.toNat<p.length→0≤ix p i→ix p i<ix AK i:=fun i hi h0=>by
  rcases hp.2 _ hi with h | h
  ·simp only [ix] at h0; omega
  ·exact h.2
 have szn : ix AK (n : Int)=AK.getD n default:=AR _ _;refine AH o (by simp) (tt ?_);apply bk <;> intro c1
 ·refine tw c1 ?_
  have c1p:=A6 c1;refine AH o (by simp) (tt ?_);apply bk <;> intro c2
  ·refine tt ?_
   have c2p:=A6 c2;refine AH o (by simp) (tt ?_);rw [c1p,szn] at bl;rw [c2p,szn] at br;refine ⟨by omega,AH o (by simp) ?_⟩;refine tt ?_;refine ⟨by omega, ?_⟩;refine tw w3 ?_;refine A4 _ (by omega) ⟨next _ ?_,o.tl⟩ rfl;rw [decide_eq_true_eq,j8 c1p c2p hn (by omega),AR,AR]
  ·refine tt ?_
   have c2p:=A7 c2;refine AH o (by simp) ?_;refine tw c1 ?_;refine AH o (by simp) (tt ?_);refine ⟨⟨bj.1,by omega⟩, ?_⟩;apply bk <;> intro c3
   ·refine tt ?_
    have c3p:=A6 c3;refine AH o (by simp) (tt ?_);rw [c1p,szn] at bl
    have:=pv _ (by omega) c3p;refine ⟨by omega,AH o (by simp) ?_⟩;refine tt ?_;refine AH o (by simp) (tt ?_);refine ⟨⟨bj.1,by omega⟩,⟨c3p,by omega⟩, ?_⟩;refine tw w3 ?_;refine A4 _ (by omega) ⟨next _ ?_,o.tl⟩ rfl;rw [decide_eq_true_eq,jT c1p c2p bj.1 hn (by omega) c3p,AR]
   ·refine tt ?_
    have c3p:=A7 c3;refine AH o (by simp) ?_;refine tw c2 ?_;refine A4 _ (by omega) ⟨next _ ?_,o.tl⟩ (by rw [w3]);exact ⟨fun _=>bE c2p bj.1 c3p,fun _=>rfl⟩
 ·refine tw c1 ?_
  have c1p:=A7 c1
  have c2p:=hti.resolve_left c1p;refine AH o (by simp) ?_;refine tw c1 ?_;refine AH o (by simp) (tt ?_);apply bk <;> intro c2
  rotate_left
  ·exact absurd c2p (A7 c2)
  refine tw c2 ?_;refine AH o (by simp) (tt ?_);refine ⟨⟨bi.1,by omega⟩, ?_⟩;apply bk <;> intro c3
  ·refine tt ?_
   have c3p:=A6 c3;refine AH o (by simp) (tt ?_);refine AH o (by simp) (tt ?_);rw [c2p,szn] at br
   have:=pv _ (by omega) c3p;refine ⟨⟨bi.1,by omega⟩,⟨c3p,by omega⟩,AH o (by simp) ?_⟩;refine tt ?_;refine ⟨by omega, ?_⟩;refine tw w3 ?_;refine A4 _ (by omega) ⟨next _ ?_,o.tl⟩ rfl;rw [decide_eq_true_eq,jS c2p c1p bi.1 hn (by omega) c3p,AR]
  ·refine tt ?_
   have c3p:=A7 c3;refine A4 _ (by omega) ⟨next _ ?_,o.tl⟩ (by rw [w3]);exact ⟨fun _=>bD c1p bi.1 c3p,fun _=>rfl⟩
end Go.Proofs.Shf
namespace Go.AW
open Go.Proofs Go.Shf Go.Proofs.Shf
theorem B9.VO {P : Program} {α : Type} {f : α→AV} {B : Nat} {fn : FuncId} {args es : List AV} {H0 H : AA} {base : List (Nat × AG)} {Q : List α→Prop} {K : Ak} (o : A9 H0 H base) (CA : ∀ a,DM (f a)) (hl : es.length=args.length)
  (ht : ∀ i,i<args.length→∀ g w v,Ao g B H w→Aa g (args.getD i nv) v→Aa (g.Df H w) (es.getD i nv) v)
  (h : B9 P B fn es H.NJ (O2 f H.NJ [] Q)) (hk : ∀ id A H',A9 H0 H' ((id,.cells 1 (A.map f) 0)::base)→Q A→K (.buf id A.length) H') : B9 P B fn args H K :=
 B9.borrow hl ht h fun r H' ⟨id,A,e,o',q⟩=>⟨[(id,.cells 1 (A.map f) 0)],o',fun x hx=>by
   rw [List.mem_singleton] at hx; subst hx
   intro c hc
   obtain ⟨a,_,rfl⟩:=List.mem_map.mp hc;exact CA a,e ▸ DM.buf _ _,fun hn=>by subst e; exact hk id A _ (o.trans (A9.NJ o' hn)) q⟩
end Go.AW
namespace Go.Proofs.Shf
open Go.AW Go.Proofs Go.Shf
theorem PS (B : Nat) (AK : List Int) (ls : List Lk) (at' : List (List Int)) (most : Nat) (GY : most≤1048576) (ok : Ft AK ls) (ha : aY AK ls at') (Im : AK.length≤1048576) :
  ∀ (n : Nat) (p : List Int),Cn p=n→Ht AK p→Cons ls p→∀ (H0 H : AA) (l : List (Nat × AG)) (TQ : Nat) (X : AV) (found : List (List Int)),
   CP iL H0 H ((TQ,.cells 5 (BS AK ls at' most X) 0)::l) X found→found.length<most →
   CB B 252 [.ref TQ 0,iL p] H (fun r H'=>r=.CQ []∧∃ X',CP iL H0 H' ((TQ,.cells 5 (BS AK ls at' most X') 0)::l) X' (found++(Fv AK ls p).take (most - found.length))):=by
 intro n
 induction n using Nat.strongRecOn with
 | _ n ih =>
 intro p hn hp hc H0 H l TQ X found hX HB;refine v8.go fun _=>?_
 have Nw:=hp.1
 obtain ⟨pp,o,KY⟩:=hX.split;clear hX;refine tt ?_;refine Az iI o fun eC H o=>?_
 have wl : IntKind.i64.wrap ((p.length : Int) - 1)=(p.length : Int) - 1:=wrap_i64 (by omega) (by omega);refine tw wl ?_
 refine E3 [0,1] (fun (g : (Nat × List Int) × Nat × Int)=>[(4,some (.int .i64 g.2.2)),(5,some (.buf g.1.1 g.1.2.length)),(6,some (.int .i64 ((g.2.1 : Int) - 1)))])
  (fun k g H=>k=g.2.1∧k≤p.length∧kQ AK ls p g.2.1 g.2.2 g.1.2∧A9 H0 H ((g.1.1,.cells 1 (g.1.2.map iI) 0)::(pp++((TQ,.cells 5 (BS AK ls at' most X) 0)::l)))) p.length ((eC,[]),p.length,-1)
  ⟨rfl,Nat.le_refl _,.inl ⟨rfl,rfl,fun m h1 h2=>by have h1 : p.length≤m:=h1; omega⟩,o⟩ rfl ?_
 rintro k ⟨⟨eC,ch⟩,k',first⟩ H ⟨Qw,hk,hg,o⟩
 obtain rfl : k=k':=Qw;dsimp only at hg o;refine tt ?_;apply bk <;> intro h1
 ·refine tt ?_
  have AU:=A6 h1
  obtain ⟨m,rfl⟩ : ∃ m,k=m+1:=⟨k - 1,by omega⟩
  have e1 : ((m+1 : Nat) : Int) - 1=(m : Int):=by omega
  have wm : IntKind.i64.wrap ((m : Int) - 1)=(m : Int) - 1:=wrap_i64 (by omega) (by omega);refine tw e1 ?_;refine ⟨by omega, ?_⟩;apply bk <;> intro h2
  ·refine tt ?_
   have Aq:=A6 h2;refine B9.VO (f:=iI) (Q:=(·=BQ AK ls p m)) (es:=[.ptr (BS AK ls at' most X),iL p,.int .i64 m]) o (fun _=>.int _ _) rfl (fun i hi=>?_) (NQ B AK ls at' most X ok ha p hp m (by omega) Aq H.NJ) ?_
   ·obtain rfl | rfl | rfl : i=0∨i=1∨i=2:=by simp only [List.length_cons,List.length_nil] at hi; omega
    ·have hg : H.get TQ=some (.cells 5 (BS AK ls at' most X) 0):=o.get (TQ,_) (by simp);exact (Tr.ref TQ 5 0 _ _ hg rfl fun i _=>.val _).arg
    ·exact KC _
    ·exact KC _
   rintro GD ch2 H o rfl;refine tt ?_;apply bk <;> intro h3
   ·refine tt ?_
    have BH:=A6 h3
    have lU : BQ AK ls p m=[]:=List.eq_nil_of_length_eq_zero (by omega);refine ⟨_,.refl _,rfl,X, ?_⟩;rw [FA (WS ok Nw (by omega) Aq lU),List.take_nil,List.append_nil];exact CP.mk o.tl.tl KY
   ·refine tw wm ?_
    have BH:=A7 h3;refine CJ m ((_,_),m,_) (by omega) ⟨rfl,by omega,kQ.Sc (by omega) Aq fun e=>BH (by rw [e]; rfl),o.swap.tl⟩ rfl
  ·refine tw wm ?_
   have Aq:=A7 h2;exact CJ m ((_,_),m,_) (by omega) ⟨rfl,by omega,hg.skip Aq,o⟩ rfl
 ·refine tt ?_
  have AU:=A7 h1
  obtain rfl : k=0:=by omega
  apply bk <;> intro h5
  ·have JB:=A6 h5
   rcases hg with ⟨rfl,rfl,Au⟩ | ⟨f,rfl,_⟩
   rotate_left
   ·omega
   refine tt ?_
   have gC:=Mx (AK:=AK) hc fun m hm=>Au m (by omega) hm
   have hX:=CP.mk o.tl KY;refine Aj hX.obj (by simp [BS]) (tt ?_);refine ⟨_,(CX B p).run,tt ?_⟩;refine hX.app p rfl (by simp only [AN]; omega) fun GD H o=>tt ?_;refine AS o.swap (by simp [BS]) rfl (by simp only [Gk,JL]; exact ⟨rfl,trivial⟩) fun H o=>?_;have o:=s2 o;refine tt ?_;refine ⟨_,.refl _,rfl,.buf GD (found++[p]).length,.inr ⟨GD, ?_, ?_⟩⟩
   ·rw [FA gC,List.take_of_length_le (by simp; omega)]
   ·rw [FA gC,List.take_of_length_le (by simp; omega)]; exact o.swap
  ·have JB:=A7 h5
   rcases hg with ⟨rfl,rfl,Au⟩ | ⟨f,rfl,_,dH,R2,TP,rfl,Bg⟩
   ·omega
   refine tt ?_
   have RG : (BQ AK ls p f).length≤4096:=by
    have:=IA (Y2 ls p f) (AK.getD f default).toNat
    have h2:=ok.sz _ (AE.mpr ⟨f,by omega,rfl⟩);rw [BQ]; omega
   have Ed:=Qi ok hp hc dH R2 fun m hm=>TP m (by omega) hm
   generalize tA : BQ AK ls p f=ch at *
   have uw : ∀ e,e∈ch→(0≤e∧e<AK.getD f default)∧u5 ls p f e:=fun e he=>EO.mp (by rw [tA]; exact he)
   have jg:=CP.mk (l:=(TQ,AG.cells 5 (BS AK ls at' most X) 0)::((eC,AG.cells 1 (ch.map iI) 0)::l)) (X:=X) (A:=found) (f:=iL) (p:=pp) (o.perm (((List.perm_middle (a:=(eC,AG.cells 1 (ch.map iI) 0)) (l₁:=pp)).symm).trans (List.Perm.append_left _ (List.Perm.swap _ _ _)))) KY
   have Zx : (most - found.length)+found.length=most:=by omega
   refine AD [0,1,4,5] (fun k _=>[(7,some (.int .i64 (k : Int)))]) (fun k X H=>CP iL H0 H ((TQ,.cells 5 (BS AK ls at' most X) 0)::((eC,.cells 1 (ch.map iI) 0)::l)) X (found++((ch.take k).flatMap fun e=>Fv AK ls (p.set f e)).take (most - found.length))) ch.length X (by simpa using jg) rfl ?_
   rintro k X H hk hX
   have Zn : ∀ X H,CP iL H0 H ((TQ,.cells 5 (BS AK ls at' most X) 0)::((eC,.cells 1 (ch.map iI) 0)::l)) X (found++(Fv AK ls p).take (most - found.length)) →
     ∃ X',CP iL H0 H ((TQ,.cells 5 (BS AK ls at' most X') 0)::l) X' (found++(Fv AK ls p).take (most - found.length)):=by
    intro X H hX
    obtain ⟨q,o,hq⟩:=hX.split;refine ⟨X,CP.mk (p:=q) ?_ hq⟩
    have o2:=o.perm ((List.Perm.append_left q (List.Perm.swap _ _ l)).trans (List.perm_middle (a:=(eC,AG.cells 1 (ch.map iI) 0)) (l₁:=q)));exact o2.tl
   refine tt ?_;apply bk <;> intro h2
   rotate_left
   ·refine tw h2 ?_
    have Aq:=A7 h2
    obtain rfl : k=ch.length:=by omega
    rw [List.take_length,← Ed] at hX;exact ⟨_,.refl _,rfl,Zn _ _ hX⟩
   refine tw h2 ?_
   have Aq:=A6 h2
   have w2:=ws k;refine Aj hX.obj (by simp [BS]) (tt ?_);rw [hX.Ds];refine tt ?_;refine Aj hX.obj (by simp [BS]) (tt ?_);apply bk <;> intro h3
   rotate_left
   ·refine tt ?_
    have BH:=A7 h3;refine ⟨H,.refl _,rfl,Zn X H ?_⟩
    have e : ((ch.take k).flatMap fun e=>Fv AK ls (p.set f e)).take (most - found.length)=(Fv AK ls p).take (most - found.length):=by
     rw [Ed]
     conv=>rhs; rw [← List.take_append_drop k ch,List.flatMap_append]
     rw [List.take_append_of_le_length];rw [List.length_append,List.length_take] at BH;omega
    rw [← e]; exact hX
   refine tt ?_
   have BH:=A6 h3
   obtain ⟨q,o,hq⟩:=hX.split;refine (FM B p H0 H _ o).own ?_
   rintro Cm A8 H o rfl;refine tt ?_
   have vz : H.get eC=some (.cells 1 (ch.map iI) 0):=o.get (eC,.cells 1 (ch.map iI) 0) (by simp);refine ⟨Aq,D1 vz Aq ?_⟩;refine tt ?_;refine ⟨by omega,BT (ch.getD k default) o rfl (by omega) fun H o=>?_⟩;refine tt ?_;refine Pu 1 rfl o (by rw [List.length_set]) fun H o=>?_;simp only [List.set_cons_succ,List.set_cons_zero]
   have yo:=uw _ (AE.mpr ⟨k,Aq,rfl⟩)
   have CF : ((ch.take k).flatMap fun e=>Fv AK ls (A8.set f e)).length<most - found.length:=by
    rw [List.length_append,List.length_take] at BH; omega
   refine (ih _ (hn ▸ Ku dH R2 yo.1.1) _ rfl (hp.set yo.1) (MV ok hc yo.2) H0 H _ TQ X _ (CP.mk o hq) BH).mono ?_
   rintro r H' ⟨rfl,X',Iq⟩;refine tw w2 ?_;refine A4 X' (by omega) ?_ rfl
   have e : found++((ch.take (k+1)).flatMap fun e=>Fv AK ls (A8.set f e)).take (most - found.length) =
     (found++((ch.take k).flatMap fun e=>Fv AK ls (A8.set f e)).take (most - found.length))++(Fv AK ls (A8.set f (ch.getD k default))).take (most - (found++((ch.take k).flatMap fun e=>Fv AK ls (A8.set f e)).take (most - found.length)).length):=by
    rw [Ar ch Aq,List.flatMap_append,List.flatMap_singleton,← WR _ _ _ CF,List.append_assoc,List.length_append]
    congr 3
    omega
   rw [e]; exact Iq
def FV (l : Lk) : List Int:=[l.i,l.j]
theorem S7 (B : Nat) (AK : List Int) (ls : List Lk) (most : Nat) (Zx : 0<most) (GY : most≤1048576) (ok : Ft AK ls) (Im : AK.length≤64) (TY : ls.length≤2600) :
  PB B 171 [iL AK,mL TX ls,.int .i64 most] (B5 ((OB AK ls).take most)):=by
 refine ⟨fun H0=>vA.go fun _=>tt ?_⟩;refine ⟨⟨by omega,by simp only [AN]; omega⟩, ?_⟩;rw [IX];refine AP (.nil _) fun Cm H o=>tt ?_
 refine AD [0,1,2,8] (G:=(AV × List (List Int)) × List AV × List (List Int) × List (Nat × AG)) (fun k g=>[(7,some g.1.1),(9,some (.int .i64 (k : Int)))])
  (fun k g H=>oI iL H0 H ((Cm,.cells 1 g.2.1 0)::g.2.2.2) g.1.1 g.1.2∧ED iI g.2.1 g.2.2.1 g.2.2.2∧g.1.2=(ls.take k).map FV∧cU AK.length ls k g.2.2.1) ls.length ((.Dg,[]),(List.replicate AK.length .A0,List.replicate AK.length [],[]))
  ⟨.inl ⟨rfl,rfl,o⟩,ED.rep iI _,by simp,cU.zero _ _⟩ rfl ?_
 rintro k ⟨⟨Xp,P⟩,Xs,As,ob⟩ H hk ⟨hE,hR,hP,hA⟩;dsimp only at hE hR hP hA
 have Iw:=hR.len
 have L7:=hA.len
 have pA : P.length=k:=by rw [hP]; simp; omega
 refine tt ?_;apply bk <;> intro h1
 ·refine tt ?_
  have AU:=A6 h1
  have w1:=ws k
  have GZ : ls.getD k default∈ls:=AE.mpr ⟨k,AU,rfl⟩
  have bi:=ok.i _ GZ
  have bj:=ok.j _ GZ;refine ⟨AU,AU, ?_⟩;refine hE.app (f:=iL) (FV (ls.getD k default)) rfl (by simp only [AN]; omega) fun tG H o=>tt ?_
  obtain ⟨i,hi⟩ : ∃ i : Nat,(ls.getD k default).i=i:=⟨(ls.getD k default).i.toNat,by omega⟩
  obtain ⟨j,hj⟩ : ∃ j : Nat,(ls.getD k default).j=j:=⟨(ls.getD k default).j.toNat,by omega⟩
  have Ed:=hA.step (i:=i) (j:=j) (by omega) (by omega) hi hj
  have hPs : P++[FV (ls.getD k default)]=(ls.take (k+1)).map FV:=by rw [J3 ls FV AU,hP]
  refine ⟨bi,Aj o.tl.h0 (by omega) ?_⟩;refine tt ?_
  refine Hv (l:=[(tG,.cells 1 ((P++[FV (ls.getD k default)]).map iL) 0)]) (o.perm ((List.Perm.swap _ _ _).trans (List.Perm.cons _ (List.perm_append_singleton _ _).symm))) hR (by omega) (k : Int) rfl
   (by have:=hA.lens (ls.getD k default).i.toNat bi.2; simp only [AN]; omega) fun X' o' H V1 hR o=>?_
  try simp only [go_sem,↓reduceIte,reduceEqDiff,reduceAdd,reduceMul,reduceLeDiff,reduceLT,AV.DH V1]
  refine ⟨bi,AS o (by omega) rfl (by simp only [Gk,JL]; exact ⟨V1,trivial⟩) fun H o=>?_⟩;simp only [Ej,Gv] at o;refine tt ?_
  have gP : ∀ {Xs : List AV} {o' : List (Nat × AG)} {H : AA},A9 H0 H ((Cm,.cells 1 Xs 0)::(o'++[(tG,.cells 1 ((P++[FV (ls.getD k default)]).map iL) 0)]))→oI iL H0 H ((Cm,.cells 1 Xs 0)::o') (.buf tG (P++[FV (ls.getD k default)]).length) (P++[FV (ls.getD k default)]):=by
   intro Xs o' H o;exact .inr ⟨tG,rfl,o.perm (List.perm_append_singleton (tG,AG.cells 1 ((P++[FV (ls.getD k default)]).map iL) 0) ((Cm,AG.cells 1 Xs 0)::o'))⟩
  rw [hi] at hR o;rw [Int.toNat_natCast] at hR o;apply bk <;> intro h2
  ·refine tt ?_
   have Aq : ¬ i=j:=fun e=>by rw [hi,hj,e] at h2; simp at h2
   rw [if_neg Aq] at Ed
   have Ce : ((As.set i (As.getD i []++[(k : Int)])).getD j []).length≤2601:=by
    have:=Ed.lens j (by omega);rw [B8,if_pos ⟨rfl,by rw [List.length_set]; omega⟩,List.length_append] at this;omega
   refine ⟨bj,Aj o.h0 (by rw [List.length_set]; omega) ?_⟩;refine tt ?_;refine Hv o hR (by rw [List.length_set]; omega) (k : Int) rfl (by simp only [AN]; rw [hj,Int.toNat_natCast]; omega) fun X2 o2 H Uw hR o=>?_;try simp only [go_sem,↓reduceIte,reduceEqDiff,reduceAdd,reduceMul,reduceLeDiff,reduceLT,AV.DH Uw]
   refine ⟨bj,AS o (by rw [List.length_set]; omega) rfl (by simp only [Gk,JL]; exact ⟨Uw,trivial⟩) fun H o=>?_⟩;simp only [Ej,Gv] at o;rw [hj] at hR o;rw [Int.toNat_natCast] at hR o;refine tw w1 ?_;exact A4 ((_,_),(_,_,_)) (by omega) ⟨gP o,hR,hPs,Ed⟩ rfl
  ·refine tw w1 ?_
   have Aq : i=j:=by
    rw [hi,hj] at h2
    have : (i : Int)=j:=by simpa using h2
    omega
   rw [if_pos Aq] at Ed;exact A4 ((_,_),(_,_,_)) (by omega) ⟨gP o,hR,hPs,Ed⟩ rfl
 ·refine tt ?_
  have AU:=A7 h1
  obtain rfl : k=ls.length:=by omega
  rw [List.take_length] at hP
  have hAt:=hA.ok
  obtain ⟨ope,iu⟩ : ∃ q,q=ob:=⟨_,rfl⟩;refine cJ 7 hE rfl fun H o=>?_;refine EA (l:=[]) hR [] H (by simpa using o) fun H o=>AX ?_;rw [List.nil_append] at o
  have e8 : AK.length=As.length:=L7.symm;refine tt ?_;rw [e8];refine Am o rfl fun H o=>?_;rw [L7];refine tt ?_;refine (UP B AK.length (by omega) P (fun q hq=>?_) H).mono ?_
  ·rw [hP] at hq
   obtain ⟨l,hl,rfl⟩:=List.mem_map.mp hq;exact ⟨by simp [FV],ok.i l hl,ok.j l hl⟩
  rintro r H' ⟨rfl,parts,Nw,TK,rfl⟩;refine tt ?_
  have htb:=bV parts TK;refine AD [0,1,2,8,12] (fun q _=>[(13,some (.int .i64 (q : Int)))]) (fun q _ H=>A9 H0 H []) (Lo parts).toNat () o rfl ?_
  rintro q _ H hq o;refine tt ?_;refine (XG B parts TK).go fun _=>tt ?_;apply bk <;> intro h2
  ·refine tt ?_
   have Aq:=A6 h2
   have w2:=ws q;refine Az iI o fun id H o=>tt ?_;refine AD [0,1,2,8,12,13] (G:=Nat × List Int) (fun n g=>[(14,some (.buf g.1 g.2.length)),(15,some (.int .i64 (n : Int)))]) (fun n g H=>(g.2.length=n∧∀ m,m<n→g.2.getD m default=-1∨g.2.getD m default=-2)∧A9 H0 H [(g.1,.cells 1 (g.2.map iI) 0)]) AK.length (id,[]) ⟨⟨rfl,by simp⟩,o⟩ rfl ?_
   rintro n ⟨id,list⟩ H hn ⟨⟨Xf,y9⟩,o⟩;dsimp only at o Xf y9
   have qG : ∀ (y : Int),y=-1∨y=-2→∀ m,m<n+1→(list++[y]).getD m default=-1∨(list++[y]).getD m default=-2:=by
    intro y hy m hm;rw [Go.AW.gE,List.getElem?_append]
    split
    ·have:=y9 m (by omega); rwa [Go.AW.gE] at this
    ·rw [show m - list.length=0 by omega]; simpa using hy
   refine tt ?_;apply bk <;> intro h3
   ·refine tt ?_
    have BH:=A6 h3
    have w3:=ws n;refine ⟨by omega, ?_⟩;apply bk <;> intro h4
    ·refine tt ?_;refine Ae (-1 : Int) o rfl rfl (by simp only [AN]; omega) fun id H o=>?_;refine tw w3 ?_;exact A4 (_,_) (by omega) ⟨⟨by simp [Xf],qG _ (.inl rfl)⟩,o⟩ rfl
    ·refine tt ?_;refine Ae (-2 : Int) o rfl rfl (by simp only [AN]; omega) fun id H o=>?_;refine tw w3 ?_;exact A4 (_,_) (by omega) ⟨⟨by simp [Xf],qG _ (.inr rfl)⟩,o⟩ rfl
   ·refine tt ?_
    have BH:=A7 h3
    obtain rfl : n=AK.length:=by omega
    refine nb o fun TQ H o=>tt ?_;refine Pu 1 rfl o.swap rfl fun H o=>?_;simp only [List.set_cons_succ,List.set_cons_zero]
    have Pa : Ht AK list:=⟨Xf,fun m hm=>.inl (by have:=y9 m (by omega); omega)⟩
    have Oo : Cons ls list:=SK ok Xf fun m hm=>by have:=y9 m (by omega); omega
    refine (PS B AK ls As 1 (by omega) ok hAt (by omega) _ list rfl Pa Oo H0 H [] TQ .A0 [] (.inl ⟨rfl,rfl,o⟩) (by simp)).mono ?_
    rintro r H' ⟨rfl,X',Iq⟩;rw [List.nil_append] at Iq;refine tt ?_;refine Aj Iq.obj (by simp [BS]) (tt ?_);rw [Iq.Ds];refine tt ?_;apply bk <;> intro h5
    ·refine tt ?_
     have JB:=A6 h5
     have lU : Fv AK ls list=[]:=by
      cases he : Fv AK ls list with
      | nil=>rfl
      | cons a r=>rw [he] at JB; simp at JB
     refine Az iL (A9.nil _) fun GD H2 o2=>tt ?_;refine Am o2 rfl fun H2 o2=>tt ?_
     have Dw : H0.sub H':=by obtain ⟨_,oo,_⟩:=Iq.split; exact oo.sub
     refine A5 ?_ (Dw.trans o2.sub)
     have Ea : OB AK ls=[]:=by
      refine FA (Jl fun t ht=>?_)
      obtain ⟨u,hu⟩:=ht.part Xf (fun m hm=>y9 m (by omega)) ok
      have:=((Qf ok Pa Oo).mem u).mpr hu;rw [lU] at this; simp at this
     rw [Ea,List.take_nil]
    ·refine tw w2 ?_
     obtain ⟨_,oo,_⟩:=Iq.split;exact A4 () (by omega) ⟨oo.sub,by simp,by simp,by simp⟩ rfl
  ·refine tt ?_
   have Aq:=A7 h2;refine Az iL o fun idf H o=>tt ?_;refine nb o fun TQ H o=>tt ?_;refine (Q6 B (-1) AK.length (by omega)).go fun _=>tt ?_
   have Zr : ∀ m,m<(List.replicate AK.length (-1 : Int)).length→(List.replicate AK.length (-1 : Int)).getD m default<0:=fun m hm=>by
    rw [List.length_replicate] at hm
    simp [Go.AW.gE,hm]
   have Pa : Ht AK (List.replicate AK.length (-1)):=⟨by simp,fun m hm=>.inl (Zr m hm)⟩
   have Oo : Cons ls (List.replicate AK.length (-1)):=SK ok (by simp) Zr;refine (PS B AK ls As most GY ok hAt (by omega) _ _ rfl Pa Oo H0 H [] TQ (.buf idf 0) [] (.inr ⟨idf,rfl,o.swap⟩) (by simpa using Zx)).mono ?_
   rintro r H' ⟨rfl,X',Iq⟩;rw [List.nil_append,List.length_nil,Nat.sub_zero] at Iq;refine tt ?_;refine Aj Iq.obj (by simp [BS]) (tt ?_)
   rcases Iq with ⟨rfl,hl,o⟩ | ⟨id,rfl,o⟩
   ·refine tt ?_;exact A5 (by rw [show (OB AK ls).take most=[] from hl]; rfl) o.sub
   ·refine tt ?_;refine Am o rfl fun H o=>tt ?_;exact A5 rfl o.sub
end Go.Proofs.Shf
