/- Contracts, part 6. -/
import Derived.Test.YthflgdphhajkbaaGreatF5
import Derived.Sort.Row
import Derived.Sort.Grow
import Derived.Deep.Draws
import Derived.Test.YthflgdphhajkbaaGreatProg
import Derived.Shelf.SlLaysF
import Derived.Shelf.SlSortCmp.Whole1
set_option linter.unusedVariables false
set_option linter.unusedSimpArgs false
set_option linter.unusedSectionVars false
open Nat (reduceEqDiff reduceAdd reduceMul reduceLeDiff reduceLT)
namespace Go.Proofs.Shf
open Go.AW Go.Proofs Go.Shf
open Classical in
noncomputable def twoA (j : Top) (f : SF) : List AV:=if codeF j f=0∧TwoFew f (leastL j.shape j.covers) then stepCells f (leastL j.shape j.covers) else tabZ
open Classical in
noncomputable def twoB (j : Top) (f : SF) : List AV:=if codeF j f=0∧TwoFew f (leastL j.shape j.covers) then stepCells (stepSF f (leastL j.shape j.covers)) (leastL j.shape j.covers) else tabZ
open Classical in
noncomputable def twoC (j : Top) (f : SF) : Int:=if codeF j f=0 then (if TwoFew f (leastL j.shape j.covers) then 0 else 3) else codeF j f
theorem code_cov {j : Top} {f : SF} (h : codeF j f=0) : j.Form∧f.Is∧j.shape=f.shape∧CovOk f.shape (leastL f.shape j.covers):=by
 obtain ⟨hF,hf,hct,hsh⟩:=codeF_z h
 have htop : TopIs j.shape j.covers:=by
  unfold codeT at hct;rw [if_neg (fun e=>e hF)] at hct
  split at hct
  ·cases hct
  ·split at hct
   ·assumption
   ·cases hct
 have hcov:=least_cov hF.is hF.len (fun x hx s hs=>by
  obtain ⟨k,hk,rfl⟩:=mem_getD.mp hs;exact hF.sv x hx k hk) htop
 rw [hsh] at hcov;exact ⟨hF,hf,hsh,hcov⟩
theorem l28Two_ok (B : Nat) (j : Top) (f : SF) : Pur Tryz.prog B 95 [.agg j.cells,.agg f.cells] (.tup [.agg (twoA j f),.agg (twoB j f),.int .i64 (twoC j f)]):=by
 refine ⟨fun H0=>c95p.go fun hfi=>?_⟩;refine tt ?_;refine nb (.nil _) fun id4 H o=>tt ?_;refine nb o fun id5 H o=>tt ?_;refine (l28Code_ok B j f).go fun _=>tt ?_;apply bk <;> intro h1
 ·have h1p : ¬ codeF j f=0:=by simpa using h1
  refine tt ?_;refine sw o.swap fun H o=>tt ?_;refine sw o.swap fun H o=>tt ?_
  have hr:=o.swap.rc 8 0 (by simp)
  have hr2:=o.rc 8 0 (by simp);simp only [List.drop_zero] at hr hr2;rw [hr,hr2];refine pure_ret ?_ o.sub;rw [twoA,twoB,twoC,if_neg (fun e=>h1p e.1),if_neg (fun e=>h1p e.1),if_neg h1p]; rfl
 ·have h1p : codeF j f=0:=by simpa using h1
  obtain ⟨hF,hf,hsh,hcov⟩:=code_cov h1p;refine tt ?_;refine ⟨_,(l27Least_ok B j).run, ?_⟩;rw [hsh];refine ⟨_,(l28Both_ok B f hf.1 (leastL f.shape j.covers) hcov).run, ?_⟩
  obtain ⟨a1,a2,a3,a4,a5,a6,a7,a8,hA,h8⟩:=stepA8 f (leastL f.shape j.covers)
  obtain ⟨b1,b2,b3,b4,b5,b6,b7,b8,hB,h8b⟩ : ∃ b1 b2 b3 b4 b5 b6 b7 b8,bothB f (leastL f.shape j.covers)=[b1,b2,b3,b4,b5,b6,b7,b8]∧∀ c,c∈[b1,b2,b3,b4,b5,b6,b7,b8]→c.one=true:=by
   unfold bothB
   split
   ·exact ⟨_,_,_,_,_,_,_,_,rfl,by simp only [memcons,memnil]; exact ⟨rfl,rfl,rfl,rfl,rfl,rfl,rfl,rfl,trivial⟩⟩
   ·exact ⟨_,_,_,_,_,_,_,_,rfl,by simp only [memcons,memnil]; exact ⟨rfl,rfl,rfl,rfl,rfl,rfl,rfl,rfl,trivial⟩⟩
  have hAA : TwoFew f (leastL f.shape j.covers)→twoA j f=[a1,a2,a3,a4,a5,a6,a7,a8]:=fun h=>by rw [twoA,hsh,if_pos ⟨h1p,h⟩,← hA,stepA,if_pos h.1]
  have hBB : TwoFew f (leastL f.shape j.covers)→twoB j f=[b1,b2,b3,b4,b5,b6,b7,b8]:=fun h=>by rw [twoB,hsh,if_pos ⟨h1p,h⟩,← hB,bothB,if_pos h]
  rw [hA,hB]
  by_cases hfew : TwoFew f (leastL f.shape j.covers)
  ·have hC : twoC j f=0:=by rw [twoC,hsh,if_pos h1p,if_pos hfew]
   rw [dec_t hfew];refine tt ?_;refine ⟨⟨by simp [maxL],newRef_own o fun id8 H o=>?_⟩,by simp [maxL],newRef_own o fun id9 H o=>?_⟩
   ·refine tt ?_;refine nb o fun id9 H o=>tt ?_;refine st_cells o.swap (by simp) (by (try simp only [go_sem]); (try simp)) h8 fun H o=>?_;simp only [wr_cons,wr_nil,List.set_cons_zero,List.set_cons_succ] at o;refine tt ?_;refine st_cells o.swap (by simp) (by (try simp only [go_sem]); (try simp)) h8b fun H o=>?_;simp only [wr_cons,wr_nil,List.set_cons_zero,List.set_cons_succ] at o;refine tt ?_;refine wk_ref 9 o rfl fun H o=>?_;refine wk_ref 8 o rfl fun H o=>wkW_done ?_;refine tt ?_;refine st_cells o.swap (by simp) (by (try simp only [go_sem]); (try simp)) h8 fun H o=>?_;simp only [wr_cons,wr_nil,List.set_cons_zero,List.set_cons_succ] at o;refine tt ?_;refine st_cells o.swap (by simp) (by (try simp only [go_sem]); (try simp)) h8b fun H o=>?_;simp only [wr_cons,wr_nil,List.set_cons_zero,List.set_cons_succ] at o;refine tt ?_
    have hr:=o.swap.rc 8 0 (by simp)
    have hr2:=o.rc 8 0 (by simp);simp only [List.drop_zero] at hr hr2;rw [hr,hr2];refine pure_ret ?_ o.sub;rw [hAA hfew,hBB hfew,hC]; rfl
   ·refine tt ?_;refine nb o fun id8 H o=>tt ?_;refine st_cells o (by simp) (by (try simp only [go_sem]); (try simp)) h8 fun H o=>?_;simp only [wr_cons,wr_nil,List.set_cons_zero,List.set_cons_succ] at o;refine tt ?_;refine st_cells o.swap (by simp) (by (try simp only [go_sem]); (try simp)) h8b fun H o=>?_;simp only [wr_cons,wr_nil,List.set_cons_zero,List.set_cons_succ] at o;refine tt ?_;refine wk_ref 9 o rfl fun H o=>?_;refine wk_ref 8 o rfl fun H o=>wkW_done ?_;refine tt ?_;refine st_cells o.swap (by simp) (by (try simp only [go_sem]); (try simp)) h8 fun H o=>?_;simp only [wr_cons,wr_nil,List.set_cons_zero,List.set_cons_succ] at o;refine tt ?_;refine st_cells o.swap (by simp) (by (try simp only [go_sem]); (try simp)) h8b fun H o=>?_;simp only [wr_cons,wr_nil,List.set_cons_zero,List.set_cons_succ] at o;refine tt ?_
    have hr:=o.swap.rc 8 0 (by simp)
    have hr2:=o.rc 8 0 (by simp);simp only [List.drop_zero] at hr hr2;rw [hr,hr2];refine pure_ret ?_ o.sub;rw [hAA hfew,hBB hfew,hC]; rfl
  ·have hC : twoC j f=3:=by rw [twoC,hsh,if_pos h1p,if_neg hfew]
   have hA0 : twoA j f=tabZ:=by rw [twoA,hsh,if_neg (fun e=>hfew e.2)]
   have hB0 : twoB j f=tabZ:=by rw [twoB,hsh,if_neg (fun e=>hfew e.2)]
   rw [dec_f hfew];refine tt ?_;refine ⟨⟨by simp [maxL],newRef_own o fun id8 H o=>?_⟩,by simp [maxL],newRef_own o fun id9 H o=>?_⟩
   ·refine tt ?_;refine nb o fun id9 H o=>tt ?_;refine st_cells o.swap (by simp) (by (try simp only [go_sem]); (try simp)) h8 fun H o=>?_;simp only [wr_cons,wr_nil,List.set_cons_zero,List.set_cons_succ] at o;refine tt ?_;refine st_cells o.swap (by simp) (by (try simp only [go_sem]); (try simp)) h8b fun H o=>?_;simp only [wr_cons,wr_nil,List.set_cons_zero,List.set_cons_succ] at o;refine tt ?_;refine sw o.tl.tl.swap fun H o=>tt ?_;refine sw o.swap fun H o=>tt ?_
    have hr:=o.swap.rc 8 0 (by simp)
    have hr2:=o.rc 8 0 (by simp);simp only [List.drop_zero] at hr hr2;rw [hr,hr2];refine pure_ret ?_ o.sub;rw [hA0,hB0,hC]; rfl
   ·refine tt ?_;refine nb o fun id8 H o=>tt ?_;refine st_cells o (by simp) (by (try simp only [go_sem]); (try simp)) h8 fun H o=>?_;simp only [wr_cons,wr_nil,List.set_cons_zero,List.set_cons_succ] at o;refine tt ?_;refine st_cells o.swap (by simp) (by (try simp only [go_sem]); (try simp)) h8b fun H o=>?_;simp only [wr_cons,wr_nil,List.set_cons_zero,List.set_cons_succ] at o;refine tt ?_;refine sw o.tl.tl.swap fun H o=>tt ?_;refine sw o.swap fun H o=>tt ?_
    have hr:=o.swap.rc 8 0 (by simp)
    have hr2:=o.rc 8 0 (by simp);simp only [List.drop_zero] at hr hr2;rw [hr,hr2];refine pure_ret ?_ o.sub;rw [hA0,hB0,hC]; rfl
end Go.Proofs.Shf
namespace Go.AW
theorem cut_mid {P : Program} {B : Nat} {l : List Nat} {a b : SC} {Q : AQ} {σ : Env} {H : Heap} (M : Env→Heap→Prop) (h1 : awp P B a (ctQ l M Q) σ H) (h2 : ∀ σ' H',M σ' H'→awp P B b Q σ' H') : awp P B (.cut l a b) Q σ H:=⟨M,h1,h2⟩
end Go.AW
namespace Go.Proofs.Shf
open Go.AW Go.Proofs Go.Shf
theorem dTr' {p : Decidable True} : @decide True p=true:=@decide_eq_true True p trivial
theorem l28Base_ok (B : Nat) : Rd B 172 [] TopR:=by
 intro id s H0 H hs o;refine c172p.go fun _=>?_;refine tt ?_;refine nb o fun id2 H o=>tt ?_;refine (l01Next_ok B 12).go hs o.swap fun r s H _ ⟨v,e,_⟩ hs o=>?_;subst e;refine tt ?_;apply bk <;> intro g1
 ·refine tt ?_;refine (l27Draw_ok B).go hs o fun r s H _ ⟨j,e⟩ hs o=>?_;subst e;refine tt ?_;refine sw o.swap fun H o=>tt ?_;refine wkW_done ?_
  have hr2:=o.rc 6 0 (by simp);simp only [List.drop_zero] at hr2;refine tt ?_;rw [hr2];refine tt ?_;exact src_ret ⟨j,rfl⟩ hs o.swap
 ·refine tt ?_;refine (l02Some_ok B 3 7).go hs o fun r s H _ ⟨c,e,_⟩ hs o=>?_;subst e;refine tt ?_;refine (l27Some_own B c hs o).mono ?_
  rintro r H ⟨s,C,p,hs,⟨idC,Xs,ob,rfl,hX,⟨hb1,hb2⟩,rfl⟩,o⟩
  have hXl:=hX.len;refine tt ?_
  have o : Owns H0 H ((id2,MObj.cells 6 [.int .i64 0,.nilsl,.nilsl,.nilsl,.nilsl,.nilsl] 0)::(id,s.obj)::(idC,.cells 1 Xs 0)::ob):=o.pm;refine sw o fun H o=>tt ?_
  have od : Owns H0 H ((idC,.cells 1 Xs 0)::(ob++[(id2,tpO c (.buf idC Xs.length)),(id,s.obj)])):=by
   simp only [tpO];exact o.pm
  refine wk_rows hX [] H od fun H o=>?_;simp only [List.nil_append] at o
  have o : Owns H0 H ((id2,tpO c (.buf idC Xs.length))::(idC,.cells 1 (C.map (mL iL)) 0)::[(id,s.obj)]):=o.pm;simp only [tpO] at o;refine wk_cell (f:=mL iL) 5 o rfl hXl fun H o=>wkW_done ?_;simp only [List.set_cons_zero,List.set_cons_succ] at o
  have hr2:=o.rc 6 0 (by simp);simp only [List.drop_zero] at hr2;refine tt ?_;rw [hr2];refine tt ?_;exact src_ret ⟨⟨c,C⟩,rfl⟩ hs (o.pull [_])
theorem bothB8 (f : SF) (V : List (List Int)) : ∃ a1 a2 a3 a4 a5 a6 a7 a8,bothB f V=[a1,a2,a3,a4,a5,a6,a7,a8]∧∀ c,c∈[a1,a2,a3,a4,a5,a6,a7,a8]→c.one=true:=by
 unfold bothB
 split
 ·exact ⟨_,_,_,_,_,_,_,_,rfl,by simp only [memcons,memnil]; exact ⟨rfl,rfl,rfl,rfl,rfl,rfl,rfl,rfl,trivial⟩⟩
 ·exact ⟨_,_,_,_,_,_,_,_,rfl,by simp only [memcons,memnil]; exact ⟨rfl,rfl,rfl,rfl,rfl,rfl,rfl,rfl,trivial⟩⟩
def DrawJF (r : AV) : Prop:=∃ (j : Top) (f : SF),r=.tup [.agg j.cells,.agg f.cells]
theorem l28On_ok (B : Nat) (code : List UInt8) : Rets B 94 [mL Go.AW.iB code] DrawJF:=by
 intro H0;refine c94p.go fun _=>?_
 have o : Owns H0 H0 []:=.nil _;refine tt ?_;refine nb o fun id2 H o=>tt ?_;refine nb o fun id3 H o=>tt ?_;refine (l01From_ok B code _).mono' fun r H _ ⟨id,s,e,hs,o2⟩=>?_;subst e
 have o:=o.trans o2;refine tt ?_;refine (l28Base_ok B).go hs o fun r s H _ ⟨j,e⟩ hs o=>?_;subst e;refine tt ?_;refine nb o fun id5 H o=>tt ?_;refine sw o fun H o=>tt ?_;refine wk_ref 5 o rfl fun H o=>wkW_done ?_;refine tt ?_;refine newRef_own o fun id6 H o=>tt ?_;refine sw o fun H o=>tt ?_
 obtain ⟨c0,hc0⟩ : ∃ c0,j.shape=c0:=⟨_,rfl⟩
 have o : Owns H0 H ((id,s.obj)::(id6,MObj.cells 5 [iI c0.objs,iL c0.frm,iL c0.to,iL c0.idn,iLL c0.comp] 0)::[(id3,MObj.cells 7 [.int .i64 0,.nilsl,.nilsl,.nilsl,.nilsl,.nilsl,.nilsl] 0),(id2,MObj.cells 6 [.int .i64 0,.nilsl,.nilsl,.nilsl,.nilsl,.nilsl] 0)]):=by
  rw [← hc0];exact o.pm
 refine cut_mid (fun σ H=>∃ (s : Src) (c : Cat),σ=[(2,some (.ref id2 0)),(3,some (.ref id3 0)),(4,some (.ref id 0)),(5,some (.ptr j.cells)),(6,some (.ref id6 0))]∧s.Ok ∧
  Owns H0 H ((id,s.obj)::(id6,MObj.cells 5 [iI c.objs,iL c.frm,iL c.to,iL c.idn,iLL c.comp] 0)::[(id3,MObj.cells 7 [.int .i64 0,.nilsl,.nilsl,.nilsl,.nilsl,.nilsl,.nilsl] 0),(id2,MObj.cells 6 [.int .i64 0,.nilsl,.nilsl,.nilsl,.nilsl,.nilsl] 0)])) ?_ ?_
 ·refine tt ?_;refine (l01Next_ok B 20).go hs o fun r s H _ ⟨v,e,_⟩ hs o=>?_;subst e;refine tt ?_;apply bn <;> intro h1
  ·refine tw h1 ?_;refine rd_celln o.tl (by simp) ?_;refine tw h1 ?_;refine (l02Is_ok B c0).go fun _=>?_
   by_cases hI : c0.Is
   ·rw [dec_t hI];refine tw h1 ?_;exact wkW_done ⟨s,c0,rfl,hs,o⟩
   ·rw [dec_f hI];refine tw h1 ?_;refine (l02Some_ok B 3 7).go hs o fun r s H _ ⟨c,e,_⟩ hs o=>?_;subst e;refine tt ?_;refine sw o.swap fun H o=>tt ?_;exact wkW_done ⟨s,c,rfl,hs,o.swap⟩
  ·refine tw h1 ?_;refine (l02Some_ok B 3 7).go hs o fun r s H _ ⟨c,e,_⟩ hs o=>?_;subst e;refine tt ?_;refine sw o.swap fun H o=>tt ?_;exact wkW_done ⟨s,c,rfl,hs,o.swap⟩
 rintro σ H ⟨s,c,rfl,hs,o⟩;refine tt ?_;refine rd_celln o.tl (by simp) ?_;refine tt ?_;refine (l19Draw_ok B c 3 (by omega)).go hs o fun r s H _ ⟨f,e⟩ hs o=>?_;subst e;refine tt ?_;refine nb o fun id7 H o=>tt ?_;refine sw o fun H o=>tt ?_;refine wk_ref 7 o rfl fun H o=>wkW_done ?_;refine tt ?_
 have o : Owns H0 H ((id,s.obj)::(id3,MObj.cells 7 [.int .i64 0,.nilsl,.nilsl,.nilsl,.nilsl,.nilsl,.nilsl] 0)::[(id2,MObj.cells 6 [.int .i64 0,.nilsl,.nilsl,.nilsl,.nilsl,.nilsl] 0)]):=o.swap.tl
 refine cut_mid (fun σ H=>σ=[(2,some (.ref id2 0)),(3,some (.ref id3 0)),(5,some (.ptr j.cells)),(7,some (.ptr f.cells))] ∧
  Owns H0 H ((id3,MObj.cells 7 [.int .i64 0,.nilsl,.nilsl,.nilsl,.nilsl,.nilsl,.nilsl] 0)::[(id2,MObj.cells 6 [.int .i64 0,.nilsl,.nilsl,.nilsl,.nilsl,.nilsl] 0)])) ?_ ?_
 rotate_left
 ·rintro σ H ⟨rfl,o⟩;refine tt ?_;refine sw o.swap fun H o=>tt ?_;refine sw o.swap fun H o=>tt ?_
  have hr3:=o.rc 7 0 (by simp)
  have hr2:=o.tl.rc 6 0 (by simp);simp only [List.drop_zero] at hr2 hr3;rw [hr2,hr3];exact rets_ret ⟨j,f,rfl⟩ o.sub
 refine tt ?_;refine (l01Next_ok B 4).go hs o fun r s H _ ⟨v,e,_⟩ hs o=>?_;subst e
 have o:=o.tl;refine tt ?_;apply bk <;> intro g4
 rotate_left
 ·refine tw g4 ?_;exact wkW_done ⟨rfl,o⟩
 refine tw g4 ?_;refine (l28Code_ok B j f).go fun _=>?_
 by_cases hz : codeF j f=0
 rotate_left
 ·refine tw g4 ?_;rw [decide_eq_false hz];refine tw g4 ?_;exact wkW_done ⟨rfl,o⟩
 obtain ⟨hF,hf,hsh,hcov⟩:=code_cov hz
 have hl:=l27Least_ok B j;rw [hz];rw [hsh] at hl;try simp only [go_sem,↓reduceIte,reduceEqDiff,reduceAdd,reduceMul,reduceLeDiff,reduceLT,g4,dTr']
 generalize leastL f.shape j.covers=V at *
 have hb:=l28Both_ok B f hf.1 V hcov
 obtain ⟨a1,a2,a3,a4,a5,a6,a7,a8,hA,k1⟩:=stepA8 f V
 obtain ⟨b1,b2,b3,b4,b5,b6,b7,b8,hB,k2⟩:=bothB8 f V;rw [hA,hB] at hb;refine ⟨_,hl.run, ?_⟩;refine ⟨_,hb.run,tt ?_⟩;refine ⟨?_, ?_⟩
 focus
  refine nb o fun id8 H o=>tt ?_;refine nb o fun id9 H o=>tt ?_;refine st_cells o.swap (by simp) (by (try simp only [go_sem]); (try simp)) k1 fun H o=>?_;simp only [wr_cons,wr_nil,List.set_cons_zero,List.set_cons_succ] at o;refine tt ?_;refine st_cells o.swap (by simp) (by (try simp only [go_sem]); (try simp)) k2 fun H o=>?_
 rotate_left 1
 focus
  refine nb o fun id9 H o=>tt ?_;refine nb o fun id8 H o=>tt ?_;refine st_cells o (by simp) (by (try simp only [go_sem]); (try simp)) k1 fun H o=>?_;simp only [wr_cons,wr_nil,List.set_cons_zero,List.set_cons_succ] at o;refine tt ?_;refine st_cells o.swap (by simp) (by (try simp only [go_sem]); (try simp)) k2 fun H o=>?_
 all_goals
  simp only [wr_cons,wr_nil,List.set_cons_zero,List.set_cons_succ] at o;refine tt ?_;refine wk_ref 9 o rfl fun H oN=>wkW_done ?_;refine tt ?_
  by_cases h2 : TwoFew f V
  ·rw [dec_t h2];rw [bothB,if_pos h2] at hB;simp only [stepCells,List.cons.injEq,and_true] at hB
   obtain ⟨rfl,rfl,rfl,rfl,rfl,rfl,rfl,rfl⟩:=hB
   have o:=oN;refine tt ?_;refine sw (o.pull [_,_]) fun H o=>tt ?_;refine sw (o.pull [_,_]) fun H o=>tt ?_
   have hr3:=o.rc 7 0 (by simp)
   have hr2:=o.tl.rc 6 0 (by simp);simp only [List.drop_zero] at hr2 hr3;rw [hr2,hr3];exact rets_ret ⟨j,stepSF (stepSF f V) V,rfl⟩ o.sub
  ·rw [dec_f h2];refine tt ?_;exact wkW_done ⟨rfl,oN.tl⟩
def PlacedQ (r : AV) : Prop:=∃ (f : SF) (x : Int) (s : List Int),r=.tup [.agg f.cells,iI x,iL s]
theorem l28Placed_ok (B : Nat) (code : List UInt8) : Rets B 81 [mL Go.AW.iB code] PlacedQ:=by
 intro H0;refine c81p.go fun _=>?_
 have o : Owns H0 H0 []:=.nil _;refine tt ?_;refine nb o fun id2 H o=>tt ?_;refine (l01From_ok B code _).mono' fun r H _ ⟨id,s,e,hs,o2⟩=>?_;subst e
 have o:=o.trans o2;refine tt ?_;refine (l02Some_ok B 3 8).go hs o fun r s H _ ⟨c,e,_⟩ hs o=>?_;subst e;refine tt ?_;refine newRef_own o fun id6 H o=>tt ?_;refine sw o fun H o=>tt ?_;refine wk_ref 6 o rfl fun H o=>wkW_done ?_;refine tt ?_;refine (l19Draw_ok B c 3 (by omega)).go hs o fun r s H _ ⟨f,e⟩ hs o=>?_;subst e;refine tt ?_;refine nb o fun id7 H o=>tt ?_;refine sw o fun H o=>tt ?_;refine wk_ref 7 o rfl fun H o=>wkW_done ?_;refine tt ?_;refine (l02Number_ok B c.objs).go hs o fun r s H _ ⟨x,e⟩ hs o=>?_;subst e;refine tt ?_;refine (l02Object_ok B c x).go fun _=>?_
 by_cases h1 : 0≤x∧x<c.objs
 rotate_left
 ·rw [dec_f h1];refine tt ?_;refine new_list iI o fun idb H o=>tt ?_;refine sw (o.pull [_,_]) fun H o=>tt ?_;refine fz_own o.swap rfl fun H o=>tt ?_
  have hr2:=o.rc 7 0 (by simp);simp only [List.drop_zero] at hr2;rw [hr2];exact rets_ret ⟨f,x,[],rfl⟩ o.sub
 rw [dec_t h1];refine tt ?_;refine (l25List_ok B c x).go hs o fun r s H _ ⟨l,e⟩ hs o=>?_;subst e;refine tt ?_;refine sw o.swap fun H o=>tt ?_
 have hr2:=o.rc 7 0 (by simp);simp only [List.drop_zero] at hr2;rw [hr2];exact rets_ret ⟨f,x,l,rfl⟩ o.sub
theorem l28Images_own (B : Nat) (f : SF) (s : List Int) (e : Int) (hs : ∀ a,a∈s→0≤a∧a.toNat<f.acts.length) (he0 : 0≤e) (he : ∀ a,a∈s→e.toNat<(ix f.acts a).length) (hsl : s.length≤1000) (H0 H : Heap) (r : List (Nat × MObj)) (o : Owns H0 H r) :
  CallH Tryz.prog B 86 [.agg f.cells,iL s,.int .i64 e] H (OwnK iI H0 r (·=imgs f s e)):=by
 refine c86p.go fun ⟨_,hf,_⟩=>?_;refine tt ?_;refine new_list iI o fun id H o=>tt ?_;refine awp_for [1,2,3] (G:=Nat × List (Int)) (fun k g=>[(7,some (.buf g.1 g.2.length)),(8,some (.int .i64 (k : Int)))]) (fun k g H=>g.2=((s.take k).map fun a=>ix (ix f.acts a) e)∧Owns H0 H ((g.1,.cells 1 (g.2.map iI) 0)::r)) s.length (id,[]) ⟨rfl,o⟩ rfl ?_;clear o
 rintro k ⟨id,out⟩ H hk ⟨hout,o⟩;dsimp only at hout o;refine tt ?_;apply bk <;> intro h1
 ·have h1:=of_decide h1
  have w1:=wsucc (k:=k) (by omega);refine tt ?_;refine ⟨h1,⟨(hs _ (mem_getD.mpr ⟨k,h1,rfl⟩)).1,(hs _ (mem_getD.mpr ⟨k,h1,rfl⟩)).2⟩,⟨he0,he _ (mem_getD.mpr ⟨k,h1,rfl⟩)⟩, ?_⟩;refine app_own (ix (ix f.acts (s.getD k default)) e) o rfl rfl (by rw [hout,List.length_map,List.length_take]; simp only [maxL]; omega) fun id H o=>?_;refine tw w1 ?_;exact for_next (_,_) (by omega) ⟨by rw [hout,take_map_succ s _ h1],o⟩ rfl
 ·have h1:=of_ndecide h1;refine tt ?_;exact own_ret o rfl (by rw [hout,show k=s.length by omega,List.take_length]; rfl)
def AmQ (r : AV) : Prop:=∃ (f : SF) (x : Int) (s t : List Int),r=.tup [.agg f.cells,iI x,iL s,iL t]
theorem drawAmal_ok (B : Nat) (code : List UInt8) : Rets B 21 [mL Go.AW.iB code] AmQ:=by
 intro H0;refine c21p.go fun _=>?_
 have o : Owns H0 H0 []:=.nil _;refine tt ?_;refine nb o fun id2 H o=>tt ?_;refine (l28Placed_ok B code).go fun r _ ⟨f,x,sv,e⟩=>?_;subst e;refine tt ?_;refine nb o fun id6 H o=>tt ?_;refine sw o fun H o=>tt ?_;refine wk_ref 6 o rfl fun H o=>wkW_done ?_;refine tt ?_;refine (l01From_ok B code _).mono' fun r H _ ⟨id,s,e,hs,o2⟩=>?_;subst e
 have o:=o.trans o2;refine tt ?_;refine new_list iI o fun id10 H o=>tt ?_
 have o:=o.swap
 refine cut_mid (fun σ H=>∃ (s : Src) (i : Nat) (l : List Int),σ=[(2,some (.ref id2 0)),(6,some (.ptr f.cells)),(7,some (iI x)),(8,some (iL sv)),(9,some (.ref id 0)),(10,some (.buf i l.length))]∧s.Ok∧l.length≤1000 ∧
  Owns H0 H ((id,s.obj)::(i,.cells 1 (l.map iI) 0)::[(id2,MObj.cells 7 [.int .i64 0,.nilsl,.nilsl,.nilsl,.nilsl,.nilsl,.nilsl] 0)])) ?_ ?_
 ·refine tt ?_;refine (l28Sieve_ok B f x sv).go fun _=>?_
  by_cases h0 : sieveC f x sv=0
  rotate_left
  ·refine tt ?_;rw [decide_eq_false h0];refine tt ?_;exact wkW_done ⟨s,id10,[],rfl,hs,by simp,o⟩
  obtain ⟨hf,hx,hsv⟩:=sieveC_z h0
  obtain ⟨g1,g2,g3,g4⟩:=sieve_glue hf hx hsv
  have hsl:=hsv.len
  have hml:=hf.1.is.1.m;rw [h0];try simp only [go_sem,↓reduceIte,reduceEqDiff,reduceAdd,reduceMul,reduceLeDiff,reduceLT,dTr']
  refine (l28Families_ok B f x sv hf.1 hsv 20 (by omega) (by omega)).go fun _=>?_
  have hL : ∀ t,t∈(famS f sv).take 20→t.length=sv.length:=fun t ht=>(((famS_is hf.1 hsv).mem t).mp (List.mem_of_mem_take ht)).len
  generalize (famS f sv).take 20=L at *;refine tt ?_
  refine cut_mid (fun σ H=>∃ (s : Src) (i : Nat) (l : List Int),σ=[(2,some (.ref id2 0)),(6,some (.ptr f.cells)),(7,some (iI x)),(8,some (iL sv)),(9,some (.ref id 0)),(10,some (.buf i l.length))]∧s.Ok∧l.length≤1000 ∧
   Owns H0 H ((id,s.obj)::(i,.cells 1 (l.map iI) 0)::[(id2,MObj.cells 7 [.int .i64 0,.nilsl,.nilsl,.nilsl,.nilsl,.nilsl,.nilsl] 0)])) ?_ ?_
  ·refine tt ?_;apply bk <;> intro h1
   ·have h1p : 0<L.length:=by have:=of_decide h1; omega
    refine tt ?_;refine (l01Next_ok B L.length).go hs o fun r s H _ ⟨v,e,hv0,hv1,_⟩ hs o=>?_;subst e
    have hv2:=hv1 (by omega);refine tt ?_;refine ⟨⟨hv0,by omega⟩, ?_⟩
    have hm : ix L v∈L:=ix_mem (by omega);refine (l01Own_own B (ix L v) H0 H _ o).own fun i A H o hA=>tt ?_
    have o : Owns H0 H ((id,s.obj)::(i,.cells 1 (A.map iI) 0)::[(id2,MObj.cells 7 [.int .i64 0,.nilsl,.nilsl,.nilsl,.nilsl,.nilsl,.nilsl] 0)]):=o.swap.subl (.cons_cons _ (.cons_cons _ (.cons _ (.refl _))));exact wkW_done ⟨s,i,A,rfl,hs,by rw [hA,hL _ hm]; omega,o⟩
   ·refine tt ?_;exact wkW_done ⟨s,id10,[],rfl,hs,by simp,o⟩
  rintro σ H ⟨s,i,l,rfl,hs,hll,o⟩;refine tt ?_;refine ⟨g1, ?_⟩;apply bk <;> intro h2
  rotate_left
  ·refine tw h2 ?_;exact wkW_done ⟨s,i,l,rfl,hs,hll,o⟩
  have h2p : 0<ix f.sizes x:=of_decide h2;refine tw h2 ?_;refine (l01Next_ok B 2).go hs o fun r s H _ ⟨v,e,_⟩ hs o=>?_;subst e;refine tw h2 ?_;apply bk <;> intro h3
  rotate_left
  ·refine tt ?_;exact wkW_done ⟨s,i,l,rfl,hs,hll,o⟩
  refine tt ?_;refine ⟨g1,tt ?_⟩;refine (l01Next_ok B (ix f.sizes x)).go hs o fun r s H _ ⟨v,e,hv0,hv1,_⟩ hs o=>?_;subst e
  have hv2:=hv1 (by omega);refine tt ?_;refine (l28Images_own B f sv v g3 hv0 (fun a ha=>by have:=g4 a ha; omega) (by omega) H0 H _ o).own fun i A H o hA=>tt ?_
  have o:=o.swap.subl (.cons_cons _ (.cons_cons _ (.cons _ (.refl _))));exact wkW_done ⟨s,i,A,rfl,hs,by rw [hA,imgs,List.length_map]; omega,o⟩
 rintro σ H ⟨s,i,l,rfl,hs,hll,o⟩
 refine cut_mid (fun σ H=>∃ (i : Nat) (l : List Int),σ=[(2,some (.ref id2 0)),(6,some (.ptr f.cells)),(7,some (iI x)),(8,some (iL sv)),(10,some (.buf i l.length))] ∧
  Owns H0 H ((i,.cells 1 (l.map iI) 0)::[(id2,MObj.cells 7 [.int .i64 0,.nilsl,.nilsl,.nilsl,.nilsl,.nilsl,.nilsl] 0)])) ?_ ?_
 rotate_left
 ·rintro σ H ⟨i,l,rfl,o⟩;refine tt ?_;refine sw o.swap fun H o=>tt ?_;refine fz_own o.swap rfl fun H o=>tt ?_
  have hr2:=o.rc 7 0 (by simp);simp only [List.drop_zero] at hr2;rw [hr2];exact rets_ret ⟨f,x,sv,l,rfl⟩ o.sub
 refine tt ?_;refine (l01Next_ok B 16).go hs o fun r s H _ ⟨v,e,_⟩ hs o=>?_;subst e;refine tt ?_;apply bk <;> intro h1
 ·refine tt ?_;refine app_own 0 o.tl rfl rfl (by simp only [maxL]; omega) fun i H o=>tt ?_;exact wkW_done ⟨i,_,rfl,o⟩
 refine tt ?_;apply bk <;> intro h2
 rotate_left
 ·refine tt ?_;exact wkW_done ⟨i,l,rfl,o.tl⟩
 refine tt ?_;apply bk <;> intro h3
 rotate_left
 ·refine tt ?_;exact wkW_done ⟨i,l,rfl,o.tl⟩
 have h3p : 0<l.length:=by have:=of_decide h3; omega
 refine tt ?_;refine (l02Number_ok B 3).go hs o fun r s H _ ⟨k,e⟩ hs o=>?_;subst e;refine tt ?_;refine ⟨by omega, ?_⟩;refine set_own k o.tl rfl h3p fun H o=>tt ?_;exact wkW_done ⟨i,l.set 0 k,by rw [List.length_set],o⟩
def lensOf (L : List (List (List Int))) : List Int:=L.map fun l=>(l.length : Int)
open Classical in
noncomputable def clsOr (c : Cat) : AV:=if AllFew c then .ptr (clsCells c (listsOf c) (iL (lensOf (listsOf c))) (iLL (pullsOf c (listsOf c)))) else .nilp
def SievesOk (B : Nat) (c : Cat) : Prop:=∀ x : Nat,x<c.objs.toNat→∃ l,Pur Tryz.prog B 334 [.ptr c.cells,.int .i64 x] (.tup [iLL l,.bool (dec (Few c x))])∧(Few c x→l=allS c x∧l.length≤16)
theorem classifier_ok (B : Nat) (c : Cat) (hc : c.Is) (hsv : SievesOk B c) : Pur Tryz.prog B 323 [.ptr c.cells] (.tup [clsOr c,.bool (dec (AllFew c))]):=by
 refine ⟨fun H0=>c323p.go fun hfi=>?_⟩
 have hm:=hc.1.m
 have hob:=hc.1.o
 have htl:=hc.1.tol;refine tt ?_;refine (catCopy_ok B c).go fun _=>tt ?_
 let st : AV→AV→AV→MObj:=fun x5 x6 x7=>.cells 8 [iI c.objs,iL c.frm,iL c.to,iL c.idn,iLL c.comp,x5,x6,x7] 0
 refine nb (.nil _) fun id4 H o=>tt ?_
 refine awp_for [0,4] (G:=(AV × AV) × List (Nat × MObj)) (fun k g=>[(5,some (.int .i64 (k : Int)))])
  (fun k g H=>LsO iLL H0 H ((id4,st g.1.1 .nilsl g.1.2)::(g.2++[])) g.1.2 ((List.range k).map fun x : Nat=>allS c (x : Int))∧LsP iI g.2 g.1.1 (lensOf ((List.range k).map fun x : Nat=>allS c (x : Int)))∧∀ x : Nat,x<k→Few c x)
  c.objs.toNat ((.nilsl,.nilsl),[]) ⟨.inl ⟨rfl,rfl,o⟩,.inl ⟨rfl,rfl,rfl⟩,by simp⟩ rfl ?_
 clear o
 rintro k ⟨⟨X5,X7⟩,p5⟩ H hk ⟨hX,h5,hall⟩;dsimp only at hX h5;refine tt ?_;apply bk <;> intro h1
 ·have h1p:=of_decide h1
  have w:=wsucc (k:=k) (by omega)
  obtain ⟨l,hl,hl2⟩:=hsv k (by omega);refine tt ?_;refine hl.go fun _=>tt ?_
  by_cases hfw : Few c k
  ·rw [dec_t hfw]
   obtain ⟨rfl,hl16⟩:=hl2 hfw;refine tt ?_
   obtain ⟨Lk,hLk⟩ : ∃ Lk,Lk=(List.range (k+1)).map fun x : Nat=>allS c (x : Int):=⟨_,rfl⟩
   have e7 : ((List.range k).map fun x : Nat=>allS c (x : Int))++[allS c k]=Lk:=by rw [hLk,List.range_succ,List.map_append]; rfl
   have e5 : lensOf ((List.range k).map fun x : Nat=>allS c (x : Int))++[((allS c k).length : Int)]=lensOf Lk:=by
    rw [← e7,lensOf,lensOf,List.map_append]; rfl
   have hLl : Lk.length=k+1:=by rw [hLk]; simp
   have hll : (lensOf Lk).length=k+1:=by rw [lensOf,List.length_map,hLl]
   refine tt ?_;refine rd_get hX.obj (by simp [st]) ?_;refine tt ?_;refine hX.app (allS c k) rfl (by simp only [List.length_map,List.length_range,maxL]; omega) fun idn H o=>?_;rw [e7] at o ⊢;refine tt ?_;refine sw o.swap fun H o=>?_
   have hX : LsO iLL H0 H ((id4,st X5 .nilsl (.buf idn Lk.length))::(p5++[])) (.buf idn Lk.length) Lk:=.inr ⟨idn,rfl,o.swap⟩
   generalize (AV.buf idn Lk.length)=X7 at hX;clear o
   obtain ⟨p7,h7,hX⟩:=hX.focus h5;rw [List.nil_append] at hX;refine tt ?_;refine rd_get hX.obj (by simp [st]) ?_;refine tt ?_;refine hX.app ((allS c k).length : Int) rfl (by simp only [lensOf,List.length_map,List.length_range,maxL]; omega) fun idn H o=>?_;rw [e5] at o ⊢;refine tt ?_;refine sw o.swap fun H o=>?_
   have hX : LsO iI H0 H ((id4,st (.buf idn (lensOf Lk).length) .nilsl X7)::p7) (.buf idn (lensOf Lk).length) (lensOf Lk):=.inr ⟨idn,rfl,o.swap⟩
   generalize (AV.buf idn (lensOf Lk).length)=X5 at hX;clear o;rw [← List.append_nil p7] at hX
   obtain ⟨p5,h5,hX⟩:=hX.focus h7;rw [hLk] at hX h5;rw [List.nil_append,← List.append_nil p5] at hX;refine tw w ?_;refine for_next ((X5,X7),p5) (by omega) ⟨hX,h5,fun x hx=>?_⟩ rfl
   by_cases e : x=k
   ·subst e; exact hfw
   ·exact hall x (by omega)
  ·rw [dec_f hfw];refine tt ?_
   have hno : ¬ AllFew c:=fun e=>hfw (e k (by omega))
   have hsub : H0.sub H:=by obtain ⟨_,oo,_⟩:=hX.split; exact oo.sub
   refine pure_ret ?_ hsub;rw [clsOr,if_neg hno,dec_f hno]
 ·have h1p:=of_ndecide h1;refine tt ?_
  have hkn : k=c.objs.toNat:=by omega
  have hfew : AllFew c:=fun x hx=>hall x (by omega);rw [clsOr,if_pos hfew,dec_t hfew]
  have hLk : ((List.range k).map fun x : Nat=>allS c (x : Int))=listsOf c:=by rw [hkn]; rfl
  have tab:=tabOk hc hfew;rw [hLk] at hX h5
  generalize hL : listsOf c=L at *;refine wk_ls 7 hX rfl fun H o=>?_;clear hX;simp only [List.set_cons_zero,List.set_cons_succ] at o
  have hX:=LsO.mk (o.perm List.perm_middle.symm) h5;clear o;refine wk_ls 5 hX rfl fun H o=>wkW_done ?_;clear hX;simp only [List.set_cons_zero,List.set_cons_succ] at o
  generalize hst : st=st2;clear hall h5 hst st2 st
  let st : AV→MObj:=fun x6=>.cells 8 [iI c.objs,iL c.frm,iL c.to,iL c.idn,iLL c.comp,iL (lensOf L),x6,iLLL L] 0
  have hLl:=tab.len;refine tt ?_
  refine awp_for [0,4,60] (G:=AV) (fun a g=>[(61,some (.int .i64 (a : Int)))])
   (fun a X H=>LsO iL H0 H [(id4,st X)] X ((List.range a).map (rowP c L))) c.frm.length .nilsl (.inl ⟨rfl,rfl,o⟩) rfl ?_
  clear o
  rintro a X H ha hX
  replace hX : LsO iL H0 H [(id4,st X)] X ((List.range a).map (rowP c L)):=hX;refine tt ?_;apply bk <;> intro h2
  ·have h2p:=of_decide h2
   have w2:=wsucc (k:=a) (by omega)
   have haa : 0≤(a : Int)∧(a : Int).toNat<c.frm.length:=⟨by omega,by simpa using h2p⟩
   have hfo:=hc.1.frmObj haa.2
   have hto:=hc.1.toObj haa.2;simp only [ix_nat] at hfo hto
   obtain ⟨q,o,hq⟩:=hX.split;clear hX;refine tt ?_;refine new_list iI o fun idr H o=>?_
   have hg4 : H.get id4=some (st X):=o.get (id4,st X) (by simp);refine tt ?_;refine rd_get hg4 (by simp [st]) ?_;refine tt ?_;refine ⟨h2p,⟨hfo.1,by omega⟩, ?_⟩
   have hF0 : ix L (c.frm.getD a default)=L.getD (c.frm.getD a default).toNat default:=rfl
   have hfw:=tab.few (c.frm.getD a default).toNat (by omega)
   have hrow : rowP c L a=(L.getD (c.frm.getD a default).toNat default).map fun s=>indexOf (ix L (c.to.getD a default)) (pullS c a s):=rfl;rw [hF0]
   generalize hF : L.getD (c.frm.getD a default).toNat default=F at *
   refine awp_for [0,4,8,60,61,77,78] (G:=Nat × List Int) (fun i g=>[(9,some (.buf g.1 g.2.length)),(79,some (.int .i64 (i : Int)))])
    (fun i g H=>g.2=(F.take i).map (fun s=>indexOf (ix L (c.to.getD a default)) (pullS c a s))∧Owns H0 H ((g.1,.cells 1 (g.2.map iI) 0)::(q++[(id4,st X)]))) F.length (idr,[]) ⟨by simp,o⟩ rfl ?_
   clear o hg4
   rintro i ⟨idr,row⟩ H hi ⟨hr,o⟩;dsimp only at hr o
   have hrl : row.length=i:=by rw [hr,List.length_map,List.length_take]; omega
   have hg4 : H.get id4=some (st X):=o.get (id4,st X) (by simp);refine tt ?_;apply bk <;> intro h3
   ·have h3p:=of_decide h3
    have w3:=wsucc (k:=i) (by omega);refine tt ?_;refine ⟨h3p,by omega,_,(pull_ok B c hc.1 a haa (F.getD i default)).run,tt ?_⟩;refine CallH.lentPure (es:=[.ptr (clsCells c L (iL (lensOf L)) X),.int .i64 (c.to.getD a default),iL (pullS c a (F.getD i default))]) (.int _ _) rfl (fun j hj=>?_) (number_ok B c L (iL (lensOf L)) X (c.to.getD a default) ⟨hto.1,by omega⟩ _).run ?_
    ·obtain rfl | rfl | rfl : j=0∨j=1∨j=2:=by simp only [List.length_cons,List.length_nil] at hj; omega
     ·exact (Tr.ref id4 8 0 _ _ hg4 rfl fun i _=>.val _).arg
     ·exact val_arg _
     ·exact val_arg _
    refine tt ?_;refine app_own (f:=iI) (indexOf (ix L (c.to.getD a default)) (pullS c a (F.getD i default))) o rfl rfl (by simp only [maxL]; omega) fun idr H o=>?_;refine tw w3 ?_;exact for_next (_,_) (by omega) ⟨by rw [take_succ_getD F h3p,List.map_append,hr]; rfl,o⟩ rfl
   ·have h3p:=of_ndecide h3
    obtain rfl : i=F.length:=by omega
    rw [List.take_length,← hrow] at hr;refine tt ?_;refine fz_own o rfl fun H o=>tt ?_
    have hX : LsO iL H0 H [(id4,st X)] X ((List.range a).map (rowP c L)):=LsO.mk o hq;clear o;refine rd_get hX.obj (by simp [st]) ?_;refine tt ?_;refine hX.app row rfl (by simp only [List.length_map,List.length_range,maxL]; omega) fun idn H o=>tt ?_;refine sw o.swap fun H o=>?_
    have e7 : (List.range a).map (rowP c L)++[row]=(List.range (a+1)).map (rowP c L):=by rw [List.range_succ,List.map_append,hr]; rfl
    have hX : LsO iL H0 H [(id4,st (.buf idn ((List.range a).map (rowP c L)++[row]).length))] (.buf idn ((List.range a).map (rowP c L)++[row]).length) ((List.range a).map (rowP c L)++[row]):=.inr ⟨idn,rfl,o.swap⟩
    generalize (AV.buf idn ((List.range a).map (rowP c L)++[row]).length)=X7 at hX;rw [e7] at hX;refine tw w2 ?_;exact for_next X7 (by omega) hX rfl
  ·have h2p:=of_ndecide h2
   obtain rfl : a=c.frm.length:=by omega
   refine tt ?_;refine wk_ls 6 hX rfl fun H o=>?_;simp only [List.set_cons_zero,List.set_cons_succ] at o;refine wk_ref 4 o rfl fun H o=>wkW_done ?_;refine tt ?_;exact pure_ret rfl o.sub
end Go.Proofs.Shf
namespace Go.AW
open Go.Proofs Go.Proofs.Shf Go.Shf Go.RowKit
theorem WRel.other {g : Gh} {B : Nat} {H : Heap} {w w' : World} (h : WRel g B H w) (b : Nat) (hfz : ∀ o,g.fz b o=none) (hfm : g.fm b=none) (hk : ∀ k,k≠b→k<w.heap.size→w'.heap[k]? = w.heap[k]?) : WRel g w'.heap.size [] w':=by
 constructor
 ·intro b' o v e
  have hl:=h.fz_lt e
  have hne : b'≠b:=by rintro rfl; rw [hfz] at e; cases e
  rw [World.cell?_of_block (w:=w) (a:=⟨b',o,none⟩) (hk b' hne hl)]; exact h.fz _ _ _ e
 ·intro b' es e
  have hl:=h.fm_lt e
  have hne : b'≠b:=by rintro rfl; rw [hfm] at e; cases e
  obtain ⟨clk,hc⟩:=h.fm _ _ e;exact ⟨clk,by rw [hk b' hne hl]; exact hc⟩
 ·intro i o e; cases e
 ·intro i j x c c' n e1; cases e1
 ·intro i j x n e1; cases e1
 ·exact Nat.le_refl _
 ·exact h.fin
theorem row_heap {α : Type} [Inhabited α] (enc : α→Value) (w : World) (b off m : Nat) (dk : Array α) (os : Array Obj) : (Sort.grow (Sort.putRow enc (Sort.ahead w m) b off dk) os).heap=(w.heap.modify b (Sort.onCells (Sort.putCells enc off dk)))++os:=rfl
theorem row_other {α : Type} [Inhabited α] (enc : α→Value) (w : World) (b off m : Nat) (dk : Array α) (os : Array Obj) (k : Nat) (hk : k≠b) (hl : k<w.heap.size) : (Sort.grow (Sort.putRow enc (Sort.ahead w m) b off dk) os).heap[k]? = w.heap[k]? := by
 rw [row_heap,Array.getElem?_append_left (by simpa using hl),Array.getElem?_modify,if_neg (by omega)]
theorem below_grow {W w' : World} (h : Below W.heap.size W w') : ∃ q os',w'=Sort.grow (W.drewN q) os':=by
 refine ⟨w'.drawn - W.drawn,w'.heap.extract W.heap.size w'.heap.size, ?_⟩
 have hh : w'.heap=W.heap++w'.heap.extract W.heap.size w'.heap.size:=by
  apply Array.ext_getElem?
  intro k
  by_cases hk : k<W.heap.size
  ·rw [Array.getElem?_append_left hk]; exact h.block k hk
  ·rw [Array.getElem?_append_right (by omega),Array.getElem?_extract]
   have:=h.size
   by_cases h2 : k<w'.heap.size
   ·rw [if_pos (by omega)]; congr 1; omega
   ·rw [if_neg (by omega),Array.getElem?_eq_none (by omega)]
 have hd:=h.drawn
 have h1:=h.os
 have h2:=h.tape
 have h3:=h.output
 have e : ∀ (a b : World),a.heap=b.heap→a.tape=b.tape→a.drawn=b.drawn→a.os=b.os→a.output=b.output→a=b:=by
  intro a b h1 h2 h3 h4 h5
  cases a; cases b;simp only at h1 h2 h3 h4 h5;subst h1 h2 h3 h4 h5; rfl
 refine e _ _ hh h2 ?_ h1 h3
 show w'.drawn=W.drawn+(w'.drawn - W.drawn)
 omega
theorem cmp_lays {g : Gh} {B : Nat} {H : Heap} {w : World} (h : WRel g B H w) (S : Nat→List Int) (b size : Nat) (hfz : ∀ o,g.fz b o=none) (hfm : g.fm b=none) {α : Type} [Inhabited α] (nm : α→Nat) (enc : α→Value) (hv : ∀ x,VRel g (iL (S (nm x))) (enc x)) :
  ∀ (m : Nat) (os : Array Obj) (dk : Array α),dk.size=size→∀ x y : α,
  Calls Tryz.prog 344 (#[enc x,enc y]++#[]) (Sort.grow (Sort.putRow enc (Sort.ahead w m) b 0 dk) os) fun e w'=>e=.returned (.int .i64 (cmp (S (nm x)) (S (nm y))))∧∃ q os',w'=Sort.grow ((Sort.grow (Sort.putRow enc (Sort.ahead w m) b 0 dk) os).drewN q) os':=by
 intro m os dk hs x y
 have hW:=h.other b hfz hfm fun k hk hl=>row_other enc w b 0 m dk os k hk hl
 generalize (Sort.grow (Sort.putRow enc (Sort.ahead w m) b 0 dk) os)=W at hW ⊢
 have hc:=(cmp2_ok W.heap.size (S (nm x)) (S (nm y))).run [];refine (hc.2 g W _ hW ⟨rfl,fun i hi=>?_⟩).mono ?_
 ·obtain rfl | rfl : i=0∨i=1:=by simp only [List.length_cons,List.length_nil] at hi; omega
  ·exact hv x
  ·exact hv y
 rintro e w' ⟨v,rfl,g',r,H',_,⟨rfl,rfl⟩,hv2,_,hb⟩
 cases hv2;exact ⟨rfl,below_grow hb⟩
end Go.AW
namespace Go.AW
open Go.Proofs Go.Proofs.Shf Go.Shf Go.RowKit
theorem WRel.sorted {g : Gh} {B : Nat} {H : Heap} {w : World} (h : WRel g B H w) {id b cap : Nat} {cs cs' : List AV} {c : Array Value} {el : TypeId} {α : Type} [Inhabited α] (enc : α→Value) (dk : Array α)
  (hi : H.get id=some (.cells 1 cs 0)) (hp : g.io id=some (.blk b cap)) (hb : w.heap[b]? = some (.cells c el (0,0))) (hd : dk.size=cs.length) (hl : cs'.length=cs.length)
  (hv : ∀ k,k<cs'.length→VRel g (cs'.getD k nv) (enc dk[k]!)) (n : Nat) (os : Array Obj) :
  WRel g B (H.set id (.cells 1 cs' 0)) (Sort.grow (Sort.putRow enc (Sort.ahead w n) b 0 dk) os)∧Below B w (Sort.grow (Sort.putRow enc (Sort.ahead w n) b 0 dk) os):=by
 obtain ⟨p,hp',hr⟩:=h.ob id _ hi;rw [hp] at hp'; cases hp';simp only [ObjRel] at hr
 obtain ⟨h1,h2,h3,h4,c0,el0,h5,h6,h7,h8⟩:=hr;rw [hb] at h5; cases h5
 have hbl : b<w.heap.size:=(Array.getElem?_eq_some_iff.1 hb).1
 have hsz : (Sort.putRow enc w b 0 dk).heap.size=w.heap.size:=by simp [Sort.putRow,Sort.mapBlock]
 have hc' : (Sort.putRow enc w b 0 dk).heap[b]? = some (.cells (Sort.putCells enc 0 dk c) el (0,0)):=by
  show (w.heap.modify b _)[b]? = _
  rw [Array.getElem?_modify,if_pos rfl,hb]; rfl
 have hcs : (Sort.putCells enc 0 dk c).size=c.size:=by simp [Sort.putCells]
 have hcell : ∀ k,k<dk.size→(Sort.putCells enc 0 dk c).getD k undef=enc dk[k]! := by
  intro k hk
  have hk2 : k<c.size:=by omega
  have hk3 : k<(Sort.putCells enc 0 dk c).size:=by omega
  simp only [Array.getD,hk3,dif_pos]
  simp [Sort.putCells,hk]
 have hW:=h.write id b cap 1 cs cs' 0 c (Sort.putCells enc 0 dk c) el hi hp hb hc' hsz (fun k hk=>by
  show (w.heap.modify b _)[k]? = _
  rw [Array.getElem?_modify,if_neg (by omega)]) hcs (by omega) (by omega) (by omega) (by omega) fun k hk=>by
   rw [hcell k (by omega)]; exact hv k hk
 have hsame : ∀ k,k<w.heap.size→(Sort.grow (Sort.putRow enc (Sort.ahead w n) b 0 dk) os).heap[k]? = (Sort.putRow enc w b 0 dk).heap[k]? := by
  intro k hk;rw [row_heap,Array.getElem?_append_left (by simpa using hk)]; rfl
 refine ⟨hW.grow ?_ fun k hk=>hsame k (by omega),rfl,rfl,rfl, ?_,fun k hk=>?_, ?_⟩
 ·rw [row_heap,hsz]; simp
 ·rw [row_heap]; simp
 ·rw [hsame k (by omega)]
  show (w.heap.modify b _)[k]? = _
  rw [Array.getElem?_modify,if_neg (by omega)]
 ·show w.drawn≤w.drawn+n
  omega
end Go.AW
namespace Go.AW
open Go.Proofs Go.Proofs.Shf Go.Shf Go.RowKit
def LibSort (n : Nat) [Inhabited (Fin n)] (cf : Fin n→Fin n→Int) : Prop :=
 ∀ (b cap : Nat) (w : World) (enc : Fin n→Value),(∀ x,(enc x).oneCell'=true) →
  (∀ (m : Nat) (os : Array Obj) (dk : Array (Fin n)),dk.size=(Array.ofFn fun i : Fin n=>i).size→∀ x y : Fin n,
   Calls Tryz.prog 344 (#[enc x,enc y]++#[]) (Sort.grow (Sort.putRow enc (Sort.ahead w m) b 0 dk) os) fun e w'=>e=.returned (.int .i64 (cf x y))∧∃ q os',w'=Sort.grow ((Sort.grow (Sort.putRow enc (Sort.ahead w m) b 0 dk) os).drewN q) os') →
  Sort.Holds enc w b 0 (Array.ofFn fun i : Fin n=>i)→b<w.heap.size →
  Calls Tryz.prog 343 #[.slice (some ⟨b,0,none⟩) (Array.ofFn fun i : Fin n=>i).size cap,.func (.func 344) #[] #[]] w fun e w' =>
   e=.returned (.tuple #[])∧∃ d' m os,Sort.PermIn 0 (Array.ofFn fun i : Fin n=>i).size (Array.ofFn fun i : Fin n=>i) d'∧Sort.SortedIn (fun x y=>decide (cf x y<0)) 0 (Array.ofFn fun i : Fin n=>i).size d'∧w'=Sort.grow (Sort.putRow enc (Sort.ahead w m) b 0 d') os
theorem sl_one {g : Gh} {l : List AV} {u : Value} (h : VRel g (.sl l) u) : u.oneCell'=true:=by
 cases h <;> rfl
theorem sort_own (B : Nat) (S : List (List Int)) [Inhabited (Fin S.length)] (nd : S.Nodup) (hlib : LibSort S.length fun x y=>cmp (S.getD x default) (S.getD y default)) (hent : Enters Tryz.prog 343) {H0 H : Heap} {l : List (Nat × MObj)} {id : Nat} {K : Kont}
  (o : Owns H0 H ((id,.cells 1 (S.map iL) 0)::l)) (hk : ∀ (H' : Heap) (S' : List (List Int)),S'.Perm S→(S'.Pairwise fun s t=>cmp s t<0)→Owns H0 H' ((id,.cells 1 (S'.map iL) 0)::l)→K (.tup []) H') :
  CallH Tryz.prog B 343 [.buf id S.length,.fn (.func 344) []] H K:=by
 refine ⟨hent,fun g w vs hW hv=>?_⟩
 have hS0 : 0<S.length:=(default : Fin S.length).pos
 have h0:=o.h0;simp only at h0
 obtain ⟨p,hp,hr⟩:=hW.ob id _ h0
 cases p with
 | nil=>simp only [ObjRel] at hr; have:=hr.1; simp at this; rw [this] at hS0; simp at hS0
 | mp b=>simp [ObjRel] at hr
 | blk b cap =>
  simp only [ObjRel] at hr
  obtain ⟨r1,r2,r3,r4,c,el,r5,r6,r7,r8⟩:=hr;rw [List.length_map] at r7 r8
  obtain ⟨hv0,hv1⟩:=hv
  obtain ⟨v0,v1,rfl⟩ : ∃ v0 v1,vs=#[v0,v1]:=by
   rcases vs with ⟨l⟩
   simp only [List.length_cons,List.length_nil] at hv0
   match l,hv0 with
   | [a,b],_=>exact ⟨a,b,rfl⟩
  have e0 : VRel g (.buf id S.length) v0:=hv1 0 (by simp)
  have e1 : VRel g (.fn (.func 344) []) v1:=hv1 1 (by simp)
  have hv0' : ∃ cap',v0=.slice (some ⟨b,0,none⟩) S.length cap':=by
   generalize hn : S.length=n at *
   cases e0 with
   | bufnil _ hq=>rw [hq] at hp; cases hp
   | buf _ _ b' cap' hq=>rw [hq] at hp; cases hp; exact ⟨_,rfl⟩
  obtain ⟨cap',rfl⟩:=hv0'
  have hv1' : v1=.func (.func 344) #[] #[]:=by
   cases e1 with
   | fn _ _ vs hs _ =>
    have : vs=#[]:=Array.eq_empty_of_size_eq_zero (by simpa using hs);rw [this]
  subst hv1'
  have hsz : (Array.ofFn fun i : Fin S.length=>i).size=S.length:=by simp
  have hbl : b<w.heap.size:=(Array.getElem?_eq_some_iff.1 r5).1
  have hfm : g.fm b=none:=by
   cases e : g.fm b with
   | none=>rfl
   | some es=>obtain ⟨clk,h⟩:=hW.fm _ _ e; rw [r5] at h; cases h
  have henc : ∀ x : Fin S.length,VRel g (iL (S.getD x default)) (c.getD x undef):=fun x=>by
   have:=r8 x x.2; rw [getD_map S x.2] at this; exact this
  have hl:=hlib b cap' w (fun x=>c.getD x undef) (fun x=>by
   have:=henc x;exact sl_one this) (cmp_lays hW (fun i=>S.getD i default) b _ (fun o=>r4 o (Nat.zero_le _)) hfm (fun x : Fin S.length=>x.val) _ henc) (fun j hj=>?_) hbl
  ·rw [hsz] at hl;refine hl.mono ?_
   rintro e w' ⟨rfl,d',m,os,hp2,hs2,rfl⟩
   have hd' : d'.size=S.length:=by rw [hp2.1,hsz]
   have hperm : d'.toList.Perm (Array.ofFn fun i : Fin S.length=>i).toList:=by
    have:=hp2.2.2;rw [Array.extract_eq_self_of_le (by omega),Array.extract_eq_self_of_le (by omega)] at this;exact this
   have hmap : (Array.ofFn fun i : Fin S.length=>i).toList.map (fun i : Fin S.length=>S.getD i default)=S:=by
    apply List.ext_getElem (by simp)
    intro i h1 h2
    simp [List.getD_eq_getElem?_getD,h2]
   have hSp : (d'.toList.map fun i : Fin S.length=>S.getD i default).Perm S:=by
    have:=hperm.map fun i : Fin S.length=>S.getD i default
    rwa [hmap] at this
   have hget : ∀ k (hk : k<d'.size),d'[k]! = d'[k]:=fun k hk=>getElem!_pos d' k hk
   have hpw : (d'.toList.map fun i : Fin S.length=>S.getD i default).Pairwise fun s t=>cmp s t<0:=by
    rw [List.pairwise_iff_getElem]
    intro i j hi hj hij;rw [List.length_map,Array.length_toList] at hi hj
    have h1:=hs2 i j (Nat.zero_le _) hij (by omega);rw [hget i hi,hget j hj] at h1
    have h2 : ¬ cmp (S.getD d'[j] default) (S.getD d'[i] default)<0:=of_decide_eq_false h1
    have hne:=(hSp.nodup_iff.mpr nd);rw [List.nodup_iff_pairwise_ne,List.pairwise_iff_getElem] at hne
    have h3:=hne i j (by simpa using hi) (by simpa using hj) hij;simp only [List.getElem_map,Array.getElem_toList] at h3 ⊢
    have h4:=cmp_neg (S.getD d'[i] default) (S.getD d'[j] default)
    have h5 : cmp (S.getD d'[i] default) (S.getD d'[j] default)≠0:=fun e=>h3 (cmp_zero.mp e)
    show cmp (S.getD d'[i] default) (S.getD d'[j] default)<0
    generalize cmp (S.getD d'[i] default) (S.getD d'[j] default)=A at *
    generalize cmp (S.getD d'[j] default) (S.getD d'[i] default)=C at *;omega
   obtain ⟨q1,q2⟩:=hW.sorted (fun x : Fin S.length=>c.getD x undef) d' h0 hp r5 (by rw [hd']; simp) (cs':=(d'.toList.map fun i : Fin S.length=>S.getD i default).map iL) (by simp [hd']) (fun k hk=>by
    rw [List.length_map,List.length_map,Array.length_toList] at hk;rw [hget k hk]
    have : ((d'.toList.map fun i : Fin S.length=>S.getD i default).map iL).getD k nv=iL (S.getD d'[k] default):=by simp [List.getD_eq_getElem?_getD,hk]
    rw [this]; exact henc _) m os
   exact ⟨_,rfl,g,.tup [],_,.refl g,hk _ _ hSp hpw (o.put _),.tup [] #[] rfl (by simp),q1,q2⟩
  ·rw [hsz] at hj
   have hjc : j<c.size:=by omega
   refine ⟨?_, ?_⟩
   ·simp [World.cell?,r5,hjc,hj]
   ·simp [World.frozen?,r5]
end Go.AW
namespace Go.Proofs.Shf
open Go.AW Go.Proofs Go.Shf
theorem closeS_nil {c : Cat} {x : Int} : c.Sieve x []:=⟨by simp [Rising],by simp,by simp,by simp⟩
structure WorkL (c : Cat) (x : Int) (S : List (List Int)) (k j : Nat) : Prop where
 z : []∈S
 nd : S.Nodup
 sv : ∀ t,t∈S→c.Sieve x t
 dn : ∀ i,i<k→∀ a,a∈outs c x→closeS c (S.getD i default++[a])∈S
 pt : ∀ i,i<j→i<(outs c x).length→closeS c (S.getD k default++[(outs c x).getD i default])∈S
def LibSorts : Prop:=Go.AW.Enters Tryz.prog 343∧∀ (S : List (List Int)) [Inhabited (Fin S.length)],S.length≤16→LibSort S.length fun x y=>cmp (S.getD x default) (S.getD y default)
open Classical in
theorem sieves_ok (B : Nat) (hlib : LibSorts) (c : Cat) (hc : c.Is) (x : Nat) (hx : x<c.objs.toNat) : Pur Tryz.prog B 334 [.ptr c.cells,.int .i64 x] (.tup [iLL (if Few c x then allS c x else []),.bool (dec (Few c x))]):=by
 refine ⟨fun H0=>c334p.go fun hfi=>?_⟩
 have hm:=hc.1.m
 have hob:=hc.1.o
 have htl:=hc.1.tol
 have hLl : (outs c x).length≤40:=by
  rw [outs,List.length_map];refine Nat.le_trans (List.length_filter_le _ _) ?_;rw [List.length_range]; omega
 have hLm : ∀ a,a∈outs c x→(0≤a∧a.toNat<c.frm.length)∧ix c.frm a=x:=fun a ha=>by have:=mem_outs.mp ha; exact ⟨⟨this.1,this.2.1⟩,this.2.2⟩
 refine tt ?_;refine newBuf_own (.nil _) fun id6 H o=>tt ?_
 refine awp_while [0,1] (fun (g : Nat × List (List Int) × Nat)=>[(6,some (.buf g.1 g.2.1.length)),(7,some (.int .i64 (g.2.2 : Int)))])
  (fun m g H=>m=16 - g.2.2∧g.2.2≤g.2.1.length∧g.2.1.length≤16∧WorkL c x g.2.1 g.2.2 0∧Owns H0 H [(g.1,.cells 1 (g.2.1.map iL) 0)]) 16 (id6,[[]],0)
  ⟨rfl,by simp,by simp,⟨by simp,by simp,fun t ht=>by
   rw [List.mem_singleton] at ht; subst ht;exact closeS_nil,by simp,by simp⟩,o⟩ rfl ?_
 clear o
 rintro m ⟨id6,S,k⟩ H ⟨rfl,hkl,hS16,hW,o⟩;dsimp only at hkl hS16 hW o;refine tt ?_;apply bk <;> intro h1
 ·have h1p:=of_decide h1
  have w:=wsucc (k:=k) (by omega);refine tt ?_;refine (outOf_ok B c x).go fun _=>?_
  generalize hL : outs c x=L at *;refine tt ?_
  refine awp_for [0,1,7,21,22] (G:=Nat × List (List Int)) (fun j g=>[(6,some (.buf g.1 g.2.length)),(23,some (.int .i64 (j : Int)))])
   (fun j g H=>k<g.2.length∧g.2.length≤16∧WorkL c x g.2 k j∧Owns H0 H [(g.1,.cells 1 (g.2.map iL) 0)]) L.length (id6,S) ⟨h1p,hS16,hW,o⟩ rfl ?_
  clear o hkl hS16 hW h1 h1p
  rintro j ⟨id6,S⟩ H hj ⟨hkl,hS16,hW,o⟩;dsimp only at hkl hS16 hW o;refine tt ?_;apply bk <;> intro h2
  ·have h2p:=of_decide h2
   have w2:=wsucc (k:=j) (by omega);refine tt ?_;refine ⟨h2p,hkl,rd_inner (f:=iL) o.h0 hkl ?_⟩
   generalize ha : L.getD j default=a at *
   generalize ht : S.getD k default=t at *
   have htm : t∈S:=by rw [← ht]; exact mem_getD.mpr ⟨k,hkl,rfl⟩
   have ham : a∈L:=by rw [← ha]; exact mem_getD.mpr ⟨j,h2p,rfl⟩
   have hts:=hW.sv t htm
   have htl2:=hts.len;refine tt ?_;refine (clone_own B t H0 H _ o).own fun idc A H o hA=>?_;rw [hA] at o ⊢;refine tt ?_;refine app_own (f:=iI) a o rfl rfl (by simp only [maxL]; omega) fun idc H o=>tt ?_;refine call_fz 1 rfl o rfl fun H o=>tt ?_
   have hta : ∀ b,b∈t++[a]→(0≤b∧b.toNat<c.frm.length)∧ix c.frm b=x:=fun b hb=>by
    rw [List.mem_append,List.mem_singleton] at hb
    rcases hb with hb | rfl
    ·exact hts.arr hb
    ·exact hLm _ ham
   refine (sieveOf_ok B c hc.1 (t++[a]) (fun b hb=>(hta b hb).1)).go fun _=>?_
   have hss:=closeS_sieve hc hta
   generalize hs : closeS c (t++[a])=s at *;refine tt ?_;refine newRef_own o fun id10 H o=>tt ?_;refine sw o fun H o=>tt ?_;refine wk_ref 10 o rfl fun H o=>wkW_done ?_;refine tt ?_;refine CallH.lentPure (es:=[iLL S,.fn (.func 342) [.ptr [iL s]]]) (.bool _) rfl (fun i hi=>?_) (containsFunc_ok B S s).run ?_
   ·obtain rfl | rfl : i=0∨i=1:=by simp only [List.length_cons,List.length_nil] at hi; omega
    ·exact lent_arg o rfl
    ·exact val_arg _
   by_cases hin : s∈S
   ·rw [dec_t hin];refine tw w2 ?_;refine for_next (id6,S) h2p ⟨hkl,hS16,⟨hW.z,hW.nd,hW.sv,hW.dn,fun i hi hiL=>?_⟩,o⟩ rfl
    by_cases e : i=j
    ·subst e; rw [hL,ha,ht,hs]; exact hin
    ·exact hW.pt i (by omega) hiL
   ·rw [dec_f hin];refine tt ?_;apply bk <;> intro h3
    ·have h3p : S.length=16:=by have:=of_decide h3; omega
     refine tt ?_;refine pure_ret ?_ o.sub
     have hnf : ¬ Few c x:=?_
     ·rw [dec_f hnf,if_neg hnf]; rfl
     ·refine Few.no (M:=S++[s]) ?_ ?_ (by simp; omega)
      ·rw [List.nodup_append];refine ⟨hW.nd,by simp,fun a ha b hb=>?_⟩;rw [List.mem_singleton] at hb
       rintro rfl; rw [hb] at ha; exact hin ha
      ·intro u hu;rw [List.mem_append,List.mem_singleton] at hu
       rcases hu with hu | rfl
       ·exact hW.sv u hu
       ·exact hss
    ·refine tt ?_
     have h3p : ¬ S.length=16:=fun e=>by rw [e] at h3; simp at h3
     have hgd : ∀ i,i<S.length→(S++[s]).getD i default=S.getD i default:=fun i hi=>by
      simp [List.getD_eq_getElem?_getD,List.getElem?_append_left hi]
     refine app_own (f:=iL) s o rfl rfl (by simp only [maxL]; omega) fun id6 H o=>?_;refine tw w2 ?_;refine for_next (id6,S++[s]) h2p ⟨by simp; omega,by simp; omega,⟨by simp [hW.z], ?_,fun u hu=>?_,fun i hi b hb=>?_,fun i hi hiL=>?_⟩,o⟩ rfl
     ·rw [List.nodup_append];refine ⟨hW.nd,by simp,fun a ha b hb=>?_⟩;rw [List.mem_singleton] at hb
      rintro rfl; rw [hb] at ha; exact hin ha
     ·rw [List.mem_append,List.mem_singleton] at hu
      rcases hu with hu | rfl
      ·exact hW.sv u hu
      ·exact hss
     ·rw [hgd i (by omega)];exact List.mem_append_left _ (hW.dn i hi b hb)
     ·rw [hgd k hkl]
      by_cases e : i=j
      ·subst e; rw [hL,ha,ht,hs]; simp
      ·exact List.mem_append_left _ (hW.pt i (by omega) hiL)
  ·have h2p:=of_ndecide h2;refine tt ?_;refine ⟨16 - (k+1),_,H,by omega,⟨(id6,S,k+1),⟨rfl,by simp only; omega,hS16,⟨hW.z,hW.nd,hW.sv,fun i hi b hb=>?_,by simp⟩,o⟩,rfl⟩,by rw [w]; exact .refl _ _⟩;dsimp only at hi
   by_cases e : i=k
   ·subst e;rw [hL] at hb
    obtain ⟨n,hn,rfl⟩:=mem_getD.mp hb
    have hnj : n<j:=Nat.lt_of_lt_of_le hn (Nat.le_of_not_lt h2p)
    have:=hW.pt n hnj (by rw [hL]; exact hn);rw [hL] at this; exact this
   ·exact hW.dn i (by omega) b hb
 ·have h1p:=of_ndecide h1;refine tt ?_
  have hall:=all_sieves hc hW.z hW.sv fun t ht a ha=>by
   obtain ⟨i,hi,rfl⟩:=mem_getD.mp ht;exact hW.dn i (by omega) a ha
  have hpos : 0<S.length:=List.length_pos_of_mem hW.z
  letI : Inhabited (Fin S.length):=⟨⟨0,hpos⟩⟩
  refine sort_own B S hW.nd (hlib.2 S hS16) hlib.1 o fun H S' hp hs o=>?_
  have hia : IsAll c x S':=⟨hs,fun s=>by rw [hp.mem_iff]; exact ⟨hW.sv s,hall s⟩⟩
  have hfew : Few c x:=⟨S',hia,by rw [hp.length_eq]; exact hS16⟩
  have hS' : S'=allS c x:=hia.uniq (allS_is hfew).1;refine tt ?_;refine fz_own o hp.length_eq.symm fun H o=>tt ?_;exact pure_ret (by rw [dec_t hfew,if_pos hfew,hS']) o.sub
theorem sieves_all (B : Nat) (hlib : LibSorts) (c : Cat) (hc : c.Is) : SievesOk B c:=fun x hx=>by
 classical
 exact ⟨_,sieves_ok B hlib c hc x hx,fun h=>by rw [if_pos h]; exact ⟨rfl,(allS_is h).2⟩⟩
end Go.Proofs.Shf
namespace Go.Proofs
open Go.Shelf
def Tryz.sortL_ren : Go.Shelf.Ren:=⟨fun | 6=>343 | 15=>347 | 14=>346 | 28=>356 | 29=>357 | 20=>348 | 21=>349 | 22=>350 | 23=>351 | 24=>352 | 25=>353 | 26=>354 | 27=>355 | 46=>358 | 47=>359 | 48=>360 | 49=>361 | 50=>362 | 57=>363 | n=>n,fun | 22=>136 | 24=>199 | 25=>381 | 3=>3 | 39=>126 | 0=>0 | 53=>398 | 55=>65 | 4=>4 | 46=>391 | 45=>390 | 50=>395 | 5=>5 | 9=>9 | 66=>400 | 70=>404 | 76=>406 | 77=>407 | n=>n,fun | n=>n⟩
theorem Tryz.sortL : Go.Proofs.SlLaysF.n6 Tryz.prog Tryz.sortL_ren:={
 mixed:=by kernel_rfl
 f6:=⟨Tryz.f343.name,by decide,Tryz.func343.trans (congrArg some (by kernel_rfl))⟩
 f14:=⟨Tryz.f346.name,by decide,Tryz.func346.trans (congrArg some (by kernel_rfl))⟩
 f15:=Tryz.func347.trans (congrArg some (by kernel_rfl))
 f20:=⟨Tryz.f348.name,by decide,Tryz.func348.trans (congrArg some (by kernel_rfl))⟩
 f21:=⟨Tryz.f349.name,by decide,Tryz.func349.trans (congrArg some (by kernel_rfl))⟩
 f22:=⟨Tryz.f350.name,by decide,Tryz.func350.trans (congrArg some (by kernel_rfl))⟩
 f23:=⟨Tryz.f351.name,by decide,Tryz.func351.trans (congrArg some (by kernel_rfl))⟩
 f24:=⟨Tryz.f352.name,by decide,Tryz.func352.trans (congrArg some (by kernel_rfl))⟩
 f25:=⟨Tryz.f353.name,by decide,Tryz.func353.trans (congrArg some (by kernel_rfl))⟩
 f26:=⟨Tryz.f354.name,by decide,Tryz.func354.trans (congrArg some (by kernel_rfl))⟩
 f27:=⟨Tryz.f355.name,by decide,Tryz.func355.trans (congrArg some (by kernel_rfl))⟩
 f28:=Tryz.func356.trans (congrArg some (by kernel_rfl))
 f29:=Tryz.func357.trans (congrArg some (by kernel_rfl))
 f46:=⟨Tryz.f358.name,by decide,Tryz.func358.trans (congrArg some (by kernel_rfl))⟩
 f47:=Tryz.func359.trans (congrArg some (by kernel_rfl))
 f48:=Tryz.func360.trans (congrArg some (by kernel_rfl))
 f49:=⟨Tryz.f361.name,by decide,Tryz.func361.trans (congrArg some (by kernel_rfl))⟩
 f50:=⟨Tryz.f362.name,by decide,Tryz.func362.trans (congrArg some (by kernel_rfl))⟩
 f57:=⟨Tryz.f363.name,by decide,Tryz.func363.trans (congrArg some (by kernel_rfl))⟩
 t0:=Tryz.underlying0
 a0:=Tryz.isAgg0
 z0:=Tryz.sizeOf0
 v0:=Tryz.zeroValue0
 t3:=Tryz.underlying3
 a3:=Tryz.isAgg3
 z3:=Tryz.sizeOf3
 v3:=Tryz.zeroValue3
 t4:=Tryz.underlying4
 a4:=Tryz.isAgg4
 z4:=Tryz.sizeOf4
 v4:=Tryz.zeroValue4
 t5:=Tryz.underlying5
 a5:=Tryz.isAgg5
 z5:=Tryz.sizeOf5
 v5:=Tryz.zeroValue5
 t9:=Tryz.underlying9
 a9:=Tryz.isAgg9
 z9:=Tryz.sizeOf9
 v9:=Tryz.zeroValue9
 t22:=Tryz.underlying136
 a22:=Tryz.isAgg136
 z22:=Tryz.sizeOf136
 v22:=Tryz.zeroValue136
 a24:=Tryz.isAgg199
 z24:=Tryz.sizeOf199
 t25:=Tryz.underlying381
 a25:=Tryz.isAgg381
 z25:=Tryz.sizeOf381
 v25:=Tryz.zeroValue381
 t39:=Tryz.underlying126
 a39:=Tryz.isAgg126
 z39:=Tryz.sizeOf126
 v39:=Tryz.zeroValue126
 t45:=Tryz.underlying390
 a45:=Tryz.isAgg390
 z45:=Tryz.sizeOf390
 v45:=Tryz.zeroValue390
 t46:=Tryz.underlying391
 a46:=Tryz.isAgg391
 z46:=Tryz.sizeOf391
 v46:=Tryz.zeroValue391
 t50:=Tryz.underlying395
 a50:=Tryz.isAgg395
 z50:=Tryz.sizeOf395
 v50:=Tryz.zeroValue395
 t53:=Tryz.underlying398
 a53:=Tryz.isAgg398
 z53:=Tryz.sizeOf398
 v53:=Tryz.zeroValue398
 t55:=Tryz.underlying65
 a55:=Tryz.isAgg65
 z55:=Tryz.sizeOf65
 v55:=Tryz.zeroValue65
 t66:=Tryz.underlying400
 a66:=Tryz.isAgg400
 z66:=Tryz.sizeOf400
 v66:=Tryz.zeroValue400
 t70:=Tryz.underlying404
 a70:=Tryz.isAgg404
 z70:=Tryz.sizeOf404
 v70:=Tryz.zeroValue404
 t76:=Tryz.underlying406
 a76:=Tryz.isAgg406
 z76:=Tryz.sizeOf406
 v76:=Tryz.zeroValue406
 t77:=Tryz.underlying407
 a77:=Tryz.isAgg407
 z77:=Tryz.sizeOf407
 v77:=Tryz.zeroValue407 }
end Go.Proofs
namespace Go.Proofs.Shf
open Go.AW Go.Proofs Go.Shf Go.RowKit Go.Sort
theorem cmp_ntr {a b c : List Int} (h1 : ¬ cmp a b<0) (h2 : ¬ cmp b c<0) : ¬ cmp a c<0:=by
 intro h
 have n1:=cmp_neg a b
 have n2:=cmp_neg b c
 have n3:=cmp_neg a c
 by_cases e1 : cmp a b=0
 ·rw [cmp_zero] at e1; subst e1; exact h2 h
 ·by_cases e2 : cmp b c=0
  ·rw [cmp_zero] at e2; subst e2; exact h1 h
  ·have:=cmp_trans (a:=c) (b:=b) (c:=a) (by omega) (by omega);omega
theorem swo_cmp {n : Nat} (S : List (List Int)) : SWO (ltOf fun x y : Fin n=>cmp (S.getD x default) (S.getD y default)) where
 irrefl x:=by simp [ltOf,cmp_zero.mpr rfl]
 trans x y z h1 h2:=decide_eq_true (cmp_trans (of_decide_eq_true h1) (of_decide_eq_true h2))
 ntrans x y z h1 h2:=decide_eq_false (cmp_ntr (of_decide_eq_false h1) (of_decide_eq_false h2))
theorem lib_sort (S : List (List Int)) [Inhabited (Fin S.length)] (hsz : S.length<4611686018427387904) : LibSort S.length fun x y=>cmp (S.getD x default) (S.getD y default):=by
 intro b cap w enc h1 hcmp hH hbl
 have eg : ∀ args w,(callFunc 344 args).run Tryz.prog w=.ok (.enter 344 args) w:=enters_of Tryz.func344 (by kernel_rfl) rfl
 have h:=Any.slices_SortFunc Tryz.sortL enc h1 (fun x y=>cmp (S.getD x default) (S.getD y default)) (swo_cmp S) 344 #[] b 0 cap (Array.ofFn fun i=>i) w eg hcmp hH hbl (by simpa using hsz);exact h
end Go.Proofs.Shf
namespace Go.Proofs.Shf
open Go.AW Go.Proofs Go.Shf
theorem libSorts : LibSorts:=⟨⟨_,Tryz.func343,by kernel_rfl,by kernel_rfl⟩,fun S _ h=>lib_sort S (by omega)⟩
theorem nlsW_mL {α : Type} (f : α→AV) (neg : Bool) (l : List α) (K : Kont) (H : Heap) : nlsW neg (some (mL f l)) K H=((l=[]→∀ b,K (.bool b) H)∧(l≠[]→K (.bool neg) H)):=by
 simp [nlsW,mL]
theorem cloneB_ok (B : Nat) (l : List Bool) : Pur Tryz.prog B 328 [mL AV.bool l] (mL AV.bool l):=by
 refine ⟨fun H0=>c328.go fun ⟨hf,_⟩=>?_⟩
 have hl:=fine_mL_le hf;try simp only [go_sem,↓reduceIte,reduceEqDiff,reduceAdd,reduceMul,reduceLeDiff,reduceLT,nlsW_mL]
 refine ⟨fun e b=>?_,fun e=>?_⟩
 ·subst e
  cases b
  ·refine tt ?_;refine new_list AV.bool (.nil _) fun id H o=>tt ?_;refine app_list (f:=AV.bool) (r:=[]) o rfl (by simp [maxL]) fun id H o=>tt ?_;refine fz_own o rfl fun H o=>tt ?_;exact pure_ret rfl o.sub
  ·refine tt ?_;exact pure_ret rfl (.refl _)
 ·refine tt ?_;refine new_list AV.bool (.nil _) fun id H o=>tt ?_;refine app_list (f:=AV.bool) o rfl (by simpa using hl) fun id H o=>tt ?_;refine fz_own o rfl fun H o=>tt ?_;exact pure_ret rfl o.sub
theorem isGreatest_ok (B : Nat) (c : Cat) (s : List Int) (x : Int) (hx : 0≤x∧x.toNat<c.idn.length) : Pur Tryz.prog B 380 [iL s,.ptr c.cells,.int .i64 x] (.bool (dec (ix c.idn x∈s))):=by
 refine ⟨fun H0=>c380.go fun _=>?_⟩;refine tt ?_;refine ⟨hx, ?_⟩;refine (has_ok B s (ix c.idn x)).go fun _=>tt ?_;exact pure_ret rfl (.refl _)
theorem asOk : AsOk Tryz.prog 199 383:=fun _ _ _=>by kernel_rfl
theorem methOk : Meth Tryz.prog 199 Go.AW.Z.mthName 380:=fun _ _=>by kernel_rfl
theorem all_ok (B : Nat) (c : Cat) (s : List Int) (x : Int) (hx : 0≤x∧x.toNat<c.idn.length) : Pur Tryz.prog B 337 [.ptr c.cells,.int .i64 x,.ifc 199 (iL s)] (.bool (dec (ix c.idn x∈s))):=by
 refine ⟨fun H0=>c337.go fun _=>?_⟩;unfold s337;refine tt ?_;refine ⟨asOk,tt ?_⟩;refine ⟨380,methOk, ?_⟩;refine (isGreatest_ok B c s x hx).go fun _=>tt ?_;exact pure_ret rfl (.refl _)
end Go.Proofs.Shf
namespace Go.Shf
open Go.AW
theorem top_iff {c : Cat} (hc : c.Is) {x : Nat} (hx : x<c.objs.toNat) {s : List Int} (hs : c.Sieve x s) : ix c.idn x∈s↔s=outs c x:=by
 have ho:=hc.1.o
 have hi:=hc.1.idArr (x:=(x : Int)) (by omega)
 have hos:=outs_sieve hc.1 (x : Int)
 constructor
 ·intro h
  have hsub : ∀ a,a∈outs c x→a∈s:=fun a ha=>by
   obtain ⟨a0,a1,a2⟩:=mem_outs.mp ha
   have h1:=hs.cls _ h a.toNat a1 (by rw [hi.2.2,← a2]; rfl)
   have h2:=hc.idl (f:=a) ⟨a0,a1⟩;rw [a2] at h2
   have e : (ix c.comp (ix c.idn (x : Int))).getD a.toNat default=a:=h2;rw [e] at h1; exact h1
  exact rising_ext hs.ris hos.ris fun a=>⟨fun ha=>mem_outs.mpr ⟨(hs.ran a ha).1,by have:=hs.ran a ha; omega,hs.src a ha⟩,hsub a⟩
 ·rintro rfl;exact mem_outs.mpr ⟨hi.1.1,hi.1.2,hi.2.1⟩
end Go.Shf
namespace Go.Proofs.Shf
open Go.AW Go.Proofs Go.Shf
theorem tops_ok (B : Nat) (c : Cat) (L : List (List (List Int))) (t : TabOk c L) (sz pl : AV) : Pur Tryz.prog B 327 [.ptr (clsCells c L sz pl)] (iL (topsOf c L)):=by
 refine ⟨fun H0=>c327.go fun hfi=>?_⟩
 have hob:=t.is.1.o
 have hL:=t.len
 have hil:=t.is.1.il;refine tt ?_;refine newBuf_own (.nil _) fun id3 H o=>tt ?_
 refine awp_for [0,12,13] (G:=Nat) (fun x g=>[(3,some (.buf g ((topsOf c L).take x).length)),(14,some (.int .i64 (x : Int)))])
  (fun x g H=>Owns H0 H [(g,.cells 1 (((topsOf c L).take x).map iI) 0)]) L.length id3 o rfl ?_
 clear o
 rintro x id3 H hx o
 replace o : Owns H0 H [(id3,.cells 1 (((topsOf c L).take x).map iI) 0)]:=o;refine tt ?_;apply bk <;> intro h1
 ·have h1p:=of_decide h1
  have w:=wsucc (k:=x) (by omega)
  have hxo : x<c.objs.toNat:=by omega
  have htp:=t.top h1p
  have hall:=t.all x h1p
  have hfew:=t.few x h1p
  have hts:=take_succ_getD (topsOf c L) (k:=x) (by rw [tops_len]; exact h1p)
  have htl : ((topsOf c L).take x).length=x:=by rw [List.length_take,tops_len]; omega
  generalize htv : (topsOf c L).getD x default=tv at *;refine tt ?_;refine ⟨h1p, ?_⟩
  generalize hS : L.getD x default=S at *
  have hnd:=hall.nodup
  refine awp_for [0,4,12,13,14,19,20] (G:=Nat × List Int) (fun i g=>[(3,some (.buf g.1 g.2.length)),(21,some (.int .i64 (i : Int)))])
   (fun i g H=>g.2=(topsOf c L).take x++(if tv<i then [tv] else [])∧Owns H0 H [(g.1,.cells 1 (g.2.map iI) 0)]) S.length (id3,(topsOf c L).take x) ⟨by rw [if_neg (by omega)]; simp,o⟩ rfl ?_
  clear o
  rintro i ⟨id3,A⟩ H hi ⟨hA,o⟩;dsimp only at hA o;refine tt ?_;apply bk <;> intro h2
  ·have h2p:=of_decide h2
   have w2:=wsucc (k:=i) (by omega);refine tt ?_;refine ⟨h2p, ?_⟩;refine (all_ok B c (S.getD i default) x ⟨by omega,by omega⟩).go fun _=>?_
   have hsv : c.Sieve x (S.getD i default):=(hall.mem _).mp (mem_getD.mpr ⟨i,h2p,rfl⟩)
   have hiff:=top_iff t.is hxo hsv
   by_cases ht : (i : Int)=tv
   ·subst ht
    have he : S.getD i default=outs c x:=by have:=htp.2; rwa [ix_nat] at this
    rw [dec_t (hiff.mpr he)]
    have hA' : A=(topsOf c L).take x:=by rw [hA,if_neg (by omega)]; simp
    refine tt ?_;refine app_own (f:=iI) (i : Int) o rfl rfl (by rw [hA',htl]; simp only [maxL]; omega) fun id3 H o=>?_;refine tw w2 ?_;exact for_next (id3,A++[(i : Int)]) h2p ⟨by simp only; rw [hA',if_pos (by omega)],o⟩ rfl
   ·have hne : ¬ S.getD i default=outs c x:=fun e=>by
     apply ht
     have h3 : S.getD tv.toNat default=S.getD i default:=by rw [e,← htp.2]; rfl
     have hlt:=htp.1.2
     have:=(List.getElem_inj hnd (h₀:=hlt) (h₁:=h2p)).mp (by simpa [List.getD_eq_getElem?_getD,hlt,h2p] using h3);omega
    rw [dec_f (fun e=>hne (hiff.mp e))];refine tw w2 ?_;refine for_next (id3,A) h2p ⟨?_,o⟩ rfl
    simp only;rw [hA]
    by_cases e : tv<i
    ·rw [if_pos e,if_pos (by omega)]
    ·rw [if_neg e,if_neg (by omega)]
  ·have h2p:=of_ndecide h2
   obtain rfl : i=S.length:=by omega
   rw [if_pos (by omega),← hts] at hA;subst hA;refine tw w ?_;exact for_next id3 h1p o rfl
 ·have h1p:=of_ndecide h1
  obtain rfl : x=L.length:=by omega
  rw [List.take_of_length_le (by rw [tops_len]; omega)] at o ⊢;refine tt ?_;refine fz_own o rfl fun H o=>tt ?_;exact pure_ret rfl o.sub
end Go.Proofs.Shf
namespace Go.AW
open Go.Proofs Go.Shf Go.Proofs.Shf
theorem LsG.pos {α : Type} {O : Ob→AV→α→Prop} {p : Ob} {X : AV} {A : List α} (h : LsG O p X A) {i : Nat} (hi : i<A.length) : ∃ id Xs o,p=(id,.cells 1 Xs 0)::o∧X=.buf id Xs.length∧RowsG O Xs A o:=by
 rcases h with ⟨_,_,rfl⟩ | h
 ·simp at hi
 ·exact h
end Go.AW
namespace Go.Proofs.Shf
open Go.AW Go.Proofs Go.Shf
theorem set_self {l : List AV} {i : Nat} (h : i<l.length) : l.set i (l.getD i nv)=l:=by
 apply List.ext_getElem?
 intro j
 by_cases e : j=i
 ·subst e; simp [List.getD_eq_getElem?_getD,h]
 ·rw [List.getElem?_set_ne (by omega)]
end Go.Proofs.Shf
namespace Go.AW
open Go.Proofs Go.Shf Go.Proofs.Shf
theorem Owns.row {α : Type} [Inhabited α] {O : Ob→AV→α→Prop} {H0 H : Heap} {l q : Ob} {id : Nat} {Xs : List AV} {A : List α} (o : Owns H0 H (((id,.cells 1 Xs 0)::q)++l)) (hr : RowsG O Xs A q) {i : Nat} (hi : i<Xs.length) :
  ∃ p r,Owns H0 H (p++((id,.cells 1 Xs 0)::(r++l)))∧O p (Xs.getD i nv) (A.getD i default) ∧
   ∀ a' p' H',O p' (Xs.getD i nv) a'→Owns H0 H' (p'++((id,.cells 1 Xs 0)::(r++l)))→∃ q',RowsG O Xs (A.set i a') q'∧Owns H0 H' (((id,.cells 1 Xs 0)::q')++l):=by
 obtain ⟨p,r,h1,h2,h3⟩:=hr.split i hi;refine ⟨p,r,o.perm ?_,h2,fun a' p' H' hO o'=>?_⟩
 ·refine List.Perm.trans ?_ (List.perm_middle (a:=(id,MObj.cells 1 Xs 0)) (l₁:=p) (l₂:=r++l)).symm;refine List.Perm.cons _ ?_;rw [← List.append_assoc];exact List.Perm.append_right l h1
 ·obtain ⟨q',k1,k2⟩:=h3 _ _ _ hO;rw [set_self hi] at k1;refine ⟨q',k1,o'.perm ?_⟩;refine List.Perm.trans (List.perm_middle (a:=(id,MObj.cells 1 Xs 0)) (l₁:=p') (l₂:=r++l)) ?_;refine List.Perm.cons _ ?_;rw [← List.append_assoc];exact List.Perm.append_right l k2.symm
end Go.AW
namespace Go.Proofs.Shf
open Go.AW Go.Proofs Go.Shf
end Go.Proofs.Shf
namespace Go.AW
open Go.Proofs Go.Shf Go.Proofs.Shf
theorem Owns.rot {H0 H : Heap} {a b : Ob} (o : Owns H0 H (a++b)) : Owns H0 H (b++a):=o.perm List.perm_append_comm
end Go.AW
namespace Go.Proofs.Shf
open Go.AW Go.Proofs Go.Shf
end Go.Proofs.Shf
