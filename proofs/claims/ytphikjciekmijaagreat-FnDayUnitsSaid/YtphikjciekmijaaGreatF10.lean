/- A part of a proof. -/
import Derived.Test.YtphikjciekmijaaGreatF9
import Derived.Test.YtphikjciekmijaaGreatProg
import Derived.Tactics
import Derived.Tactics2
import Derived.Defers
import Derived.Laws.Pointers
import Derived.Laws.LoneSync
import Derived.RegionTactic
import Derived.RegionCalls
import Derived.ChangeAlike
set_option linter.unusedVariables false
set_option linter.unusedSimpArgs false
set_option linter.unusedSectionVars false
set_option maxRecDepth 100000
open Nat (reduceEqDiff reduceAdd reduceMul reduceLeDiff reduceLT)
namespace Go.Shf
open Go.AW
end Go.Shf
namespace Go.Proofs.Shf
open Go.AW Go.Proofs Go.Shf
def z7c : List AV:=[.int .i64 0,.nilsl,.nilsl,.nilsl,.nilsl,.nilsl,.nilsl]
theorem wk_z7 {F : Env→Heap→Prop} {σ : Env} {H0 H : Heap} {l : Ob} {id : Nat} (o : Owns H0 H ((id,.cells 7 z7c 0)::l)) (hk : ∀ H',Owns H0 H' ((id,.cells 7 zSF'.cells 0)::l)→wkW F σ H') : wkW F σ H:=by
 unfold z7c at o;refine wk_nil 1 o rfl fun H o=>?_;refine wk_nil 2 o rfl fun H o=>?_;refine wk_nil 3 o rfl fun H o=>?_;refine wk_nil 4 o rfl fun H o=>?_;refine wk_nil 5 o rfl fun H o=>?_;refine wk_nil 6 o rfl fun H o=>?_;exact hk H o
def sfB (c : Cat) (X Y : AV) : List AV:=[iI c.objs,iL c.frm,iL c.to,iL c.idn,iLL c.comp,X,Y]
theorem dayRes_bad {m : Mo} {f g : SF} {k : Int} (h : codeDay m f g=k) (hk : k≠0) : dayRes m f g=.tup [.agg zSF'.cells,iI k]:=by
 unfold dayRes;rw [h,if_neg hk]
theorem dayRes_ok {m : Mo} {f g : SF} (D : DayO m f g) (h : FewD m f g) : dayRes m f g=.tup [.agg (dayF m f g).cells,iI 0]:=by
 have : codeDay m f g=0:=by
  unfold codeDay;rw [if_pos ⟨D.mI,D.fI,D.gI⟩,if_pos ⟨D.fs,D.gs⟩,if_pos h]
 unfold dayRes;rw [this,if_pos rfl]
theorem clD_bd (m : Mo) (f g : SF) (z : Int) (h : (dayE m f g z).length≤256) : ∀ y,y∈clD m f g z→0≤y∧y<1048576:=fun y hy=>by
 have:=joinL_ran hy;omega
theorem dayS_ok (B : Nat) (m : Mo) (f g : SF) : Pur Tryz.prog B 21 [.agg m.cells,.agg f.cells,.agg g.cells] (dayRes m f g):=by
 refine ⟨fun H0=>c21p.go fun hf=>?_⟩
 have o : Owns H0 H0 []:=.nil _;refine tt ?_;refine nb o fun id6 H o=>?_
 have o : Owns H0 H [(id6,.cells 7 z7c 0)]:=o;refine tt ?_
 have bad : ∀ {k : Int},codeDay m f g=k→k≠0→∀ {l : Ob} {H : Heap},Owns H0 H ((id6,.cells 7 zSF'.cells 0)::l)→subW (fun r' H'=>r'=dayRes m f g∧H'=H0) (.tup [.agg zSF'.cells,iI k]) H:=fun {k} h hk {l H} o=>pure_ret (dayRes_bad h hk).symm o.sub
 have c1 : ¬ (m.Is∧f.Is∧g.Is)→codeDay m f g=1:=fun h=>by unfold codeDay; rw [if_neg h]
 refine (l35Is_ok B m).run.use ?_
 by_cases g1 : m.Is
 rotate_left
 ·rw [dec_f g1];refine tt ?_;refine st_cells o (by simp [z7c]) (by (try simp only [go_sem]); (try simp)) (by first | (simp only [go_sem]; done) | ((try simp only [go_sem]); simp [AV.one,one_mL])) fun H o=>?_
  have o : Owns H0 H [(id6,.cells 7 z7c 0)]:=o;refine tt ?_;refine wk_z7 o fun H o=>wkW_done ?_;refine tt ?_;rw [o.rc 7 0 (by simp [SF.cells])];refine tt ?_;exact bad (c1 fun q=>g1 q.1) (by decide) o
 rw [dec_t g1];refine tt ?_;refine (l19Is_ok B f).run.use ?_
 by_cases g2 : f.Is
 rotate_left
 ·rw [dec_f g2];refine tt ?_;refine st_cells o (by simp [z7c]) (by (try simp only [go_sem]); (try simp)) (by first | (simp only [go_sem]; done) | ((try simp only [go_sem]); simp [AV.one,one_mL])) fun H o=>?_
  have o : Owns H0 H [(id6,.cells 7 z7c 0)]:=o;refine tt ?_;refine wk_z7 o fun H o=>wkW_done ?_;refine tt ?_;rw [o.rc 7 0 (by simp [SF.cells])];refine tt ?_;exact bad (c1 fun q=>g2 q.2.1) (by decide) o
 rw [dec_t g2];refine tt ?_;refine (l19Is_ok B g).run.use ?_
 by_cases g3 : g.Is
 rotate_left
 ·rw [dec_f g3];refine tt ?_;refine st_cells o (by simp [z7c]) (by (try simp only [go_sem]); (try simp)) (by first | (simp only [go_sem]; done) | ((try simp only [go_sem]); simp [AV.one,one_mL])) fun H o=>?_
  have o : Owns H0 H [(id6,.cells 7 z7c 0)]:=o;refine tt ?_;refine wk_z7 o fun H o=>wkW_done ?_;refine tt ?_;rw [o.rc 7 0 (by simp [SF.cells])];refine tt ?_;exact bad (c1 fun q=>g3 q.2.2) (by decide) o
 rw [dec_t g3]
 have c5 : ¬ (f.shape=m.on∧g.shape=m.on)→codeDay m f g=5:=fun h=>by unfold codeDay; rw [if_pos ⟨g1,g2,g3⟩,if_neg h]
 refine tt ?_;refine (l02Same_ok B f.shape m.on).run.use ?_
 by_cases g4 : f.shape=m.on
 rotate_left
 ·rw [dec_f g4];refine tt ?_;refine st_cells o (by simp [z7c]) (by (try simp only [go_sem]); (try simp)) (by first | (simp only [go_sem]; done) | ((try simp only [go_sem]); simp [AV.one,one_mL])) fun H o=>?_
  have o : Owns H0 H [(id6,.cells 7 z7c 0)]:=o;refine tt ?_;refine wk_z7 o fun H o=>wkW_done ?_;refine tt ?_;rw [o.rc 7 0 (by simp [SF.cells])];refine tt ?_;exact bad (c5 fun q=>g4 q.1) (by decide) o
 rw [dec_t g4];refine tt ?_;refine (l02Same_ok B g.shape m.on).run.use ?_
 by_cases g5 : g.shape=m.on
 rotate_left
 ·rw [dec_f g5];refine tt ?_;refine st_cells o (by simp [z7c]) (by (try simp only [go_sem]); (try simp)) (by first | (simp only [go_sem]; done) | ((try simp only [go_sem]); simp [AV.one,one_mL])) fun H o=>?_
  have o : Owns H0 H [(id6,.cells 7 z7c 0)]:=o;refine tt ?_;refine wk_z7 o fun H o=>wkW_done ?_;refine tt ?_;rw [o.rc 7 0 (by simp [SF.cells])];refine tt ?_;exact bad (c5 fun q=>g5 q.2) (by decide) o
 rw [dec_t g5]
 have D : DayO m f g:=⟨g1,g2,g3,g4,g5⟩
 have c3 : ¬ FewD m f g→codeDay m f g=3:=fun h=>by unfold codeDay; rw [if_pos ⟨g1,g2,g3⟩,if_pos ⟨g4,g5⟩,if_neg h]
 have p:=D.mI.toPre
 have ho:=p.on.1.o
 have hm:=p.on.1.m
 have tl:=p.on.1.tol;refine tt ?_;refine newRef_own o fun id8 H o=>tt ?_;refine stc o fun H o=>?_
 have o : Owns H0 H [(id8,.cells 5 m.on.cells 0),(id6,.cells 7 z7c 0)]:=o;refine tt ?_;refine wk_ref 8 o rfl fun H o=>wkW_done ?_;refine tt ?_;refine newBuf_own o fun idE H o=>tt ?_;refine newBuf_own o fun idC H o=>tt ?_;refine (l02Own_ok B m.on).go fun _=>tt ?_;refine newBuf_own o fun bS H o=>tt ?_;refine newBuf_own o fun bA H o=>tt ?_;refine nb o fun id11 H o=>tt ?_;refine stc o fun H o=>?_
 have o : Owns H0 H ((id11,.cells 7 (sfB m.on (.buf bS 0) (.buf bA 0)) 0)::(bA,.cells 1 (([] : List (List Int)).map iL) 0)::(bS,.cells 1 (((List.range 0).map fun z : Nat=>szD m f g z).map iI) 0)::(idC,.cells 1 (((List.range 0).map fun z : Nat=>clD m f g z).map iL) 0)::(idE,.cells 1 (((List.range 0).map fun z : Nat=>dayE m f g z).map iLL) 0)::[(id6,.cells 7 z7c 0)]):=o;refine tt ?_
 refine cut_mp (fun σ H=>∃ idE idC bS : Nat,FewD m f g∧σ=[(6,some (.ref id6 0)),(8,some (.ptr m.on.cells)),(9,some (.buf idE m.on.objs.toNat)),(10,some (.buf idC m.on.objs.toNat)),(11,some (.ref id11 0))] ∧
  Owns H0 H ((id11,.cells 7 (sfB m.on (.buf bS m.on.objs.toNat) (.buf bA 0)) 0)::(bA,.cells 1 (([] : List (List Int)).map iL) 0)::(bS,.cells 1 (((List.range m.on.objs.toNat).map fun z : Nat=>szD m f g z).map iI) 0)::(idC,.cells 1 (((List.range m.on.objs.toNat).map fun z : Nat=>clD m f g z).map iL) 0)::(idE,.cells 1 (((List.range m.on.objs.toNat).map fun z : Nat=>dayE m f g z).map iLL) 0)::[(id6,.cells 7 z7c 0)])) ?_ ?_
 ·refine tt ?_
  refine awp_for [3,4,5,6,8,11] (G:=Nat × Nat × Nat) (fun z G=>[(9,some (.buf G.1 z)),(10,some (.buf G.2.1 z)),(12,some (.int .i64 (z : Int)))])
   (fun z G H=>(∀ i : Nat,i<z→(dayE m f g i).length≤256∧szD m f g i≤16)∧Owns H0 H ((id11,.cells 7 (sfB m.on (.buf G.2.2 z) (.buf bA 0)) 0)::(bA,.cells 1 (([] : List (List Int)).map iL) 0)::(G.2.2,.cells 1 (((List.range z).map fun z : Nat=>szD m f g z).map iI) 0)::(G.2.1,.cells 1 (((List.range z).map fun z : Nat=>clD m f g z).map iL) 0)::(G.1,.cells 1 (((List.range z).map fun z : Nat=>dayE m f g z).map iLL) 0)::[(id6,.cells 7 z7c 0)])) m.on.objs.toNat (idE,idC,bS) ⟨fun i hi=>by omega,o⟩ rfl ?_
  clear o
  rintro z ⟨idE,idC,bS⟩ H hz ⟨hfew,o⟩;dsimp only at o;refine tt ?_;apply bk <;> intro h1
  rotate_left
  ·have h1p:=of_ndecide h1
   obtain rfl : z=m.on.objs.toNat:=by omega
   refine tt ?_;exact wkW_done ⟨idE,idC,bS,fun i hi=>hfew i hi,rfl,o⟩
  have h1p:=of_decide h1
  have w1:=wsucc (k:=z) (by omega);refine tt ?_;refine (l35Entries_ok B D (z : Int)).go fun _=>tt ?_
  by_cases e1 : (dayE m f g z).length≤256
  rotate_left
  ·rw [decide_eq_true (show (256 : Int)<((dayE m f g z).length : Int) by omega)];refine tt ?_
   have o : Owns H0 H [(id6,.cells 7 z7c 0),(id11,.cells 7 (sfB m.on (.buf bS z) (.buf bA 0)) 0),(bA,.cells 1 (([] : List (List Int)).map iL) 0),(bS,.cells 1 (((List.range z).map fun z : Nat=>szD m f g z).map iI) 0),(idC,.cells 1 (((List.range z).map fun z : Nat=>clD m f g z).map iL) 0),(idE,.cells 1 (((List.range z).map fun z : Nat=>dayE m f g z).map iLL) 0)]:=o.pm;refine st_cells o (by simp [z7c]) (by (try simp only [go_sem]); (try simp)) (by first | (simp only [go_sem]; done) | ((try simp only [go_sem]); simp [AV.one,one_mL])) fun H o=>?_
   have o : Owns H0 H [(id6,.cells 7 z7c 0),(id11,.cells 7 (sfB m.on (.buf bS z) (.buf bA 0)) 0),(bA,.cells 1 (([] : List (List Int)).map iL) 0),(bS,.cells 1 (((List.range z).map fun z : Nat=>szD m f g z).map iI) 0),(idC,.cells 1 (((List.range z).map fun z : Nat=>clD m f g z).map iL) 0),(idE,.cells 1 (((List.range z).map fun z : Nat=>dayE m f g z).map iLL) 0)]:=o;refine tt ?_;refine wk_z7 o fun H o=>wkW_done ?_;refine tt ?_;rw [o.rc 7 0 (by simp [SF.cells])];refine tt ?_;exact bad (c3 fun q=>e1 (q z (by omega)).1) (by decide) o
  rw [decide_eq_false (show ¬ (256 : Int)<((dayE m f g z).length : Int) by omega)];refine tt ?_;refine (l35Classes_ok B D (z : Int) e1).go fun _=>tt ?_;refine (l22Top_ok B _ (clD_bd m f g z e1)).go fun _=>tt ?_
  have ez : topL (clD m f g z)=szD m f g z:=rfl;rw [ez]
  by_cases e2 : szD m f g z≤16
  rotate_left
  ·rw [decide_eq_true (show (16 : Int)<szD m f g z by omega)];refine tt ?_
   have o : Owns H0 H [(id6,.cells 7 z7c 0),(id11,.cells 7 (sfB m.on (.buf bS z) (.buf bA 0)) 0),(bA,.cells 1 (([] : List (List Int)).map iL) 0),(bS,.cells 1 (((List.range z).map fun z : Nat=>szD m f g z).map iI) 0),(idC,.cells 1 (((List.range z).map fun z : Nat=>clD m f g z).map iL) 0),(idE,.cells 1 (((List.range z).map fun z : Nat=>dayE m f g z).map iLL) 0)]:=o.pm;refine st_cells o (by simp [z7c]) (by (try simp only [go_sem]); (try simp)) (by first | (simp only [go_sem]; done) | ((try simp only [go_sem]); simp [AV.one,one_mL])) fun H o=>?_
   have o : Owns H0 H [(id6,.cells 7 z7c 0),(id11,.cells 7 (sfB m.on (.buf bS z) (.buf bA 0)) 0),(bA,.cells 1 (([] : List (List Int)).map iL) 0),(bS,.cells 1 (((List.range z).map fun z : Nat=>szD m f g z).map iI) 0),(idC,.cells 1 (((List.range z).map fun z : Nat=>clD m f g z).map iL) 0),(idE,.cells 1 (((List.range z).map fun z : Nat=>dayE m f g z).map iLL) 0)]:=o;refine tt ?_;refine wk_z7 o fun H o=>wkW_done ?_;refine tt ?_;rw [o.rc 7 0 (by simp [SF.cells])];refine tt ?_;exact bad (c3 fun q=>e2 (q z (by omega)).2) (by decide) o
  rw [decide_eq_false (show ¬ (16 : Int)<szD m f g z by omega)];refine tt ?_
  have o : Owns H0 H [(idE,.cells 1 (((List.range z).map fun z : Nat=>dayE m f g z).map iLL) 0),(idC,.cells 1 (((List.range z).map fun z : Nat=>clD m f g z).map iL) 0),(bS,.cells 1 (((List.range z).map fun z : Nat=>szD m f g z).map iI) 0),(id11,.cells 7 (sfB m.on (.buf bS z) (.buf bA 0)) 0),(bA,.cells 1 (([] : List (List Int)).map iL) 0),(id6,.cells 7 z7c 0)]:=o.pm;refine app_own (f:=iLL) (dayE m f g z) o rfl (by simp) (by simp only [List.length_map,List.length_range,maxL]; omega) fun idE H o=>?_;rw [← map_range_succ] at o;simp only [List.length_append,List.length_map,List.length_range,List.length_singleton]
  have o : Owns H0 H [(idC,.cells 1 (((List.range z).map fun z : Nat=>clD m f g z).map iL) 0),(idE,.cells 1 (((List.range (z+1)).map fun z : Nat=>dayE m f g z).map iLL) 0),(bS,.cells 1 (((List.range z).map fun z : Nat=>szD m f g z).map iI) 0),(id11,.cells 7 (sfB m.on (.buf bS z) (.buf bA 0)) 0),(bA,.cells 1 (([] : List (List Int)).map iL) 0),(id6,.cells 7 z7c 0)]:=o.pm;refine tt ?_;refine app_own (f:=iL) (clD m f g z) o rfl (by simp) (by simp only [List.length_map,List.length_range,maxL]; omega) fun idC H o=>?_;rw [← map_range_succ] at o;simp only [List.length_append,List.length_map,List.length_range,List.length_singleton]
  have o : Owns H0 H [(id11,.cells 7 (sfB m.on (.buf bS z) (.buf bA 0)) 0),(idC,.cells 1 (((List.range (z+1)).map fun z : Nat=>clD m f g z).map iL) 0),(idE,.cells 1 (((List.range (z+1)).map fun z : Nat=>dayE m f g z).map iLL) 0),(bS,.cells 1 (((List.range z).map fun z : Nat=>szD m f g z).map iI) 0),(bA,.cells 1 (([] : List (List Int)).map iL) 0),(id6,.cells 7 z7c 0)]:=o.pm;refine tt ?_;refine ⟨⟨_,_,o.h0⟩,rd_cells o (by simp [sfB]) ?_⟩
  have e5 : (sfB m.on (.buf bS z) (.buf bA 0)).getD 5 nv=.buf bS z:=rfl;refine tw e5 ?_;refine ⟨_,(l22Top_ok B _ (clD_bd m f g z e1)).run,tt ?_⟩
  have o : Owns H0 H [(bS,.cells 1 (((List.range z).map fun z : Nat=>szD m f g z).map iI) 0),(id11,.cells 7 (sfB m.on (.buf bS z) (.buf bA 0)) 0),(idC,.cells 1 (((List.range (z+1)).map fun z : Nat=>clD m f g z).map iL) 0),(idE,.cells 1 (((List.range (z+1)).map fun z : Nat=>dayE m f g z).map iLL) 0),(bA,.cells 1 (([] : List (List Int)).map iL) 0),(id6,.cells 7 z7c 0)]:=o.pm;refine app_own (szD m f g z) o rfl (by simp) (by simp only [List.length_map,List.length_range,maxL]; omega) fun bS2 H o=>?_;rw [← map_range_succ] at o;simp only [List.length_append,List.length_map,List.length_range,List.length_singleton]
  have o : Owns H0 H [(id11,.cells 7 (sfB m.on (.buf bS z) (.buf bA 0)) 0),(bS2,.cells 1 (((List.range (z+1)).map fun z : Nat=>szD m f g z).map iI) 0),(idC,.cells 1 (((List.range (z+1)).map fun z : Nat=>clD m f g z).map iL) 0),(idE,.cells 1 (((List.range (z+1)).map fun z : Nat=>dayE m f g z).map iLL) 0),(bA,.cells 1 (([] : List (List Int)).map iL) 0),(id6,.cells 7 z7c 0)]:=o.pm;refine tt ?_;refine st_cells o (by simp [sfB]) (by (try simp only [go_sem]); (try simp)) (by first | (simp only [go_sem]; done) | ((try simp only [go_sem]); simp [AV.one,one_mL])) fun H o=>?_
  have o : Owns H0 H [(id11,.cells 7 (sfB m.on (.buf bS2 (z+1)) (.buf bA 0)) 0),(bA,.cells 1 (([] : List (List Int)).map iL) 0),(bS2,.cells 1 (((List.range (z+1)).map fun z : Nat=>szD m f g z).map iI) 0),(idC,.cells 1 (((List.range (z+1)).map fun z : Nat=>clD m f g z).map iL) 0),(idE,.cells 1 (((List.range (z+1)).map fun z : Nat=>dayE m f g z).map iLL) 0),(id6,.cells 7 z7c 0)]:=(show Owns H0 H [(id11,.cells 7 (sfB m.on (.buf bS2 (z+1)) (.buf bA 0)) 0),(bS2,.cells 1 (((List.range (z+1)).map fun z : Nat=>szD m f g z).map iI) 0),(idC,.cells 1 (((List.range (z+1)).map fun z : Nat=>clD m f g z).map iL) 0),(idE,.cells 1 (((List.range (z+1)).map fun z : Nat=>dayE m f g z).map iLL) 0),(bA,.cells 1 (([] : List (List Int)).map iL) 0),(id6,.cells 7 z7c 0)] from o).pm;refine tw w1 ?_;exact for_next (idE,idC,bS2) (by omega) ⟨lt_succ_all hfew ⟨e1,e2⟩,o⟩ rfl
 clear o
 rintro σ H ⟨idE,idC,bS,few,rfl,o⟩
 obtain ⟨LE,hLE⟩ : ∃ LE,((List.range m.on.objs.toNat).map fun z : Nat=>dayE m f g z)=LE:=⟨_,rfl⟩
 obtain ⟨LC,hLC⟩ : ∃ LC,((List.range m.on.objs.toNat).map fun z : Nat=>clD m f g z)=LC:=⟨_,rfl⟩
 obtain ⟨LS,hLS⟩ : ∃ LS,((List.range m.on.objs.toNat).map fun z : Nat=>szD m f g z)=LS:=⟨_,rfl⟩;rw [hLE,hLC,hLS] at o
 have lE : LE.length=m.on.objs.toNat:=by rw [← hLE]; simp
 have lC : LC.length=m.on.objs.toNat:=by rw [← hLC]; simp
 have lS : LS.length=m.on.objs.toNat:=by rw [← hLS]; simp
 have atE : ∀ {x : Int},m.on.ObR x→ix LE x=dayE m f g x:=fun {x} hx=>by
  have h1:=hx.1; have h2:=hx.2;rw [ix,← hLE,getD_map_range _ _ (by omega),Int.toNat_of_nonneg h1]
 have atC : ∀ {x : Int},m.on.ObR x→ix LC x=clD m f g x:=fun {x} hx=>by
  have h1:=hx.1; have h2:=hx.2;rw [ix,← hLC,getD_map_range _ _ (by omega),Int.toNat_of_nonneg h1]
 have atS : ∀ {x : Int},m.on.ObR x→ix LS x=szD m f g x:=fun {x} hx=>by
  have h1:=hx.1; have h2:=hx.2;rw [ix,← hLS,getD_map_range _ _ (by omega),Int.toNat_of_nonneg h1]
 have inO : ∀ {x : Int} {n : Nat},n=m.on.objs.toNat→m.on.ObR x→0≤x∧x.toNat<n:=fun {x n} e hx=>⟨hx.1,by have:=hx.1; have:=hx.2; omega⟩
 have fw : ∀ {x : Int},m.on.ObR x→(dayE m f g x).length≤256∧szD m f g x≤16:=fun {x} hx=>by
  have h1:=hx.1; have h2:=hx.2
  have:=few x.toNat (by omega)
  rwa [Int.toNat_of_nonneg h1] at this
 have aR : ∀ {n : Nat},n<m.on.frm.length→m.on.ArR (n : Int):=fun {n} h=>⟨by omega,by simpa using h⟩
 have o : Owns H0 H ((idE,.cells 1 (LE.map iLL) 0)::[(idC,.cells 1 (LC.map iL) 0),(id11,.cells 7 (sfB m.on (.buf bS m.on.objs.toNat) (.buf bA 0)) 0),(bA,.cells 1 (([] : List (List Int)).map iL) 0),(bS,.cells 1 (LS.map iI) 0),(id6,.cells 7 z7c 0)]):=o.pm;refine tt ?_;refine fz_own (f:=iLL) o lE.symm fun H o=>tt ?_;refine fz_own (f:=iL) o lC.symm fun H o=>?_
 have o : Owns H0 H [(id11,.cells 7 (sfB m.on (.buf bS m.on.objs.toNat) (.buf bA 0)) 0),(bA,.cells 1 (((List.range 0).map fun k : Nat=>dayR m f g k).map iL) 0),(bS,.cells 1 (LS.map iI) 0),(id6,.cells 7 z7c 0)]:=o;refine tt ?_
 refine awp_for [6,8,9,10,11] (G:=Nat) (fun k _=>[(15,some (.int .i64 (k : Int)))])
  (fun k bA H=>Owns H0 H [(id11,.cells 7 (sfB m.on (.buf bS m.on.objs.toNat) (.buf bA k)) 0),(bA,.cells 1 (((List.range k).map fun k : Nat=>dayR m f g k).map iL) 0),(bS,.cells 1 (LS.map iI) 0),(id6,.cells 7 z7c 0)]) m.on.frm.length bA o rfl ?_
 clear o
 rintro k bA H hk o;refine tt ?_;apply bk <;> intro h1
 rotate_left
 ·have h1p:=of_ndecide h1
  obtain rfl : k=m.on.frm.length:=by omega
  refine tt ?_;subst hLS
  have o : Owns H0 H ((id11,.cells 7 (sfB m.on (.buf bS m.on.objs.toNat) (.buf bA m.on.frm.length)) 0)::(bS,.cells 1 (((List.range m.on.objs.toNat).map fun z : Nat=>szD m f g z).map iI) 0)::[(bA,.cells 1 (((List.range m.on.frm.length).map fun k : Nat=>dayR m f g k).map iL) 0),(id6,.cells 7 z7c 0)]):=o.pm;refine wk_cell (f:=iI) 5 o rfl lS.symm fun H o=>?_;refine wk_cell (f:=iL) 6 o rfl (by simp) fun H o=>wkW_done ?_
  have o : Owns H0 H [(id11,.cells 7 (dayF m f g).cells 0),(id6,.cells 7 z7c 0)]:=o;refine tt ?_;refine rd_celln o (by simp [SF.cells]) ?_;refine tt ?_;refine st_cells o.swap (by simp [z7c]) (by (try simp only [go_sem]); (try simp)) (by first | (simp only [go_sem]; done) | ((try simp only [go_sem]); simp [AV.one,one_mL])) fun H o=>?_
  have o : Owns H0 H [(id6,.cells 7 (dayF m f g).cells 0),(id11,.cells 7 (dayF m f g).cells 0)]:=o;refine tt ?_;refine wkW_done ?_;refine tt ?_;rw [o.rc 7 0 (by simp [SF.cells])];refine tt ?_;exact pure_ret (dayRes_ok D few).symm o.sub
 have h1p:=of_decide h1
 have w1:=wsucc (k:=k) (by omega)
 have kA:=aR h1p
 have kf:=p.fO kA
 have kt:=p.tO kA
 have sf:=inO lS kf
 have ef:=inO lE kf
 have et:=inO lE kt
 have cf:=inO lC kf
 have ct:=inO lC kt
 have z0:=szD_nn m f g (ix m.on.frm (k : Int))
 have z16:=(fw kf).2;refine tt ?_;refine ⟨h1p,by rw [tl]; exact h1p,tt ?_⟩;refine rd_cells o (by simp [sfB]) ?_
 have e5 : (sfB m.on (.buf bS m.on.objs.toNat) (.buf bA k)).getD 5 nv=.buf bS m.on.objs.toNat:=rfl;refine tw e5 ?_
 have ev : (LS.map iI).getD (m.on.frm.getD k default).toNat nv=iI (szD m f g (ix m.on.frm (k : Int))):=by
  have:=atS kf;rw [ix_nat] at this;rw [map_getD _ (by have:=sf.2; rw [lS] at this ⊢; rw [ix_nat] at this; exact this),ix_nat];exact congrArg iI this
 refine ⟨by rw [← ix_nat m.on.frm,← lS]; exact sf,rd_get (o.get (bS,.cells 1 (LS.map iI) 0) (by simp)) (by rw [List.length_map]; exact sf.2) ?_⟩;rw [ev];refine tt ?_;rw [ix_nat m.on.frm] at z0 z16
 have eF : ix m.on.frm (k : Int)=m.on.frm.getD k default:=ix_nat _ _
 have eT : ix m.on.to (k : Int)=m.on.to.getD k default:=ix_nat _ _
 have eE : ix LE (m.on.frm.getD k default)=dayE m f g (m.on.frm.getD k default):=by rw [← eF]; exact atE kf
 have eE2 : ix LE (m.on.to.getD k default)=dayE m f g (m.on.to.getD k default):=by rw [← eT]; exact atE kt
 have eC : ix LC (m.on.frm.getD k default)=clD m f g (m.on.frm.getD k default):=by rw [← eF]; exact atC kf
 have eC2 : ix LC (m.on.to.getD k default)=clD m f g (m.on.to.getD k default):=by rw [← eT]; exact atC kt
 rw [eF] at ef cf;rw [eT] at et ct
 have h256:=(fw kf).1;rw [eF] at h256;refine ⟨⟨z0,Int.le_refl _,by simp only [maxL]; omega,by simp only [maxL]; omega⟩,mks_list iI 0 rfl o fun id18 H o=>?_⟩
 have o : Owns H0 H ((id18,.cells 1 ((rowK m f g k 0).map iI) 0)::[(id11,.cells 7 (sfB m.on (.buf bS m.on.objs.toNat) (.buf bA k)) 0),(bA,.cells 1 (((List.range k).map fun k : Nat=>dayR m f g k).map iL) 0),(bS,.cells 1 (LS.map iI) 0),(id6,.cells 7 z7c 0)]):=by rw [rowK_zero,eF]; exact o
 refine tt ?_
 refine awp_for [6,8,9,10,11,15,16,17,18] (G:=Unit) (fun i _=>[(19,some (.int .i64 (i : Int)))])
  (fun i _ H=>Owns H0 H ((id18,.cells 1 ((rowK m f g k i).map iI) 0)::[(id11,.cells 7 (sfB m.on (.buf bS m.on.objs.toNat) (.buf bA k)) 0),(bA,.cells 1 (((List.range k).map fun k : Nat=>dayR m f g k).map iL) 0),(bS,.cells 1 (LS.map iI) 0),(id6,.cells 7 z7c 0)])) (dayE m f g (m.on.frm.getD k default)).length () o rfl ?_
 clear o
 rintro i _ H hi o;refine tt ?_;refine ⟨ef, ?_⟩;rw [eE];refine tt ?_;apply bk <;> intro h2
 rotate_left
 ·have h2p:=of_ndecide h2
  obtain rfl : i=(dayE m f g (m.on.frm.getD k default)).length:=by omega
  have ro : rowK m f g (k : Int) (dayE m f g (m.on.frm.getD k default)).length=dayR m f g k:=by rw [← eF]; exact rowK_full
  rw [ro] at o;refine tt ?_;refine fz_own (f:=iI) o (by have:=dayR_len (m:=m) (f:=f) (g:=g) (k : Int); rw [eF] at this; omega) fun H o=>tt ?_;refine rd_cells o (by simp [sfB]) ?_
  have e6 : (sfB m.on (.buf bS m.on.objs.toNat) (.buf bA k)).getD 6 nv=.buf bA k:=rfl;refine tw e6 ?_;refine app_own (f:=iL) (dayR m f g k) o.swap rfl (by simp) (by simp only [List.length_map,List.length_range,maxL]; omega) fun bA2 H o=>?_;rw [← map_range_succ] at o;simp only [List.length_append,List.length_map,List.length_range,List.length_singleton];refine tt ?_;refine st_cells o.swap (by simp [sfB]) (by (try simp only [go_sem]); (try simp)) (by first | (simp only [go_sem]; done) | ((try simp only [go_sem]); simp [AV.one,one_mL])) fun H o=>?_
  have o : Owns H0 H [(id11,.cells 7 (sfB m.on (.buf bS m.on.objs.toNat) (.buf bA2 (k+1))) 0),(bA2,.cells 1 (((List.range (k+1)).map fun k : Nat=>dayR m f g k).map iL) 0),(bS,.cells 1 (LS.map iI) 0),(id6,.cells 7 z7c 0)]:=o;refine tw w1 ?_;exact for_next bA2 h1p o rfl
 have h2p:=of_decide h2
 have h2q : i<(dayE m f g (m.on.frm.getD k default)).length:=by omega
 have w2:=wsucc (k:=i) (by omega)
 obtain ⟨E,pE1⟩:=pos_at (m:=m) (f:=f) (g:=g) h2q
 obtain ⟨u,hu⟩ : ∃ u,(dayE m f g (m.on.frm.getD k default)).getD i default=u:=⟨_,rfl⟩;rw [hu] at E pE1
 have ul : u.length=5:=by rw [E.ex]; rfl
 have E' : Ent m f g (ix m.on.frm (k : Int)) u:=by rw [eF]; exact E
 have mv:=E'.mv D kA
 have kA' : m.on.ArR (k : Int):=kA
 have ci:=cls_i (m:=m) (f:=f) (g:=g) h2q;rw [hu] at ci
 have cr:=cl_ran E;rw [← ci] at cr
 have pv:=pos_in mv;rw [eT] at pv mv
 have dr:=dayR_at D kA E';rw [eF,eT,← ci] at dr
 have rs:=rowK_succ (m:=m) (f:=f) (g:=g) (k:=(k : Int)) (i:=i) (by rw [eF]; exact h2q);rw [eF,dr] at rs;refine tt ?_;refine ⟨ef, ?_⟩;rw [eE,eC,eE2,hu];refine ⟨h2q,cf,by rw [clD_len]; exact h2q,ct,et,⟨by omega,by rw [ul]; decide⟩,⟨by omega,by rw [ul]; decide⟩,⟨by omega,by rw [ul]; decide⟩,_,(l02Then_t B p.on.1 E.h kA).run,⟨by omega,by rw [ul]; decide⟩,⟨by omega,by rw [ul]; decide⟩,by simp [AV.cells,AV.one],_,(l09Find_ok B (dayE m f g (m.on.to.getD k default)) (movE m u k)).run, ?_⟩;rw [eC2];refine tt ?_;refine ⟨⟨pv.1,by rw [clD_len]; exact pv.2.1⟩,⟨cr.1,by have h1:=cr.1; have h2:=cr.2; omega⟩, ?_⟩;refine set_own (clE m f g (m.on.to.getD k default) (movE m u k)) o rfl (by rw [rowK_len,eF]; have h1:=cr.1; have h2:=cr.2; omega) fun H o=>?_;rw [rs] at o;refine tw w2 ?_;exact for_next () h2q o rfl
def TabI (T : List (List Int)) (n : Int) : Prop:=(T.length : Int)=n∧∀ r,r∈T→(r.length : Int)=n∧∀ v,v∈r→0≤v∧v<n
theorem tabI_iff {T : List (List Int)} {n : Nat} : TabI T n↔TabN n T :=
 ⟨fun h=>⟨by have:=h.1; omega,fun r hr=>⟨by have:=(h.2 r hr).1; omega,(h.2 r hr).2⟩⟩,fun h=>⟨by have:=h.1; omega,fun r hr=>⟨by have:=(h.2 r hr).1; omega,(h.2 r hr).2⟩⟩⟩
theorem isTable_ok (B : Nat) (T : List (List Int)) (n : Int) (hn : 0≤n∧n≤1000) : Pur Tryz.prog B 185 [iLL T,iI n] (.bool (dec (TabI T n))):=by
 refine ⟨fun H0=>c185.go fun hf=>?_⟩;refine tt ?_
 by_cases e : (T.length : Int)=n
 rotate_left
 ·rw [decide_eq_false e];refine tt ?_;exact pure_ret (by rw [dec_f fun q=>e q.1]) (.refl _)
 rw [decide_eq_true e];refine tt ?_;refine awp_for [1,11,12] (G:=Unit) (fun k _=>[(13,some (.int .i64 (k : Int)))]) (fun k _ H=>H=H0∧∀ i,i<k→(((T.getD i default).length : Int)=n∧∀ v,v∈T.getD i default→0≤v∧v<n)) T.length () ⟨rfl,by simp⟩ rfl ?_
 rintro k _ H hk ⟨rfl,hall⟩;refine tt ?_;apply bk <;> intro h1
 ·have h1p:=of_decide h1
  have w1:=wsucc (k:=k) (by omega)
  have hn' : ¬ (((T.getD k default).length : Int)=n∧∀ v,v∈T.getD k default→0≤v∧v<n)→¬ TabI T n:=fun hc h=>hc (h.2 _ (mem_getD.mpr ⟨k,by omega,rfl⟩));refine tt ?_;refine ⟨by omega, ?_⟩
  by_cases e1 : ((T.getD k default).length : Int)=n
  rotate_left
  ·rw [decide_eq_false e1];refine tt ?_;exact pure_ret (by rw [dec_f (hn' fun q=>e1 q.1)]) (.refl _)
  rw [decide_eq_true e1];refine tt ?_;refine (within_ok B (T.getD k default) n (by omega)).run.use ?_
  by_cases e2 : ∀ v,v∈T.getD k default→0≤v∧v<n
  ·rw [dec_t e2];refine tw w1 ?_;exact for_next () (by omega) ⟨rfl,lt_succ_all hall ⟨e1,e2⟩⟩ rfl
  ·rw [dec_f e2];refine tt ?_;exact pure_ret (by rw [dec_f (hn' fun q=>e2 q.2)]) (.refl _)
 ·have h1p:=of_ndecide h1;refine tt ?_;exact pure_ret (by rw [dec_t]; exact ⟨e,fun r hr=>by obtain ⟨i,hi,rfl⟩:=mem_getD.mp hr; exact hall i (by omega)⟩) (.refl _)
theorem isIdentity_ok (B : Nat) {c : Cat} (hc : c.Is) {f : Int} (hf : c.ArR f) : Pur Tryz.prog B 187 [.ptr c.cells,iI f] (.bool (decide (ix c.idn (ix c.frm f)=f))):=by
 refine ⟨fun H0=>c187.go fun _=>?_⟩;refine tt ?_;refine ⟨hf,hc.1.idI (hc.1.frmObj hf.2), ?_⟩;exact pure_ret rfl (.refl _)
theorem isAssociative_ok (B : Nat) {n : Nat} {T : List (List Int)} (h : TabN n T) {u : Int} (hu : 0≤u∧u.toNat<T.length) (hl : T.length≤1000000) : Pur Tryz.prog B 188 [iLL T,iI u] (.bool (dec (Whole T u))):=by
 refine ⟨fun H0=>c188.go fun hf=>?_⟩;refine tt ?_;refine awp_for [0,1,9] (G:=Unit) (fun k _=>[(10,some (.int .i64 (k : Int)))]) (fun k _ H=>H=H0∧∀ i,i<k→WholeAt T u i) T.length () ⟨rfl,by simp⟩ rfl ?_
 rintro k _ H hk ⟨rfl,hall⟩;refine tt ?_;apply bk <;> intro h1
 rotate_left
 ·have h1p:=of_ndecide h1;refine tt ?_;exact pure_ret (by rw [dec_t]; intro i hi; exact hall i (by omega)) (.refl _)
 have h1p : k<T.length:=by have:=of_decide h1; omega
 have w1:=wsucc (k:=k) (by omega)
 have hn : ¬ WholeAt T u k→¬ Whole T u:=fun hc h=>hc (h k h1p)
 have g1:=tab_get h hu.2 h1p
 have g2:=tab_get h h1p hu.2;refine tt ?_;refine ⟨h1p,⟨hu.1,g2.1⟩, ?_⟩
 by_cases e2 : ix (T.getD k default) u=(k : Int)
 rotate_left
 ·rw [decide_eq_false e2];refine tt ?_;exact pure_ret (by rw [dec_f (hn fun q=>e2 (by have:=q.1.2; rwa [ix_nat] at this))]) (.refl _)
 rw [decide_eq_true e2];refine tt ?_;refine ⟨hu,g1.1, ?_⟩
 by_cases e1 : (ix T u).getD k default=(k : Int)
 rotate_left
 ·rw [decide_eq_false e1];refine tt ?_;exact pure_ret (by rw [dec_f (hn fun q=>e1 (by have:=q.1.1; rwa [ix_nat] at this))]) (.refl _)
 rw [decide_eq_true e1]
 have e0 : (ix (ix T u) k=k∧ix (ix T k) u=k):=⟨by rw [ix_nat]; exact e1,by rw [ix_nat]; exact e2⟩;refine tt ?_;refine awp_for [0,1,5,9,10,34] (G:=Unit) (fun j _=>[(35,some (.int .i64 (j : Int)))]) (fun j _ H'=>H'=H∧∀ i : Nat,i<j→∀ l : Nat,l<T.length→ix (ix T (ix (ix T k) i)) l=ix (ix T k) (ix (ix T i) l)) T.length () ⟨rfl,by simp⟩ rfl ?_
 rintro j _ H hj ⟨rfl,hJ⟩;refine tt ?_;apply bk <;> intro h2
 rotate_left
 ·have h2p:=of_ndecide h2;refine tw w1 ?_;exact for_next () h1p ⟨rfl,lt_succ_all hall ⟨e0,fun i hi=>hJ i (by omega)⟩⟩ rfl
 have h2p : j<T.length:=by have:=of_decide h2; omega
 have w2:=wsucc (k:=j) (by omega)
 have g3:=tab_get h h1p h2p;refine tt ?_;refine awp_for [0,1,5,6,9,10,34,35,39] (G:=Unit) (fun l _=>[(40,some (.int .i64 (l : Int)))]) (fun l _ H'=>H'=H∧∀ i : Nat,i<l→ix (ix T (ix (ix T k) j)) i=ix (ix T k) (ix (ix T j) i)) T.length () ⟨rfl,by simp⟩ rfl ?_
 rintro l _ H' hll ⟨rfl,hL⟩;refine tt ?_;apply bk <;> intro h3
 rotate_left
 ·have h3p:=of_ndecide h3;refine tw w2 ?_;exact for_next () h2p ⟨rfl,lt_succ_all hJ fun i hi=>hL i (by omega)⟩ rfl
 have h3p : l<T.length:=by have:=of_decide h3; omega
 have w3:=wsucc (k:=l) (by omega)
 have g4:=tab_get h h2p h3p
 have g5:=tab_get h (i:=((T.getD k default).getD j default).toNat) g3.2.2 h3p
 have g6:=tab_get h h1p (j:=((T.getD j default).getD l default).toNat) g4.2.2;refine tt ?_;refine ⟨h1p,g3.1,⟨g3.2.1,g3.2.2⟩,g5.1,h1p,h2p,g4.1,⟨g4.2.1,g6.1⟩, ?_⟩
 have en : (ix (ix T (ix (ix T k) j)) l=ix (ix T k) (ix (ix T j) l))=((ix T ((T.getD k default).getD j default)).getD l default=ix (T.getD k default) ((T.getD j default).getD l default)):=by simp only [ix_nat]
 by_cases e3 : (ix T ((T.getD k default).getD j default)).getD l default=ix (T.getD k default) ((T.getD j default).getD l default)
 ·rw [decide_eq_true e3];refine tw w3 ?_;exact for_next () h3p ⟨rfl,lt_succ_all hL (Eq.mpr en e3)⟩ rfl
 ·rw [decide_eq_false e3];refine tt ?_;exact pure_ret (by rw [dec_f (hn fun q=>e3 (Eq.mp en (q.2 j h2p l h3p)))]) (.refl _)
def IntE (m : Mo) (f h g k : Int) : Prop:=m.a (m.c f h) (m.c g k)=m.c (m.a f g) (m.a h k)
def IntG (m : Mo) (f h g : Int) : Prop:=∀ k,k∈outs m.on (ix m.on.to g)→IntE m f h g k
def IntH (m : Mo) (f h : Int) : Prop:=∀ g : Nat,g<m.on.frm.length→IntG m f h g
def IntL (m : Mo) : Prop:=∀ f : Nat,f<m.on.frm.length→∀ h,h∈outs m.on (ix m.on.to (f : Int))→IntH m f h
theorem out_ar {c : Cat} {x h : Int} (hh : h∈outs c x) : c.ArR h∧ix c.frm h=x:=by
 have:=mem_outs.mp hh;exact ⟨⟨this.1,this.2.1⟩,this.2.2⟩
theorem interchanges_ok (B : Nat) {m : Mo} (p : m.Pre) : Pur Tryz.prog B 189 [.ptr m.cells] (.bool (dec (IntL m))):=by
 refine ⟨fun H0=>c189.go fun hf=>?_⟩
 have hm:=p.on.1.m
 have tl:=p.on.1.tol
 have aR : ∀ {n : Nat},n<m.on.frm.length→m.on.ArR (n : Int):=fun {n} h=>⟨by omega,by simpa using h⟩
 have ol : ∀ x,(outs m.on x).length≤40:=fun x=>by
  have:=List.length_filter_le (fun i=>decide (m.on.frm.getD i default=x)) (List.range m.on.frm.length);rw [List.length_range] at this;rw [outs,List.length_map]; omega
 refine tt ?_;refine awp_for [0,3,17] (G:=Unit) (fun k _=>[(18,some (.int .i64 (k : Int)))]) (fun k _ H=>H=H0∧∀ f : Nat,f<k→∀ h,h∈outs m.on (ix m.on.to (f : Int))→IntH m f h) m.on.frm.length () ⟨rfl,by simp⟩ rfl ?_
 rintro f _ H hf ⟨rfl,hF⟩;refine tt ?_;apply bk <;> intro h1
 rotate_left
 ·have h1p:=of_ndecide h1;refine tt ?_;exact pure_ret (by rw [dec_t]; exact fun f hf=>hF f (by omega)) (.refl _)
 have h1p : f<m.on.frm.length:=by have:=of_decide h1; omega
 have w1:=wsucc (k:=f) (by omega);refine tt ?_;refine ⟨by rw [tl]; exact h1p,(outOf_ok B m.on _).go fun _=>?_⟩
 obtain ⟨L1,hL1⟩ : ∃ L,outs m.on (m.on.to.getD f default)=L:=⟨_,rfl⟩
 have e1 : outs m.on (ix m.on.to (f : Int))=L1:=by rw [ix_nat]; exact hL1
 have l1 : L1.length≤40:=by rw [← hL1]; exact ol _
 rw [hL1];refine tt ?_;refine awp_for [0,3,4,17,18,29,30] (G:=Unit) (fun k _=>[(31,some (.int .i64 (k : Int)))]) (fun k _ H'=>H'=H∧∀ i : Nat,i<k→IntH m f (L1.getD i default)) L1.length () ⟨rfl,by simp⟩ rfl ?_
 rintro a _ H' ha ⟨rfl,hA⟩;refine tt ?_;apply bk <;> intro h2
 rotate_left
 ·have h2p:=of_ndecide h2;refine tw w1 ?_;exact for_next () h1p ⟨rfl,lt_succ_all hF fun h hh=>by rw [hL1] at hh; obtain ⟨i,hi,rfl⟩:=mem_getD.mp hh; exact hA i (by omega)⟩ rfl
 have h2p : a<L1.length:=by have:=of_decide h2; omega
 have w2:=wsucc (k:=a) (by omega)
 obtain ⟨h,hh⟩ : ∃ h,L1.getD a default=h:=⟨_,rfl⟩
 have hm1 : h∈outs m.on (ix m.on.to (f : Int)):=by rw [e1,← hh]; exact mem_getD.mpr ⟨a,h2p,rfl⟩
 have hA1:=out_ar hm1;refine tt ?_;refine ⟨h2p, ?_⟩;rw [hh];refine tt ?_;refine awp_for [0,3,4,6,17,18,29,30,31,39] (G:=Unit) (fun k _=>[(40,some (.int .i64 (k : Int)))]) (fun k _ H=>H=H'∧∀ g : Nat,g<k→IntG m f h g) m.on.frm.length () ⟨rfl,by simp⟩ rfl ?_
 rintro g _ H hg ⟨rfl,hG⟩;refine tt ?_;apply bk <;> intro h3
 rotate_left
 ·have h3p:=of_ndecide h3;refine tw w2 ?_;exact for_next () h2p ⟨rfl,lt_succ_all hA (by rw [hh]; exact fun g hg=>hG g (by omega))⟩ rfl
 have h3p : g<m.on.frm.length:=by have:=of_decide h3; omega
 have w3:=wsucc (k:=g) (by omega);refine tt ?_;refine ⟨by rw [tl]; exact h3p,(outOf_ok B m.on _).go fun _=>?_⟩
 obtain ⟨L2,hL2⟩ : ∃ L,outs m.on (m.on.to.getD g default)=L:=⟨_,rfl⟩
 have e2 : outs m.on (ix m.on.to (g : Int))=L2:=by rw [ix_nat]; exact hL2
 have l2 : L2.length≤40:=by rw [← hL2]; exact ol _
 rw [hL2];refine tt ?_;refine awp_for [0,3,4,6,7,17,18,29,30,31,39,40,51,52] (G:=Unit) (fun k _=>[(53,some (.int .i64 (k : Int)))]) (fun k _ H'=>H'=H∧∀ i : Nat,i<k→IntE m f h g (L2.getD i default)) L2.length () ⟨rfl,by simp⟩ rfl ?_
 rintro b _ H' hb ⟨rfl,hB⟩;refine tt ?_;apply bk <;> intro h4
 rotate_left
 ·have h4p:=of_ndecide h4;refine tw w3 ?_;exact for_next () h3p ⟨rfl,lt_succ_all hG fun k hk=>by rw [e2] at hk; obtain ⟨i,hi,rfl⟩:=mem_getD.mp hk; exact hB i (by omega)⟩ rfl
 have h4p : b<L2.length:=by have:=of_decide h4; omega
 have w4:=wsucc (k:=b) (by omega)
 obtain ⟨k,hk⟩ : ∃ k,L2.getD b default=k:=⟨_,rfl⟩
 have hm2 : k∈outs m.on (ix m.on.to (g : Int)):=by rw [e2,← hk]; exact mem_getD.mpr ⟨b,h4p,rfl⟩
 have hA2:=out_ar hm2
 have c1:=p.cE (aR h1p) hA1.1 hA1.2.symm
 have c2:=p.cE (aR h3p) hA2.1 hA2.2.symm
 have q1:=mo_aI p c1.1 c2.1
 have q2:=mo_aI p (aR h1p) (aR h3p)
 have q3:=mo_aI p hA1.1 hA2.1
 have r2:=p.aA (aR h1p) (aR h3p)
 have r3:=p.aA hA1.1 hA2.1;refine tt ?_;refine ⟨h4p, ?_⟩;rw [hk];refine tt ?_;refine ⟨_,(iThen_t B p.on.1 (aR h1p) hA1.1).run,tt ?_⟩;refine ⟨⟨q1.1.1,q1.1.2⟩,_,(iThen_t B p.on.1 (aR h3p) hA2.1).run,tt ?_⟩
 have e91 : PureF Tryz.prog B 91 [.ptr m.on.cells,iI ((m.ar.getD f default).getD g default),iI (ix (ix m.ar h) k)] (iI (m.c (m.a f g) (m.a h k))):=by
  have:=(iThen_t B p.on.1 r2 r3).run;simp only [Mo.a,ix_nat] at this ⊢;exact this
 refine ⟨⟨c2.1.1,q1.2.2⟩,q2.1.2,q2.2.2,q3.1,q3.2,_,e91, ?_⟩
 have hn : ¬ IntE m f h g k→¬ IntL m:=fun hc q=>hc (q f h1p h hm1 g h3p k hm2)
 have ed : IntE m f h g k=(ix (ix m.ar (ix (m.on.comp.getD f default) h)) (ix (m.on.comp.getD g default) k)=m.c (m.a f g) (m.a h k)):=by simp only [IntE,Mo.a,Mo.c,ix_nat]
 by_cases e : ix (ix m.ar (ix (m.on.comp.getD f default) h)) (ix (m.on.comp.getD g default) k)=m.c (m.a f g) (m.a h k)
 ·refine tt ?_;rw [decide_eq_true e];refine tw w4 ?_;exact for_next () h4p ⟨rfl,lt_succ_all hB (by rw [hk]; exact Eq.mpr ed e)⟩ rfl
 ·refine tt ?_;rw [decide_eq_false e];refine tt ?_;exact pure_ret (by rw [dec_f (hn fun q=>e (Eq.mp ed q))]) (.refl _)
def IdP (c : Cat) (f : Int) : Prop:=ix c.idn (ix c.frm f)=f
def EndI (m : Mo) (f g : Int) : Prop:=EndsAt m f g∧(IdP m.on f→IdP m.on g→IdP m.on (m.a f g))
def EndJ (m : Mo) : Prop:=∀ f : Nat,f<m.on.frm.length→∀ g : Nat,g<m.on.frm.length→EndI m f g
theorem mo_is2 {m : Mo} : m.Is↔m.Pre∧EndJ m∧Whole m.ob m.unit∧Whole m.ar (ix m.on.idn m.unit)∧IntL m:=by
 have nat : ∀ {a : Int},m.on.ArR a→∃ n : Nat,a=n∧n<m.on.frm.length:=fun {a} h=>⟨a.toNat,(Int.toNat_of_nonneg h.1).symm,h.2⟩
 have ar : ∀ {n : Nat},n<m.on.frm.length→m.on.ArR (n : Int):=fun {n} h=>⟨by omega,by simpa using h⟩
 constructor
 ·intro h;refine ⟨h.toPre,fun f hf g hg=>⟨h.ends f g (ar hf) (ar hg),fun i1 i2=>?_⟩,h.wo,h.wa,fun f hf k hk g hg l hl=>?_⟩
  ·have P:=h.toPre
   have q:=h.idn (ix m.on.frm f) (ix m.on.frm g) (P.fO (ar hf)) (P.fO (ar hg));rw [i1,i2] at q;rw [IdP,q]
   have:=P.idE (P.oO (P.fO (ar hf)) (P.fO (ar hg)));rw [this.2.1]
  ·have k1:=out_ar hk
   have k2:=out_ar hl;exact h.inter f k g l (ar hf) k1.1 (ar hg) k2.1 k1.2.symm k2.2.symm
 ·rintro ⟨p,he,wo,wa,hn⟩;refine ⟨p,fun f g hf hg=>?_,wo,wa,fun x y hx hy=>?_,fun f h g k hf hh hg hk e1 e2=>?_⟩
  ·obtain ⟨f,rfl,hf'⟩:=nat hf
   obtain ⟨g,rfl,hg'⟩:=nat hg;exact (he f hf' g hg').1
  ·have ix1:=p.idE hx
   have iy1:=p.idE hy
   obtain ⟨f,ef,hf'⟩:=nat ix1.1
   obtain ⟨g,eg,hg'⟩:=nat iy1.1
   have q:=he f hf' g hg';rw [← ef,← eg] at q
   have r:=q.2 (by rw [IdP,ix1.2.1]) (by rw [IdP,iy1.2.1]);rw [IdP,q.1.1,ix1.2.1,iy1.2.1] at r;exact r.symm
  ·obtain ⟨f,rfl,hf'⟩:=nat hf
   obtain ⟨g,rfl,hg'⟩:=nat hg;exact hn f hf' h (mem_outs.mpr ⟨hh.1,hh.2,e1.symm⟩) g hg' k (mem_outs.mpr ⟨hk.1,hk.2,e2.symm⟩)
theorem isMonoidal_ok (B : Nat) (m : Mo) : Pur Tryz.prog B 84 [.ptr m.cells] (.bool (dec m.Is)):=by
 refine ⟨fun H0=>c84.go fun hf=>?_⟩
 have np : ¬ m.Pre→¬ m.Is:=fun h q=>h q.toPre;refine tt ?_;refine ⟨_,(isCategory_ok B m.on).run, ?_⟩
 by_cases g1 : m.on.Is
 rotate_left
 ·rw [dec_f g1];refine tt ?_;exact pure_ret (by rw [dec_f (np fun p=>g1 p.on)]) (.refl _)
 rw [dec_t g1]
 have hm:=g1.1.m
 have ho:=g1.1.o
 have w0 : IntKind.i64.wrap (m.on.objs - 1)=m.on.objs - 1:=wrap_i64 (by omega) (by omega);refine tw w0 ?_;refine ⟨_,(inRange_ok B m.unit 0 (m.on.objs - 1)).run, ?_⟩
 by_cases g2 : 0≤m.unit∧m.unit≤m.on.objs - 1
 rotate_left
 ·rw [dec_f g2];refine tt ?_;exact pure_ret (by rw [dec_f (np fun p=>g2 ⟨p.un.1,by have:=p.un.2; omega⟩)]) (.refl _)
 rw [dec_t g2];refine tt ?_;refine ⟨_,(isTable_ok B m.ob m.on.objs (by omega)).run, ?_⟩
 by_cases g3 : TabI m.ob m.on.objs
 rotate_left
 ·rw [dec_f g3];refine tt ?_;exact pure_ret (by rw [dec_f (np fun p=>g3 (by have:=tabI_iff.mpr p.ot; rwa [Int.toNat_of_nonneg ho.1] at this))]) (.refl _)
 rw [dec_t g3];refine tt ?_;refine ⟨_,(arrows_ok B m.on).run,_,(isTable_ok B m.ar m.on.frm.length (by omega)).run, ?_⟩
 by_cases g4 : TabI m.ar m.on.frm.length
 rotate_left
 ·rw [dec_f g4];refine tt ?_;exact pure_ret (by rw [dec_f (np fun p=>g4 (tabI_iff.mpr p.at'))]) (.refl _)
 rw [dec_t g4]
 have p : m.Pre:=⟨g1,⟨g2.1,by have:=g2.2; omega⟩,tabI_iff.mp (by rw [Int.toNat_of_nonneg ho.1]; exact g3),tabI_iff.mp g4⟩
 have hol:=p.ot.1
 have hal:=p.at'.1
 have iu:=p.idE p.un
 have tl:=g1.1.tol
 have aR : ∀ {n : Nat},n<m.on.frm.length→m.on.ArR (n : Int):=fun {n} h=>⟨by omega,by simpa using h⟩;refine tt ?_;refine awp_for [0,3,52,53] (G:=Unit) (fun k _=>[(54,some (.int .i64 (k : Int)))]) (fun k _ H=>H=H0∧∀ f : Nat,f<k→∀ g : Nat,g<m.on.frm.length→EndI m f g) m.on.frm.length () ⟨rfl,by simp⟩ rfl ?_
 rintro f _ H hf ⟨rfl,hF⟩;refine tt ?_;apply bk <;> intro h1
 ·have h1p : f<m.on.frm.length:=by have:=of_decide h1; omega
  have w1:=wsucc (k:=f) (by omega)
  have rl : (m.ar.getD f default).length=m.on.frm.length:=(p.at'.2 _ (mem_getD.mpr ⟨f,by omega,rfl⟩)).1;refine tt ?_;refine ⟨by omega, ?_⟩;refine awp_for [0,3,4,52,53,54,59,60] (G:=Unit) (fun k _=>[(61,some (.int .i64 (k : Int)))]) (fun k _ H'=>H'=H∧∀ g : Nat,g<k→EndI m f g) m.on.frm.length () ⟨rfl,by simp⟩ rfl ?_
  rintro g _ H' hg ⟨rfl,hG⟩;refine tt ?_;apply bk <;> intro h2
  rotate_left
  ·have h2p:=of_ndecide h2;refine tw w1 ?_;exact for_next () h1p ⟨rfl,lt_succ_all hF fun g hg=>hG g (by omega)⟩ rfl
  have h2p : g<m.on.frm.length:=by have:=of_decide h2; omega
  have w2:=wsucc (k:=g) (by omega)
  have r2:=p.aA (aR h1p) (aR h2p)
  have f1:=mo_oI p (p.fO (aR h1p)) (p.fO (aR h2p))
  have t1:=mo_oI p (p.tO (aR h1p)) (p.tO (aR h2p))
  have hn : ¬ EndI m f g→¬ m.Is:=fun hc q=>hc ((mo_is2.mp q).2.1 f h1p g h2p)
  have ea : m.a f g=(m.ar.getD f default).getD g default:=by simp only [Mo.a,ix_nat]
  refine tt ?_;refine ⟨by rw [rl]; exact h2p, ?_⟩;refine ⟨_,(ends_ok B m.on _ (by rw [← ea]; exact r2) (by rw [← ea,tl]; exact r2.2)).run,h1p,f1.1,h2p,f1.2,by rw [tl]; exact h1p,t1.1,by rw [tl]; exact h2p,t1.2,tt ?_⟩
  have ed : EndsAt m f g=(ix m.on.frm ((m.ar.getD f default).getD g default)=ix (ix m.ob (m.on.frm.getD f default)) (m.on.frm.getD g default)∧ix m.on.to ((m.ar.getD f default).getD g default)=ix (ix m.ob (m.on.to.getD f default)) (m.on.to.getD g default)):=by simp only [EndsAt,Mo.a,Mo.o,ix_nat]
  by_cases e0 : EndsAt m f g
  rotate_left
  ·rw [dec_f fun q=>e0 (Eq.mpr ed q)];refine tt ?_;exact pure_ret (by rw [dec_f (hn fun q=>e0 q.1)]) (.refl _)
  rw [dec_t (Eq.mp ed e0)];refine tt ?_;refine (isIdentity_ok B g1 (aR h1p)).run.use ?_
  by_cases i1 : ix m.on.idn (ix m.on.frm (f : Int))=(f : Int)
  rotate_left
  ·rw [decide_eq_false i1];refine tw w2 ?_;exact for_next () h2p ⟨rfl,lt_succ_all hG ⟨e0,fun q=>absurd q i1⟩⟩ rfl
  rw [decide_eq_true i1];refine tt ?_;refine (isIdentity_ok B g1 (aR h2p)).run.use ?_
  by_cases i2 : ix m.on.idn (ix m.on.frm (g : Int))=(g : Int)
  rotate_left
  ·rw [decide_eq_false i2];refine tw w2 ?_;exact for_next () h2p ⟨rfl,lt_succ_all hG ⟨e0,fun _ q=>absurd q i2⟩⟩ rfl
  rw [decide_eq_true i2];refine tt ?_;refine (isIdentity_ok B g1 (by rw [← ea]; exact r2)).run.use ?_
  by_cases i3 : ix m.on.idn (ix m.on.frm ((m.ar.getD f default).getD g default))=(m.ar.getD f default).getD g default
  ·rw [decide_eq_true i3];refine tw w2 ?_;exact for_next () h2p ⟨rfl,lt_succ_all hG ⟨e0,fun _ _=>by rw [IdP,ea]; exact i3⟩⟩ rfl
  ·rw [decide_eq_false i3];refine tt ?_;exact pure_ret (by rw [dec_f (hn fun q=>i3 (by have:=q.2 i1 i2; rw [IdP,ea] at this; exact this))]) (.refl _)
 have h1p:=of_ndecide h1
 have g5 : EndJ m:=fun f hf g hg=>hF f (by omega) g hg;clear h1 h1p hF hf
 have uo : m.unit.toNat<m.ob.length:=by rw [hol]; have:=p.un.1; have:=p.un.2; omega
 refine tt ?_;refine ⟨_,(isAssociative_ok B p.ot ⟨p.un.1,uo⟩ (by omega)).run, ?_⟩
 by_cases g6 : Whole m.ob m.unit
 rotate_left
 ·rw [dec_f g6];refine tt ?_;exact pure_ret (by rw [dec_f fun q=>g6 q.wo]) (.refl _)
 rw [dec_t g6];refine tt ?_;refine ⟨g1.1.idI p.un,_,(isAssociative_ok B p.at' ⟨iu.1.1,by rw [hal]; exact iu.1.2⟩ (by omega)).run, ?_⟩
 by_cases g7 : Whole m.ar (ix m.on.idn m.unit)
 rotate_left
 ·rw [dec_f g7];refine tt ?_;exact pure_ret (by rw [dec_f fun q=>g7 q.wa]) (.refl _)
 rw [dec_t g7];refine tt ?_;refine ⟨_,(interchanges_ok B p).run, ?_⟩
 by_cases g8 : IntL m
 ·rw [dec_t g8];refine tt ?_;exact pure_ret (by rw [dec_t]; exact mo_is2.mpr ⟨p,g5,g6,g7,g8⟩) (.refl _)
 ·rw [dec_f g8];refine tt ?_;exact pure_ret (by rw [dec_f fun q=>g8 (mo_is2.mp q).2.2.2.2]) (.refl _)
end Go.Proofs.Shf
namespace Go.AW
open Go.Proofs Go.Shf Go.Proofs.Shf
theorem LsO.perm {α : Type} {f : α→AV} {H0 H : Heap} {l l' : List (Nat × MObj)} {X : AV} {A : List α} (h : LsO f H0 H l X A) (p : l.Perm l') : LsO f H0 H l' X A:=by
 rcases h with ⟨a,b,o⟩ | ⟨id,a,o⟩
 ·exact .inl ⟨a,b,o.perm p⟩
 ·exact .inr ⟨id,a,o.perm (p.cons _)⟩
end Go.AW
namespace Go.Proofs.Shf
open Go.AW Go.Proofs Go.Shf
noncomputable def dayAtN (m : Mo) (f g : SF) (z : Nat) : AV:=dayAt m f g z
noncomputable instance (m : Mo) (f g : SF) : One (dayAtN m f g):=⟨fun _=>rfl,fun _=>rfl⟩
theorem classesI_ok (B : Nat) (l : List Int) (h : ∀ v,v∈l→0≤v∧v<l.length) : Pur Tryz.prog B 88 [iL l] (iI (mxL l)):=by
 refine ⟨fun H0=>c88.go fun ⟨hf,_⟩=>?_⟩
 have hl:=fine_mL_le hf;simp only [maxL] at hl;refine tt ?_;refine awp_for [6,7] (fun k _=>[(3,some (iI (mxL (l.take k)))),(8,some (.int .i64 (k : Int)))]) (fun k _ H=>H=H0) l.length () rfl rfl ?_
 rintro k _ H hk rfl;refine tt ?_;apply bk <;> intro h1
 ·have h1p:=of_decide h1
  have w1:=wsucc (k:=k) (by omega)
  have hv:=h _ (mem_getD.mpr ⟨k,h1p,rfl⟩)
  have w2 : IntKind.i64.wrap (l.getD k default+1)=l.getD k default+1:=wrap_i64 (by omega) (by omega);refine tt ?_;refine ⟨h1p, ?_⟩;try simp only [go_sem,↓reduceIte,reduceEqDiff,reduceAdd,reduceMul,reduceLeDiff,reduceLT,w2,w1]
  exact for_next () h1p rfl (by rw [mxL_succ l h1p])
 ·have h1p:=of_ndecide h1
  obtain rfl : k=l.length:=by omega
  rw [List.take_length];refine tt ?_;exact pure_ret rfl (.refl _)
theorem dayI_ok (B : Nat) (m : Mo) (f g : SF) : Pur Tryz.prog B 20 [.agg m.cells,.agg f.cells,.agg g.cells] (dayRes m f g):=by
 refine ⟨fun H0=>c20p.go fun hf=>?_⟩
 have o : Owns H0 H0 []:=.nil _;refine tt ?_;refine nb o fun id6 H o=>?_
 have o : Owns H0 H [(id6,.cells 7 z7c 0)]:=o;refine tt ?_
 have bad : ∀ {k : Int},codeDay m f g=k→k≠0→∀ {l : Ob} {H : Heap},Owns H0 H ((id6,.cells 7 zSF'.cells 0)::l)→subW (fun r' H'=>r'=dayRes m f g∧H'=H0) (.tup [.agg zSF'.cells,iI k]) H:=fun {k} h hk {l H} o=>pure_ret (dayRes_bad h hk).symm o.sub
 have c1 : ¬ (m.Is∧f.Is∧g.Is)→codeDay m f g=1:=fun h=>by unfold codeDay; rw [if_neg h]
 refine (isMonoidal_ok B m).go fun _=>?_
 by_cases g1 : m.Is
 rotate_left
 ·rw [dec_f g1];refine tt ?_;refine st_cells o (by simp [z7c]) (by (try simp only [go_sem]); (try simp)) (by first | (simp only [go_sem]; done) | ((try simp only [go_sem]); simp [AV.one,one_mL])) fun H o=>?_
  have o : Owns H0 H [(id6,.cells 7 z7c 0)]:=o;refine tt ?_;refine wk_z7 o fun H o=>wkW_done ?_;refine tt ?_;rw [o.rc 7 0 (by simp [SF.cells])];refine tt ?_;exact bad (c1 fun q=>g1 q.1) (by decide) o
 rw [dec_t g1];refine tt ?_
 refine (show Pur Tryz.prog B 54 [mL sfP [f,g]] (.bool (dec (f.Is∧g.Is))) from by
  have:=areSetFunctors_ok B [f,g]
  rwa [show dec (∀ h,h∈[f,g]→h.Is)=dec (f.Is∧g.Is) from dec_congr (by simp)] at this).go fun _=>?_
 by_cases g2 : f.Is∧g.Is
 rotate_left
 ·rw [dec_f g2];refine tt ?_;refine st_cells o (by simp [z7c]) (by (try simp only [go_sem]); (try simp)) (by first | (simp only [go_sem]; done) | ((try simp only [go_sem]); simp [AV.one,one_mL])) fun H o=>?_
  have o : Owns H0 H [(id6,.cells 7 z7c 0)]:=o;refine tt ?_;refine wk_z7 o fun H o=>wkW_done ?_;refine tt ?_;rw [o.rc 7 0 (by simp [SF.cells])];refine tt ?_;exact bad (c1 fun q=>g2 q.2) (by decide) o
 rw [dec_t g2]
 have c5 : ¬ (f.shape=m.on∧g.shape=m.on)→codeDay m f g=5:=fun h=>by unfold codeDay; rw [if_pos ⟨g1,g2.1,g2.2⟩,if_neg h]
 refine tt ?_;refine (sameCategory_ok B m.on f.shape).go fun _=>?_
 by_cases g4 : m.on=f.shape
 rotate_left
 ·rw [dec_f g4];refine tt ?_;refine st_cells o (by simp [z7c]) (by (try simp only [go_sem]); (try simp)) (by first | (simp only [go_sem]; done) | ((try simp only [go_sem]); simp [AV.one,one_mL])) fun H o=>?_
  have o : Owns H0 H [(id6,.cells 7 z7c 0)]:=o;refine tt ?_;refine wk_z7 o fun H o=>wkW_done ?_;refine tt ?_;rw [o.rc 7 0 (by simp [SF.cells])];refine tt ?_;exact bad (c5 fun q=>g4 q.1.symm) (by decide) o
 rw [dec_t g4];refine tt ?_;refine (sameCategory_ok B m.on g.shape).go fun _=>?_
 by_cases g5 : m.on=g.shape
 rotate_left
 ·rw [dec_f g5];refine tt ?_;refine st_cells o (by simp [z7c]) (by (try simp only [go_sem]); (try simp)) (by first | (simp only [go_sem]; done) | ((try simp only [go_sem]); simp [AV.one,one_mL])) fun H o=>?_
  have o : Owns H0 H [(id6,.cells 7 z7c 0)]:=o;refine tt ?_;refine wk_z7 o fun H o=>wkW_done ?_;refine tt ?_;rw [o.rc 7 0 (by simp [SF.cells])];refine tt ?_;exact bad (c5 fun q=>g5 q.2.symm) (by decide) o
 rw [dec_t g5]
 have D : DayO m f g:=⟨g1,g2.1,g2.2,g4.symm,g5.symm⟩
 have c3 : ¬ FewD m f g→codeDay m f g=3:=fun h=>by unfold codeDay; rw [if_pos ⟨g1,g2.1,g2.2⟩,if_pos ⟨g4.symm,g5.symm⟩,if_neg h]
 have p:=D.mI.toPre
 have ho:=p.on.1.o
 have hm:=p.on.1.m
 have tl:=p.on.1.tol;refine tt ?_;refine (catCopy_ok B m.on).go fun _=>tt ?_;refine nb o fun id9 H o=>?_
 have o : Owns H0 H [(id9,.cells 7 z7c 0),(id6,.cells 7 z7c 0)]:=o;refine tt ?_;refine st_cells o (by simp [z7c]) (by (try simp only [go_sem]); (try simp)) (by first | (simp only [go_sem]; done) | ((try simp only [go_sem]); simp [AV.one,one_mL])) fun H o=>?_
 have o : Owns H0 H [(id9,.cells 7 (sfB m.on .nilsl .nilsl) 0),(id6,.cells 7 z7c 0)]:=o;refine tt ?_;refine newBuf_own o fun b10 H o=>?_
 have o : LsO iI H0 H [(b10,.cells 1 ((List.range 0).map (dayAtN m f g)) 0),(id9,.cells 7 (sfB m.on .nilsl .nilsl) 0),(id6,.cells 7 z7c 0)] .nilsl ((List.range 0).map fun z : Nat=>szD m f g z):=.inl ⟨rfl,rfl,o⟩;refine tt ?_
 refine awp_for [3,4,5,6,8,9,47] (G:=Nat × AV) (fun z G=>[(10,some (.buf G.1 z)),(48,some (.int .i64 (z : Int)))])
  (fun z G H=>(∀ y : Nat,y<z→(dayE m f g y).length≤256)∧LsO iI H0 H [(G.1,.cells 1 ((List.range z).map (dayAtN m f g)) 0),(id9,.cells 7 (sfB m.on G.2 .nilsl) 0),(id6,.cells 7 z7c 0)] G.2 ((List.range z).map fun z : Nat=>szD m f g z)) m.on.objs.toNat (b10,.nilsl) ⟨fun y hy=>by omega,o⟩ rfl ?_
 clear o
 rintro z ⟨b10,XS⟩ H hz ⟨hfew,o⟩;dsimp only at hfew o;refine tt ?_;apply bk <;> intro h1
 rotate_left
 ·have h1p:=of_ndecide h1
  obtain rfl : z=m.on.objs.toNat:=by omega
  have o : LsO iI H0 H [(id9,.cells 7 (sfB m.on XS .nilsl) 0),(b10,.cells 1 ((List.range m.on.objs.toNat).map (dayAtN m f g)) 0),(id6,.cells 7 z7c 0)] XS ((List.range m.on.objs.toNat).map fun z : Nat=>szD m f g z):=o.perm (.swap _ _ _);refine tt ?_;refine wk_ls (f:=iI) 5 o rfl fun H o=>wkW_done ?_
  have o : Owns H0 H [(id9,.cells 7 (sfB m.on (iL ((List.range m.on.objs.toNat).map fun z : Nat=>szD m f g z)) .nilsl) 0),(b10,.cells 1 ((List.range m.on.objs.toNat).map (dayAtN m f g)) 0),(id6,.cells 7 z7c 0)]:=o
  obtain ⟨LS,hLS⟩ : ∃ LS,((List.range m.on.objs.toNat).map fun z : Nat=>szD m f g z)=LS:=⟨_,rfl⟩;rw [hLS] at o;refine tt ?_;refine rd_cells o (by simp [sfB]) ?_
  have e5 : ∀ X : AV,(sfB m.on (iL LS) X).getD 5 nv=iL LS:=fun _=>rfl;refine tw e5 ?_
  have inS : ∀ {y : Int},m.on.ObR y→ix LS y=szD m f g y:=fun {y} hy=>by
   have h1:=hy.1; have h2:=hy.2;rw [ix,← hLS,getD_map_range _ _ (by omega),Int.toNat_of_nonneg h1]
  have lS : LS.length=m.on.objs.toNat:=by rw [← hLS]; simp
  refine (show Pur Tryz.prog B 89 [iL LS] (.bool (dec (FewD m f g))) from ⟨fun H0=>c89.go fun _=>by
   have o : Owns H0 H0 []:=.nil _;refine tt ?_;refine (within_ok B LS 17 (by omega)).go fun _=>tt ?_;refine pure_ret ?_ (.refl _);refine congrArg AV.bool (dec_congr ⟨fun q y hy=>⟨hfew y hy, ?_⟩,fun q y hy=>?_⟩)
   ·have:=(q _ (mem_getD.mpr ⟨y,by rw [lS]; exact hy,rfl⟩)).2
    have e:=inS (y:=(y : Int)) ⟨by omega,by omega⟩;rw [ix_nat] at e;rw [e] at this; omega
   ·rw [← hLS] at hy
    obtain ⟨y',hy',rfl⟩:=List.mem_map.mp hy
    have:=(q y' (List.mem_range.mp hy')).2;exact ⟨szD_nn m f g _,by omega⟩⟩).go fun _=>?_
  by_cases few : FewD m f g
  rotate_left
  ·rw [dec_f few];refine tt ?_
   have o : Owns H0 H [(id6,.cells 7 z7c 0),(id9,.cells 7 (sfB m.on (iL LS) .nilsl) 0),(b10,.cells 1 ((List.range m.on.objs.toNat).map (dayAtN m f g)) 0)]:=o.pm;refine st_cells o (by simp [z7c]) (by (try simp only [go_sem]); (try simp)) (by first | (simp only [go_sem]; done) | ((try simp only [go_sem]); simp [AV.one,one_mL])) fun H o=>tt ?_;refine wk_z7 (show Owns H0 H ((id6,.cells 7 z7c 0)::_) from o) fun H o=>wkW_done ?_;refine tt ?_;rw [o.rc 7 0 (by simp [SF.cells])];refine tt ?_;exact bad (c3 few) (by decide) o
  rw [dec_t few];refine tt ?_
  have o : Owns H0 H ((b10,.cells 1 ((List.range m.on.objs.toNat).map (dayAtN m f g)) 0)::[(id9,.cells 7 (sfB m.on (iL LS) .nilsl) 0),(id6,.cells 7 z7c 0)]):=o.swap;refine fz_own (f:=dayAtN m f g) o (by simp) fun H o=>?_
  have o : LsO iL H0 H [(id9,.cells 7 (sfB m.on (iL LS) .nilsl) 0),(id6,.cells 7 z7c 0)] .nilsl ((List.range 0).map fun k : Nat=>dayR m f g k):=.inl ⟨rfl,rfl,o⟩;refine tt ?_
  refine awp_for [6,8,9,10,83] (G:=AV) (fun k G=>[(84,some (.int .i64 (k : Int)))])
   (fun k G H=>LsO iL H0 H [(id9,.cells 7 (sfB m.on (iL LS) G) 0),(id6,.cells 7 z7c 0)] G ((List.range k).map fun k : Nat=>dayR m f g k)) m.on.frm.length .nilsl o rfl ?_
  clear o
  rintro k XA H hk o;refine tt ?_;apply bk <;> intro h2
  rotate_left
  ·have h2p:=of_ndecide h2
   obtain rfl : k=m.on.frm.length:=by omega
   subst hLS;refine tt ?_;refine wk_ls (f:=iL) 6 o rfl fun H o=>wkW_done ?_
   have o : Owns H0 H [(id9,.cells 7 (dayF m f g).cells 0),(id6,.cells 7 z7c 0)]:=o;refine tt ?_;refine rd_celln o (by simp [SF.cells]) ?_;refine tt ?_;refine st_cells o.swap (by simp [z7c]) (by (try simp only [go_sem]); (try simp)) (by first | (simp only [go_sem]; done) | ((try simp only [go_sem]); simp [AV.one,one_mL])) fun H o=>?_
   have o : Owns H0 H [(id6,.cells 7 (dayF m f g).cells 0),(id9,.cells 7 (dayF m f g).cells 0)]:=o;refine tt ?_;refine wkW_done ?_;refine tt ?_;rw [o.rc 7 0 (by simp [SF.cells])];refine tt ?_;exact pure_ret (dayRes_ok D few).symm o.sub
  have h2p:=of_decide h2
  have w2:=wsucc (k:=k) (by omega)
  have aR : ∀ {n : Nat},n<m.on.frm.length→m.on.ArR (n : Int):=fun {n} h=>⟨by omega,by simpa using h⟩
  have kA:=aR h2p
  have kf:=p.fO kA
  have kt:=p.tO kA
  have fw : ∀ {x : Int},m.on.ObR x→(dayE m f g x).length≤256∧szD m f g x≤16:=fun {x} hx=>by
   have h1:=hx.1; have h2:=hx.2
   have:=few x.toNat (by omega)
   rwa [Int.toNat_of_nonneg h1] at this
  have eF : ix m.on.frm (k : Int)=m.on.frm.getD k default:=ix_nat _ _
  have eT : ix m.on.to (k : Int)=m.on.to.getD k default:=ix_nat _ _
  have kf':=kf
  have kt':=kt;rw [eF] at kf';rw [eT] at kt'
  have atv : ∀ {x : Int},m.on.ObR x→dayAtN m f g (ix (List.range m.on.objs.toNat) x)=.ptr [iLL (dayE m f g x),.imap (plS (dayE m f g x) (dayE m f g x).length).1 (plS (dayE m f g x) (dayE m f g x).length).2,iL (clD m f g x)]:=fun {x} hx=>by
   have h1:=hx.1; have h2:=hx.2
   have : (List.range m.on.objs.toNat).getD x.toNat default=x.toNat:=by
    rw [List.getD_eq_getElem?_getD,List.getElem?_range (by omega)]; rfl
   rw [ix,this,dayAtN,Int.toNat_of_nonneg h1]; rfl
  have inO : ∀ {x : Int},m.on.ObR x→0≤x∧x.toNat<(List.range m.on.objs.toNat).length:=fun {x} hx=>⟨hx.1,by have:=hx.1; have:=hx.2; rw [List.length_range]; omega⟩
  have z0:=szD_nn m f g (m.on.frm.getD k default)
  have z16:=(fw kf').2
  have h256:=(fw kf').1;refine tt ?_;refine ⟨h2p,inO kf',by rw [tl]; exact h2p,inO kt', ?_⟩;rw [atv kf',atv kt'];refine rd_get o.obj (by simp [sfB]) ?_;refine tw e5 ?_;rw [← eF,inS kf,eF];refine tt ?_;refine ⟨h2p,by rw [lS]; exact ⟨kf'.1,by have:=kf'.1; have:=kf'.2; omega⟩,⟨z0,Int.le_refl _,by simp only [maxL]; omega,by simp only [maxL]; omega⟩, ?_⟩
  obtain ⟨pX,oX,hX⟩:=o.split;clear o;refine mks_list iI 0 rfl oX fun id17 H o=>?_
  have o : Owns H0 H ((id17,.cells 1 ((rowK m f g k 0).map iI) 0)::(pX++[(id9,.cells 7 (sfB m.on (iL LS) XA) 0),(id6,.cells 7 z7c 0)])):=by rw [rowK_zero,eF]; exact o
  refine tt ?_
  refine awp_for [6,8,9,10,14,15,16,17,83,84,122,123] (G:=Unit) (fun i _=>[(124,some (.int .i64 (i : Int)))])
   (fun i _ H=>Owns H0 H ((id17,.cells 1 ((rowK m f g k i).map iI) 0)::(pX++[(id9,.cells 7 (sfB m.on (iL LS) XA) 0),(id6,.cells 7 z7c 0)]))) (dayE m f g (m.on.frm.getD k default)).length () o rfl ?_
  clear o
  rintro i _ H hi o;refine tt ?_;apply bk <;> intro h3
  rotate_left
  ·have h3p:=of_ndecide h3
   obtain rfl : i=(dayE m f g (m.on.frm.getD k default)).length:=by omega
   have ro : rowK m f g (k : Int) (dayE m f g (m.on.frm.getD k default)).length=dayR m f g k:=by rw [← eF]; exact rowK_full
   rw [ro] at o;refine tt ?_;refine fz_own (f:=iI) o (by have:=dayR_len (m:=m) (f:=f) (g:=g) (k : Int); rw [eF] at this; omega) fun H o=>?_
   have o:=LsO.mk o hX;refine tt ?_;refine rd_get o.obj (by simp [sfB]) ?_
   have e6 : (sfB m.on (iL LS) XA).getD 6 nv=XA:=rfl;refine tw e6 ?_;refine o.app (f:=iL) (dayR m f g k) rfl (by simp only [List.length_map,List.length_range,maxL]; omega) fun bA H o=>?_;rw [← map_range_succ] at o ⊢;simp only [List.length_map,List.length_range];refine tt ?_;refine st_cells o.swap (by simp [sfB]) (by (try simp only [go_sem]); (try simp)) (by first | (simp only [go_sem]; done) | ((try simp only [go_sem]); simp [AV.one,one_mL])) fun H o=>?_
   have o : Owns H0 H [(id9,.cells 7 (sfB m.on (iL LS) (.buf bA (k+1))) 0),(bA,.cells 1 (((List.range (k+1)).map fun k : Nat=>dayR m f g k).map iL) 0),(id6,.cells 7 z7c 0)]:=o;refine tw w2 ?_;exact for_next (.buf bA (k+1)) h2p (.inr ⟨bA,by simp,o.swap⟩) rfl
  have h3p:=of_decide h3
  have h3q : i<(dayE m f g (m.on.frm.getD k default)).length:=by omega
  have w3:=wsucc (k:=i) (by omega)
  obtain ⟨E,pE1⟩:=pos_at (m:=m) (f:=f) (g:=g) h3q
  obtain ⟨u,hu⟩ : ∃ u,(dayE m f g (m.on.frm.getD k default)).getD i default=u:=⟨_,rfl⟩;rw [hu] at E pE1
  have ul : u.length=5:=by rw [E.ex]; rfl
  have E' : Ent m f g (ix m.on.frm (k : Int)) u:=by rw [eF]; exact E
  have mv:=E'.mv D kA
  have ci:=cls_i (m:=m) (f:=f) (g:=g) h3q;rw [hu] at ci
  have cr:=cl_ran E;rw [← ci] at cr
  have pv:=pos_in mv;rw [eT] at pv mv
  have dr:=dayR_at D kA E';rw [eF,eT,← ci] at dr
  have rs:=rowK_succ (m:=m) (f:=f) (g:=g) (k:=(k : Int)) (i:=i) (by rw [eF]; exact h3q);rw [eF,dr] at rs
  have mvm : movE m u k∈dayE m f g (m.on.to.getD k default):=mem_dayE.mpr mv
  have hb:=dayE_bd D (m.on.to.getD k default);refine tt ?_;rw [hu];refine ⟨h3q,by rw [clD_len]; exact h3q,⟨by omega,by rw [ul]; decide⟩,⟨by omega,by rw [ul]; decide⟩,⟨by omega,by rw [ul]; decide⟩,_,(iThen_t B p.on.1 E.h kA).run,⟨by omega,by rw [ul]; decide⟩,⟨by omega,by rw [ul]; decide⟩,by simp [AV.cells,AV.one],_,(key_ok B [movE m u k] (by simp [keyB,(hb _ mvm).1])).run,okKey_plS _ _ _, ?_⟩;rw [plS_get (dayE_nodup m f g _) (fun l hl=>(hb l hl).2) mvm,Option.getD_some];refine tt ?_;refine ⟨⟨pv.1,by rw [clD_len]; exact pv.2.1⟩,⟨cr.1,by have h1:=cr.1; have h2:=cr.2; omega⟩, ?_⟩;refine set_own (clE m f g (m.on.to.getD k default) (movE m u k)) o rfl (by rw [rowK_len,eF]; have h1:=cr.1; have h2:=cr.2; omega) fun H o=>?_;rw [rs] at o;refine tw w3 ?_;exact for_next () h3q o rfl
 have h1p:=of_decide h1
 have w1:=wsucc (k:=z) (by omega);refine tt ?_;refine (dayLists_ok B D (z : Int)).go fun _=>?_
 by_cases e1 : (dayE m f g z).length≤256
 rotate_left
 ·rw [dayL,if_neg e1];refine tt ?_
  obtain ⟨pX,oX,hX⟩:=o.split
  have o : Owns H0 H ((id6,.cells 7 z7c 0)::(pX++[(b10,.cells 1 ((List.range z).map (dayAtN m f g)) 0),(id9,.cells 7 (sfB m.on XS .nilsl) 0)])):=oX.perm (by
   rw [show pX++[(b10,.cells 1 ((List.range z).map (dayAtN m f g)) 0),(id9,.cells 7 (sfB m.on XS .nilsl) 0),(id6,.cells 7 z7c 0)]=(pX++[(b10,.cells 1 ((List.range z).map (dayAtN m f g)) 0),(id9,.cells 7 (sfB m.on XS .nilsl) 0)])++[(id6,.cells 7 z7c 0)] by simp];exact List.perm_append_singleton _ _)
  refine st_cells o (by simp [z7c]) (by (try simp only [go_sem]); (try simp)) (by first | (simp only [go_sem]; done) | ((try simp only [go_sem]); simp [AV.one,one_mL])) fun H o=>tt ?_;refine wk_z7 (show Owns H0 H ((id6,.cells 7 z7c 0)::_) from o) fun H o=>wkW_done ?_;refine tt ?_;rw [o.rc 7 0 (by simp [SF.cells])];refine tt ?_;exact bad (c3 fun q=>e1 (q z (by omega)).1) (by decide) o
 rw [dayL,if_pos e1,show dayAt m f g z=.ptr [iLL (dayE m f g z),.imap (plS (dayE m f g z) (dayE m f g z).length).1 (plS (dayE m f g z) (dayE m f g z).length).2,iL (clD m f g z)] from rfl];refine tt ?_
 obtain ⟨pX,oX,hX⟩:=o.split
 have o : Owns H0 H ((b10,.cells 1 ((List.range z).map (dayAtN m f g)) 0)::(pX++[(id9,.cells 7 (sfB m.on XS .nilsl) 0),(id6,.cells 7 z7c 0)])):=oX.perm List.perm_middle;refine app_own (f:=dayAtN m f g) z o rfl (show z=(List.range z).length by simp) (by simp only [List.length_map,List.length_range,maxL]; omega) fun b11 H o=>?_;rw [← List.range_succ] at o;simp only [List.length_append,List.length_range,List.length_singleton]
 have o : LsO iI H0 H [(b11,.cells 1 ((List.range (z+1)).map (dayAtN m f g)) 0),(id9,.cells 7 (sfB m.on XS .nilsl) 0),(id6,.cells 7 z7c 0)] XS ((List.range z).map fun z : Nat=>szD m f g z):=LsO.mk (o.perm List.perm_middle.symm) hX;refine tt ?_;refine rd_get (o.get (x:=(id9,.cells 7 (sfB m.on XS .nilsl) 0)) (by simp)) (by simp [sfB]) ?_
 have e5 : (sfB m.on XS .nilsl).getD 5 nv=XS:=rfl;refine tw e5 ?_;refine ⟨_,(classesI_ok B (clD m f g z) fun v hv=>by have:=joinL_ran hv; rw [clD_len]; exact this).run,⟨rfl,fun c hc=>by cases List.mem_singleton.mp hc; rfl⟩, ?_⟩;refine o.app (f:=iI) (szD m f g z) rfl (by simp only [List.length_map,List.length_range,maxL]; omega) fun idS H o=>?_;rw [← map_range_succ] at o ⊢;simp only [List.length_map,List.length_range]
 have o : Owns H0 H [(id9,.cells 7 (sfB m.on XS .nilsl) 0),(idS,.cells 1 (((List.range (z+1)).map fun z : Nat=>szD m f g z).map iI) 0),(b11,.cells 1 ((List.range (z+1)).map (dayAtN m f g)) 0),(id6,.cells 7 z7c 0)]:=o.pm;refine tt ?_;refine st_cells o (by simp [sfB]) (by (try simp only [go_sem]); (try simp)) (by first | (simp only [go_sem]; done) | ((try simp only [go_sem]); simp [AV.one,one_mL])) fun H o=>?_
 have o : Owns H0 H [(id9,.cells 7 (sfB m.on (.buf idS (z+1)) .nilsl) 0),(idS,.cells 1 (((List.range (z+1)).map fun z : Nat=>szD m f g z).map iI) 0),(b11,.cells 1 ((List.range (z+1)).map (dayAtN m f g)) 0),(id6,.cells 7 z7c 0)]:=o;refine tw w1 ?_
 exact for_next (b11,.buf idS (z+1)) (by omega) ⟨fun y hy=>by
  rcases Nat.lt_or_ge y z with h | h
  ·exact hfew y h
  ·obtain rfl : y=z:=by omega
   exact e1,.inr ⟨idS,by simp,o.pm⟩⟩ rfl
end Go.Proofs.Shf
namespace Go.Proofs.Shf
open Go.AW Go.Proofs Go.RowKit
theorem rc_disable (w : World) : (callFunc 312 #[]).run Tryz.prog w=.ok (.value (.tuple #[])) w:=run_call_mark0 Tryz.func312 (by kernel_rfl) (by kernel_rfl) (by kernel_rfl) .disable (by kernel_rfl) w
theorem rc_enable (w : World) : (callFunc 314 #[]).run Tryz.prog w=.ok (.value (.tuple #[])) w:=run_call_mark0 Tryz.func314 (by kernel_rfl) (by kernel_rfl) (by kernel_rfl) .enable (by kernel_rfl) w
theorem rc_acquire (a : Addr) (w : World) : (callFunc 315 #[.pointer (some a)]).run Tryz.prog w=.ok (.value (.tuple #[])) w:=run_call_marked Tryz.func315 (by kernel_rfl) (by kernel_rfl) (by kernel_rfl) .acquire (by kernel_rfl) a w
theorem rc_merge (a : Addr) (w : World) : (callFunc 317 #[.pointer (some a)]).run Tryz.prog w=.ok (.value (.tuple #[])) w:=run_call_marked Tryz.func317 (by kernel_rfl) (by kernel_rfl) (by kernel_rfl) .releaseMerge (by kernel_rfl) a w
theorem once_store (a : Addr) (x : Value) (u : FrameMode) (w : World) (hc : w.cell? a=some x) (hz : w.frozen? a=false) :
  CallsD Tryz.prog 301 #[.pointer (some a),.bool true] u w fun e u' w'=>u'=u∧(e=.returned (.tuple #[])∧w'=w.drew.setCell a (.int .u32 1)):=by
 have hc' : w.drew.cell? a=some x:=by go_simp
 have hz' : w.drew.frozen? a=false:=by go_simp
 have hst:=run_call_store (P:=Tryz.prog) Tryz.func308 (by kernel_rfl) (by kernel_rfl) (by kernel_rfl) (by kernel_rfl) (k:=.u32) (y:=1) hc' hz'
 go_enter_d Tryz.func301,Tryz.ntmps301
 go_wp2
 go_region_calls
 all_goals (go_end0; exact ⟨rfl,rfl⟩)
set_option maxRecDepth 100000 in
theorem once_unlock (a : Addr) (u : FrameMode) (w : World) (hc : w.cell? a=some (.int .i32 1)) (hz : w.frozen? a=false) :
  CallsD Tryz.prog 300 #[.pointer (some a)] u w fun e u' w'=>u'=u∧(e=.returned (.tuple #[])∧w'=w.setCell a (.int .i32 0)):=by
 have hd:=rc_disable
 have he:=rc_enable
 have hr:=rc_merge
 have hadd:=run_call_add (P:=Tryz.prog) Tryz.func318 (by kernel_rfl) (by kernel_rfl) (by kernel_rfl) .i32 (by kernel_rfl) (y:=-1) (s:=0) hc hz (by simp [go_sem]; rfl)
 have hcv:=run_convert_to_unsafe (P:=Tryz.prog) (src:=339) (dst:=343) Tryz.underlying339 Tryz.underlying343 (by kernel_rfl) hc
 go_enter_d Tryz.func300,Tryz.ntmps300
 go_wp2
 go_end0
 go_wp2
 go_end0
 exact ⟨rfl,rfl⟩
set_option maxRecDepth 100000 in
theorem once_lock (a : Addr) (w : World) (hc : w.cell? a=some (.int .i32 0)) (hz : w.frozen? a=false) :
  Calls Tryz.prog 299 #[.pointer (some a)] w fun e w'=>e=.returned (.tuple #[])∧w'=w.setCell a (.int .i32 1):=by
 have hd:=rc_disable
 have he:=rc_enable
 have ha:=rc_acquire
 have hcas:=run_call_cas_hit (P:=Tryz.prog) Tryz.func313 (by kernel_rfl) (by kernel_rfl) (by kernel_rfl) .i32 (by kernel_rfl) (y:=1) hc hz
 have hc' : (w.setCell a (.int .i32 1)).cell? a=some (.int .i32 1):=World.cell?_setCell_same w a _ hc
 have hcv:=run_convert_to_unsafe (P:=Tryz.prog) (src:=339) (dst:=343) Tryz.underlying339 Tryz.underlying343 (by kernel_rfl) hc'
 go_enter Tryz.func299,Tryz.ntmps299
 go_wp2
 first | go_end0 | (simp only [Exit.inBlock,Exit.then]; refine bodyPost_ret (results_none rfl _ _ _) rfl ?_) | refine bodyPost_ret (results_none rfl _ _ _) rfl ?_
 go_wp2
 go_end0
 exact ⟨rfl,rfl⟩
set_option maxRecDepth 100000 in
theorem once_load0 (a : Addr) (w : World) (hc : w.cell? a=some (.int .u32 0)) :
  Calls Tryz.prog 290 #[.pointer (some a)] w fun e w'=>e=.returned (.bool false)∧w'=w:=by
 have hl:=run_call_load (P:=Tryz.prog) Tryz.func298 (by kernel_rfl) (by kernel_rfl) (by kernel_rfl) .u32 (by kernel_rfl) hc
 go_enter Tryz.func290,Tryz.ntmps290
 go_wp2
 refine bodyPost_ret (results_tmp rfl _ _ _) rfl ?_;exact ⟨rfl,rfl⟩
set_option maxRecDepth 100000 in
theorem once_load1 (a : Addr) (w : World) (hc : w.cell? a=some (.int .u32 1)) :
  Calls Tryz.prog 290 #[.pointer (some a)] w fun e w'=>e=.returned (.bool true)∧w'=w:=by
 have hl:=run_call_load (P:=Tryz.prog) Tryz.func298 (by kernel_rfl) (by kernel_rfl) (by kernel_rfl) .u32 (by kernel_rfl) hc
 go_enter Tryz.func290,Tryz.ntmps290
 go_wp2
 refine bodyPost_ret (results_tmp rfl _ _ _) rfl ?_;exact ⟨rfl,rfl⟩
set_option maxRecDepth 100000 in
set_option maxHeartbeats 1600000 in
theorem once_slow (b off : Nat) (ca : Array Value) (w : World) (Q : World→Prop)
  (h0 : w.cell? ⟨b,off,none⟩=some (.int .u32 0)) (h1 : w.cell? ⟨b,off+1,none⟩=some (.int .i32 0))
  (f0 : w.frozen? ⟨b,off,none⟩=false) (f1 : w.frozen? ⟨b,off+1,none⟩=false)
  (hf : Calls Tryz.prog 267 ca (w.setCell ⟨b,off+1,none⟩ (.int .i32 1)) fun e w'=>e=.returned (.tuple #[])∧Q w')
  (hQ : ∀ w',Q w'→w'.cell? ⟨b,off,none⟩=some (.int .u32 0)∧w'.frozen? ⟨b,off,none⟩=false∧w'.cell? ⟨b,off+1,none⟩=some (.int .i32 1)∧w'.frozen? ⟨b,off+1,none⟩=false) :
  Calls Tryz.prog 291 #[.pointer (some ⟨b,off,none⟩),.func (.func 267) #[] ca] w fun e w'=>e=.returned (.tuple #[]) ∧
   ∃ w1,Q w1∧w'=(w1.drew.setCell ⟨b,off,none⟩ (.int .u32 1)).setCell ⟨b,off+1,none⟩ (.int .i32 0):=by
 have hl:=run_call_load (P:=Tryz.prog) Tryz.func298 (by kernel_rfl) (by kernel_rfl) (by kernel_rfl) .u32 (by kernel_rfl) (w:=w.setCell ⟨b,off+1,none⟩ (.int .i32 1)) (a:=⟨b,off,none⟩) (x:=0) ((World.cell?_setCell_other _ ⟨b,off+1,none⟩ ⟨b,off,none⟩ _ (by simp)).trans h0)
 have hnot : ∀ (x : Bool) (w : World),(Op.unary .not (.bool x)).run Tryz.prog w=.ok (.bool (!x)) w:=fun _ _=>rfl
 go_enter_defers Tryz.func291,Tryz.ntmps291
 go_wp2_with (go_at_call 299; refine (once_lock ⟨b,off+1,none⟩ _ (by go_simp) (by go_simp)).mono ?_; rintro e w' ⟨rfl,rfl⟩)
 go_wp2_with (go_at_call 290; refine (once_load0 ⟨b,off,none⟩ _ ((World.cell?_setCell_other _ ⟨b,off+1,none⟩ ⟨b,off,none⟩ _ (by simp)).trans h0)).mono ?_; rintro e w' ⟨rfl,rfl⟩)
 go_wp2_with (go_at_call 267; refine hf.mono ?_; rintro e w' ⟨rfl,hq⟩)
 obtain ⟨q0,q1,q2,q3⟩:=hQ _ hq;refine leaves_cons (f:=301) (args:=#[.pointer (some ⟨b,off,none⟩),.bool true]) (by simp) (by simp [go_sem]) ?_;refine (once_store ⟨b,off,none⟩ (.int .u32 0) .returning _ q0 q1).mono ?_
 rintro e u' w'' ⟨rfl,rfl,rfl⟩;refine leaves_cons (f:=300) (args:=#[.pointer (some ⟨b,off+1,none⟩)]) (by simp [settle]) (by simp [go_sem]) ?_;refine (once_unlock ⟨b,off+1,none⟩ _ _ ?_ (by simp [q3])).mono ?_
 ·refine (World.cell?_setCell_other _ ⟨b,off,none⟩ ⟨b,off+1,none⟩ _ (by simp)).trans ?_;rw [World.cell?_drew];exact q2
 rintro e u' w'' ⟨rfl,rfl,rfl⟩
 simp [Leaves,settle,results,Tryz.results291];exact ⟨w',hq,rfl⟩
theorem slow_ok (B : Nat) {H : Heap} {K : Kont} {id sz off : Nat} {cs ca : List AV} (ho : H.get id=some (.cells sz cs 0)) (c0 : cs[off]? = some (.int .u32 0)) (c1 : cs[off+1]? = some (.int .i32 0))
  (h : CallH Tryz.prog B 267 ca (H.set id (.cells sz (cs.set (off+1) (.int .i32 1)) 0)) fun r H'=>r=.tup []∧∃ cs',H'.get id=some (.cells sz cs' 0)∧cs'[off]? = some (.int .u32 0)∧cs'[off+1]? = some (.int .i32 1) ∧
   K (.tup []) ((H'.set id (.cells sz (cs'.set off (.int .u32 1)) 0)).set id (.cells sz ((cs'.set off (.int .u32 1)).set (off+1) (.int .i32 0)) 0))) :
  CallH Tryz.prog B 291 [.ref id off,.fn (.func 267) ca] H K:=by
 refine ⟨⟨_,Tryz.func291,by kernel_rfl,by kernel_rfl⟩,fun g w vs hW hv=>?_⟩
 obtain ⟨hs,hv⟩:=hv
 have v0:=hv 0 (by simp)
 have v1:=hv 1 (by simp);simp only [List.getD_cons_zero,List.getD_cons_succ] at v0 v1
 have e : vs=#[vs.getD 0 undef,vs.getD 1 undef]:=by
  apply Array.ext
  ·simpa using hs
  ·intro i h1 h2
   have : i=0∨i=1:=by simp at h2; omega
   rcases this with rfl | rfl <;> simp [Array.getD,h1]
 rw [e];clear e
 generalize vs.getD 0 undef=x0 at v0
 generalize vs.getD 1 undef=x1 at v1
 cases v0 with
 | ref _ _ b cap hio =>
 cases v1 with
 | fn _ _ cvs hcs hcv =>
 obtain ⟨w0,f0⟩:=hW.peek hio ho c0
 obtain ⟨w1,f1⟩:=hW.peek hio ho c1
 obtain ⟨hW1,hB1⟩:=hW.poke hio ho (List.getElem?_eq_some_iff.1 c1).1 .i32 1
 have hcall:=h.2 g _ cvs hW1 ⟨hcs,hcv⟩
 refine (once_slow b off cvs w (fun w'=>∃ g' H' cs',g.le g'∧WRel g' B H' w'∧Go.AW.Below B w w'∧H'.get id=some (.cells sz cs' 0)∧cs'[off]? = some (.int .u32 0)∧cs'[off+1]? = some (.int .i32 1) ∧
   K (.tup []) ((H'.set id (.cells sz (cs'.set off (.int .u32 1)) 0)).set id (.cells sz ((cs'.set off (.int .u32 1)).set (off+1) (.int .i32 0)) 0))) w0 w1 f0 f1 (hcall.mono ?_) ?_).mono ?_
 ·rintro e w' ⟨v,rfl,g',r,H',hg,⟨rfl,cs',k1,k2,k3,k4⟩,hr,hW',hB⟩;refine ⟨?_,g',H',cs',hg,hW',hB1.trans hB,k1,k2,k3,k4⟩
  cases hr with
  | tup _ us hus _=>rw [show us=#[] from Array.eq_empty_of_size_eq_zero hus]
 ·rintro w' ⟨g',H',cs',hg,hW',hB,k1,k2,k3,k4⟩
  have hio':=hg.io _ _ hio
  obtain ⟨a1,a2⟩:=hW'.peek hio' k1 k2
  obtain ⟨a3,a4⟩:=hW'.peek hio' k1 k3;exact ⟨a1,a2,a3,a4⟩
 ·rintro e w' ⟨rfl,wq,⟨g',H',cs',hg,hW',hB,k1,k2,k3,k4⟩,rfl⟩
  have hio':=hg.io _ _ hio
  have l0:=(List.getElem?_eq_some_iff.1 k2).1
  have l1:=(List.getElem?_eq_some_iff.1 k3).1
  obtain ⟨hW2,hB2⟩:=hW'.drew.poke hio' k1 l0 .u32 1
  obtain ⟨hW3,hB3⟩:=hW2.poke hio' (Heap.get_set_same ..) (by simpa using l1) .i32 0;refine ⟨_,rfl,g',_,_,hg,k4,.tup [] #[] rfl (fun i hi=>by simp at hi), ?_,((hB.drew).trans hB2).trans hB3⟩;exact hW3
theorem flag_ok (B : Nat) {H : Heap} {K : Kont} {id sz off : Nat} {cs : List AV} (ho : H.get id=some (.cells sz cs 0)) (d : Bool) (c0 : cs[off]? = some (.int .u32 (bif d then 1 else 0)))
  (hk : K (.bool d) H) : CallH Tryz.prog B 290 [.ref id off] H K:=by
 refine ⟨⟨_,Tryz.func290,by kernel_rfl,by kernel_rfl⟩,fun g w vs hW hv=>?_⟩
 obtain ⟨hs,hv⟩:=hv
 have v0:=hv 0 (by simp);simp only [List.getD_cons_zero] at v0
 have e : vs=#[vs.getD 0 undef]:=by
  apply Array.ext
  ·simpa using hs
  ·intro i h1 h2
   have : i=0:=by simp at h2; omega
   subst this; simp [Array.getD,h1]
 rw [e];clear e
 generalize vs.getD 0 undef=x0 at v0
 cases v0 with
 | ref _ _ b cap hio =>
 obtain ⟨w0,f0⟩:=hW.peek hio ho c0
 cases d
 ·refine (once_load0 _ w w0).mono ?_
  rintro e w' ⟨rfl,rfl⟩;exact ⟨_,rfl,.same hW (.bool false) hk⟩
 ·refine (once_load1 _ w w0).mono ?_
  rintro e w' ⟨rfl,rfl⟩;exact ⟨_,rfl,.same hW (.bool true) hk⟩
end Go.Proofs.Shf
namespace Go.Proofs.Shf
open Go.AW Go.Proofs Go.Shf
theorem lazy_ok (B : Nat) (c : Cat) (hs : c.Shape) (x d st : Int) {H0 H : Heap} {l : List (Nat × MObj)} {id : Nat} {K : Kont} (o : Owns H0 H ((id,OutO c x d st .nilsl)::l))
  (hk : ∀ H' X,LsO iL H0 H' ((id,OutO c x d st X)::l) X (homs c x c.objs.toNat)→K (.tup []) H') : CallH Tryz.prog B 267 [.ptr [.ref id 0]] H K:=by
 refine c267p.go fun _=>?_
 have ho:=hs.o;refine tt ?_;refine awp_for [0] (G:=AV) (fun k X=>[(1,some (.int .i64 (k : Int)))]) (fun k X H=>LsO iL H0 H ((id,OutO c x d st X)::l) X (homs c x k)) c.objs.toNat .nilsl (.inl ⟨rfl,rfl,o⟩) rfl ?_;clear o
 rintro k X H hk' o
 have rd : ∀ (off : Nat) (K : Kont),off<6→K ([.ptr c.cells,iI x,.int .u32 d,.int .i32 st,.int .u32 0,X].getD off nv) H→rd1 (H.get id) none off K H:=fun off K h1 h2=>by
  rcases o with ⟨_,_,o⟩ | ⟨id2,_,o⟩
  ·exact rd_cells o (by simpa using h1) h2
  ·exact rd_cells o.tl (by simpa using h1) h2
 refine tt ?_;refine rd 0 _ (by omega) ?_;refine tt ?_;apply bk <;> intro h1
 ·have h1:=of_decide h1
  have w1:=wsucc (k:=k) (by omega);refine tt ?_;refine rd 5 _ (by omega) ?_;refine tt ?_;refine rd 0 _ (by omega) ?_;refine tt ?_;refine rd 1 _ (by omega) ?_;refine tt ?_;refine ⟨_,(hom_homC c x (k : Int) ▸ (homD_ok B c hs x k)).run,tt ?_⟩;refine o.app (hom c x k) rfl (by rw [homs_len]; simp only [maxL]; omega) fun id2 H o=>tt ?_;refine sw o.swap fun H o=>?_;refine tw w1 ?_;refine for_next (.buf id2 (homs c x k++[hom c x k]).length) (by omega) (.inr ⟨id2, ?_, ?_⟩) rfl
  ·rw [homs_succ]
  ·rw [homs_succ]; exact o.swap
 ·refine tt ?_
  have h1:=of_ndecide h1
  obtain rfl : k=c.objs.toNat:=by omega
  exact ⟨_,.refl _,hk _ _ o⟩
theorem do_first (B : Nat) (c : Cat) (hs : c.Shape) (x : Int) {H0 H : Heap} {l : List (Nat × MObj)} {id : Nat} {K : Kont} (o : Owns H0 H ((id,OutO c x 0 0 .nilsl)::l))
  (hk : ∀ H' X,LsO iL H0 H' ((id,OutO c x 1 0 X)::l) X (homs c x c.objs.toNat)→K (.tup []) H') : CallH Tryz.prog B 266 [.ref id 2,.fn (.func 267) [.ptr [.ref id 0]]] H K:=by
 refine c266p.go fun _=>?_;refine tt ?_;refine flag_ok B o.h0 false rfl ?_;refine tt ?_;refine slow_ok B o.h0 rfl rfl ?_;refine lazy_ok B c hs x 0 1 (o.put (OutO c x 0 1 .nilsl)) fun H' X o=>⟨rfl,_,o.at.1,rfl,rfl, ?_⟩
 have o:=(((o.at).2 (OutO c x 1 1 X)).at).2 (OutO c x 1 0 X);refine tt ?_;exact ⟨_,.refl _,hk _ _ o⟩
theorem do_again (B : Nat) (c : Cat) (x : Int) {H0 H : Heap} {l : List (Nat × MObj)} {id : Nat} {X : AV} {K : Kont} (o : Owns H0 H ((id,OutO c x 1 0 X)::l))
  (hk : K (.tup []) H) : CallH Tryz.prog B 266 [.ref id 2,.fn (.func 267) [.ptr [.ref id 0]]] H K:=by
 refine c266p.go fun _=>?_;refine tt ?_;refine flag_ok B o.h0 true rfl ?_;refine tt ?_;exact ⟨_,.refl _,hk⟩
theorem list_first (B : Nat) (c : Cat) (hs : c.Shape) (x : Int) {H0 H : Heap} {l : List (Nat × MObj)} {id : Nat} {K : Kont} (o : Owns H0 H ((id,OutO c x 0 0 .nilsl)::l))
  (hk : ∀ H',Owns H0 H' ((id,OutO c x 1 0 (iLL (homs c x c.objs.toNat)))::l)→K (iLL (homs c x c.objs.toNat)) H') : CallH Tryz.prog B 206 [.ref id 0] H K:=by
 refine c206p.go fun _=>?_;refine tt ?_;refine ⟨rfl,do_first B c hs x o fun H X o=>?_⟩;refine tt ?_;refine wk_ls 5 o rfl fun H o=>wkW_done ?_;refine tt ?_;refine rd_cells o (by simp) ?_;refine tt ?_;exact ⟨_,.refl _,hk _ o⟩
theorem list_again (B : Nat) (c : Cat) (x : Int) (L : List (List Int)) {H0 H : Heap} {l : List (Nat × MObj)} {id : Nat} {K : Kont} (o : Owns H0 H ((id,OutO c x 1 0 (iLL L))::l))
  (hk : K (iLL L) H) : CallH Tryz.prog B 206 [.ref id 0] H K:=by
 refine c206p.go fun _=>?_;refine tt ?_;refine ⟨rfl,do_again B c x o ?_⟩;refine tt ?_;refine wkW_done ?_;refine tt ?_;refine rd_cells o (by simp) ?_;refine tt ?_;exact ⟨_,.refl _,hk⟩
theorem representable_ok (B : Nat) (c : Cat) (hs : c.Shape) (x : Int) : Rets B 101 [.ptr c.cells,iI x] (RepQ c x):=by
 intro H0;refine c101p.go fun _=>?_
 have hob:=hs.o
 have hm:=hs.m
 have htl:=hs.tol
 have hcl:=hs.cl
 have o : Owns H0 H0 []:=.nil _;refine tt ?_;refine ⟨by simp only [maxL]; omega,newRef_own o fun id4 H o=>?_⟩;refine tt ?_;refine ⟨by simp only [maxL]; omega, ?_⟩;refine newRef_own o fun id6 H o=>tt ?_;refine (catCopy_ok B c).go fun _=>tt ?_;refine ⟨by simp only [maxL]; omega,newRef_own o fun id7 H o=>?_⟩;refine tt ?_;refine sw o fun H o=>tt ?_
 replace o : Owns H0 H [(id7,RepO c .nilsl .nilsl),(id6,OutO c x 0 0 .nilsl),(id4,.cells 7 zSF 0)]:=o;refine list_first B c hs x o.swap fun H o=>tt ?_
 replace o:=o.swap;rw [homs_len];refine awp_for [0,4,6,7,22,23] (G:=AV) (fun k X=>[(24,some (.int .i64 (k : Int)))]) (fun k X H=>(∀ y : Nat,y<k→(hom c x y).length≤16)∧LsO iI H0 H [(id7,RepO c X .nilsl),(id6,OutO c x 1 0 (iLL (homs c x c.objs.toNat))),(id4,.cells 7 zSF 0)] X (sizesN c x k)) c.objs.toNat .nilsl ⟨by simp,.inl ⟨rfl,rfl,o⟩⟩ rfl ?_;clear o
 rintro k X H hk ⟨hf,o⟩;refine tt ?_;apply bk <;> intro h1
 ·have h1:=of_decide h1
  have w1:=wsucc (k:=k) (by omega);refine tt ?_;refine ⟨by rw [homs_len]; exact h1, ?_⟩;rw [homs_get c x h1];refine tt ?_;apply bk <;> intro h2
  ·have h2:=of_decide h2;refine tt ?_
   obtain ⟨p,o,_⟩:=o.split
   have o : Owns H0 H ((id4,.cells 7 zSF 0)::(p++[(id7,RepO c X .nilsl),(id6,OutO c x 1 0 (iLL (homs c x c.objs.toNat)))])):=o.pm;refine st_cells o (by simp [zSF]) (by (try simp only [go_sem]); (try simp)) (by first | (simp only [go_sem]; done) | ((try simp only [go_sem]); simp [AV.one,one_mL])) fun H o=>?_;simp only [zSF] at o;simp only [wr_cons,wr_nil,List.set_cons_zero,List.set_cons_succ] at o
   have hr2:=o.rc 7 0 (by simp);simp only [List.drop_zero] at hr2;refine tt ?_;rw [hr2];refine tt ?_;exact rets_ret (.inr ⟨fun h=>by have:=h k h1; omega,rfl⟩) o.sub
  ·have h2:=of_ndecide h2;refine tt ?_;refine rd_at o.at.1 (by simp) ?_;refine tt ?_;refine o.app (repSize c x k) rfl (by rw [sizesN_len]; simp only [maxL]; omega) fun id2 H o=>tt ?_;refine sw o.swap fun H o=>?_;refine tw w1 ?_;refine for_next (.buf id2 (sizesN c x k++[repSize c x k]).length) (by omega) ⟨fun y hy=>?_,.inr ⟨id2, ?_, ?_⟩⟩ rfl
   ·by_cases e : y=k
    ·subst e; omega
    ·exact hf y (by omega)
   ·rw [sizesN_succ]
   ·rw [sizesN_succ]; exact o.swap
 ·have h1:=of_ndecide h1
  obtain rfl : k=c.objs.toNat:=by omega
  have hfew : RepFew c x:=hf;refine tt ?_;refine wk_ls 5 o rfl fun H o=>wkW_done ?_;simp only [wr_cons,wr_nil,List.set_cons_zero,List.set_cons_succ] at o
  replace o : Owns H0 H [(id7,RepO c (iL (repSizes c x)) .nilsl),(id6,OutO c x 1 0 (iLL (homs c x c.objs.toNat))),(id4,.cells 7 zSF 0)]:=o;clear hf;refine tt ?_;refine awp_for [0,4,6,7,44] (G:=AV) (fun k Y=>[(45,some (.int .i64 (k : Int)))]) (fun k Y H=>LsO iL H0 H [(id7,RepO c (iL (repSizes c x)) Y),(id6,OutO c x 1 0 (iLL (homs c x c.objs.toNat))),(id4,.cells 7 zSF 0)] Y (actsN c x k)) c.frm.length .nilsl (.inl ⟨rfl,rfl,o⟩) rfl ?_;clear o hk
  rintro k Y H hk o;refine tt ?_;apply bk <;> intro g1
  ·have g1:=of_decide g1
   have w1:=wsucc (k:=k) (by omega);refine tt ?_
   obtain ⟨p,o,hp⟩:=o.split;refine new_list iI o fun id11 H o=>tt ?_
   have hfr:=hs.frm' g1
   have hto:=hs.to' g1
   have hil:=hs.il
   have o6 : Owns H0 H ((id6,OutO c x 1 0 (iLL (homs c x c.objs.toNat)))::((id11,.cells 1 (([] : List Int).map iI) 0)::(p++[(id7,RepO c (iL (repSizes c x)) Y),(id4,.cells 7 zSF 0)]))):=o.pm;refine ⟨g1,list_again B c x _ o6 ⟨.refl _, ?_⟩⟩;refine tt ?_;refine ⟨⟨hfr.1,by rw [homs_len]; omega⟩, ?_⟩;rw [homs_ix c x hfr.1 (by omega)]
   generalize hL : hom c x (c.frm.getD k default)=L
   have hLl : L.length≤40:=by rw [← hL]; exact Nat.le_trans (nats_len _ _) hm
   have hLm : ∀ a,a∈L→0≤a∧a.toNat<c.frm.length:=fun a ha=>by rw [← hL] at ha; exact (mem_hom.mp ha).1
   refine tt ?_
   refine awp_for [0,4,6,7,10,44,45,59,60] (G:=Nat × List Int) (fun j g=>[(11,some (.buf g.1 g.2.length)),(61,some (.int .i64 (j : Int)))])
    (fun j g H=>g.2=(L.take j).map (fun h=>indexOf (hom c x (c.to.getD k default)) (ix (ix c.comp h) k))∧Owns H0 H ((g.1,.cells 1 (g.2.map iI) 0)::(p++[(id7,RepO c (iL (repSizes c x)) Y),(id6,OutO c x 1 0 (iLL (homs c x c.objs.toNat))),(id4,.cells 7 zSF 0)]))) L.length (id11,[]) ⟨by simp,o⟩ rfl ?_
   clear o o6
   rintro j ⟨id11,out⟩ H hj ⟨hout,o⟩;dsimp only at hout o
   have hol : out.length≤j:=by rw [hout]; simp; omega
   refine tt ?_;apply bk <;> intro g2
   ·have g2:=of_decide g2
    have w2:=wsucc (k:=j) (by omega);refine tt ?_
    have hLj:=hLm _ (mem_getD.mpr ⟨j,g2,rfl⟩);refine ⟨g2,⟨by omega, ?_⟩⟩
    have o6 : Owns H0 H ((id6,OutO c x 1 0 (iLL (homs c x c.objs.toNat)))::((id11,.cells 1 (out.map iI) 0)::(p++[(id7,RepO c (iL (repSizes c x)) Y),(id4,.cells 7 zSF 0)]))):=o.pm;refine list_again B c x _ o6 ⟨.refl _, ?_⟩;refine tt ?_;refine ⟨⟨hto.1,by rw [homs_len]; omega⟩, ?_⟩;rw [homs_ix c x hto.1 (by omega)];refine tt ?_
    have hr:=hs.row' hLj.2;refine ⟨_,(catThen_ok B c (L.getD j default) k ⟨hLj.1,by omega⟩ ⟨by omega,by rw [Int.toNat_natCast,hr]; exact g1⟩).run,tt ?_⟩;refine ⟨_,(index_ok ..).run,tt ?_⟩;refine app_own (indexOf (hom c x (c.to.getD k default)) (ix (ix c.comp (L.getD j default)) k)) o rfl rfl (by simp only [maxL]; omega) fun id11 H o=>?_;refine tw w2 ?_;exact for_next (_,_) (by omega) ⟨by rw [hout,take_succ' L g2,List.map_append]; rfl,o⟩ rfl
   ·have g2:=of_ndecide g2
    obtain rfl : j=L.length:=by omega
    refine tt ?_;refine fz_own o rfl fun H o=>?_
    have eo : out=repAct c x k:=by rw [hout,List.take_length,← hL]; rfl
    rw [eo]
    have o:=LsO.mk o hp;refine tt ?_;refine rd_at o.at.1 (by simp) ?_;refine tt ?_;refine o.app (repAct c x k) rfl (by rw [actsN_len]; simp only [maxL]; omega) fun id2 H o=>tt ?_;refine sw o.swap fun H o=>?_;refine tw w1 ?_;refine for_next (.buf id2 (actsN c x k++[repAct c x k]).length) (by omega) (.inr ⟨id2, ?_, ?_⟩) rfl
    ·rw [actsN_succ]
    ·rw [actsN_succ]; exact o.swap
  ·have g1:=of_ndecide g1
   obtain rfl : k=c.frm.length:=by omega
   refine tt ?_;refine wk_ls 6 o rfl fun H o=>wkW_done ?_;simp only [wr_cons,wr_nil,List.set_cons_zero,List.set_cons_succ] at o;refine tt ?_;refine rd_celln o (by simp) ?_;refine tt ?_;refine st_cells (o.pull [_,_]) (by simp [zSF]) (by (try simp only [go_sem]); (try simp)) (by first | (simp only [go_sem]; done) | ((try simp only [go_sem]); simp [AV.one,one_mL])) fun H o=>?_;simp only [zSF] at o;simp only [wr_cons,wr_nil,List.set_cons_zero,List.set_cons_succ] at o;refine tt ?_
   have hr2:=o.rc 7 0 (by simp);simp only [List.drop_zero] at hr2;rw [hr2];refine tt ?_;exact rets_ret (.inl ⟨hfew,rfl⟩) o.sub
theorem objC_ok (B : Nat) (c : Cat) (hc : c.Is) (x : Int) (hx : 0≤x∧x<c.objs) : Pur Tryz.prog B 100 [.ptr c.cells,iL [x]] (iI 0):=by
 refine ⟨fun H0=>c100.go fun _=>?_⟩
 have ho:=hc.1.o
 have o : Owns H0 H0 []:=.nil _;refine tt ?_;refine (isCategory_ok B c).go fun _=>?_;rw [dec_t hc];refine tt ?_;refine (within_ok B [x] c.objs (by omega)).go fun _=>?_;rw [dec_t (p:=∀ y,y∈[x]→0≤y∧y<c.objs) (by simpa using hx)];refine tt ?_;exact pure_ret rfl (.refl _)
theorem representableG_ok (B : Nat) (c : Cat) (hc : c.Is) (x : Int) (hx : 0≤x∧x<c.objs) : Rets B 27 [.agg c.cells,iI x] (RepQ2 c x):=by
 intro H0;refine c27p.go fun _=>?_
 have o : Owns H0 H0 []:=.nil _;refine tt ?_;refine ⟨by simp only [maxL]; omega,newRef_own o fun id4 H o=>?_⟩;refine tt ?_;refine (objC_ok B c hc x hx).go fun _=>?_;refine td ?_;refine (representable_ok B c hc.1 x).go fun r _ hr=>?_
 rcases hr with ⟨hf,rfl⟩ | ⟨hf,rfl⟩
 ·refine tt ?_;refine ⟨by simp only [maxL]; omega,newRef_own o fun id7 H o=>?_⟩;refine tt ?_;refine sw o fun H o=>tt ?_;refine rd_celln o (by simp) ?_;refine tt ?_;refine sw o.swap fun H o=>tt ?_;refine wkW_done ?_;refine tt ?_
  have hr2:=o.rc 7 0 (by simp);simp only [List.drop_zero] at hr2;rw [hr2];refine tt ?_;exact rets_ret (.inl ⟨hf,rfl⟩) o.sub
 ·refine tt ?_;refine ⟨by simp only [maxL]; omega,newRef_own o fun id7 H o=>?_⟩;refine tt ?_;refine st_cells o (by simp) (by simp [zSF]) (by simp [zSF,AV.one]) fun H o=>?_;simp only [zSF] at o;simp only [wr_cons,wr_nil,List.set_cons_zero,List.set_cons_succ] at o;refine tt ?_;refine sw o.swap fun H o=>tt ?_;refine wk_nil 1 o rfl fun H o=>?_;refine wk_nil 2 o rfl fun H o=>?_;refine wk_nil 3 o rfl fun H o=>?_;refine wk_nil 4 o rfl fun H o=>?_;refine wk_nil 5 o rfl fun H o=>?_;refine wk_nil 6 o rfl fun H o=>wkW_done ?_;simp only [wr_cons,wr_nil,List.set_cons_zero,List.set_cons_succ] at o;refine tt ?_
  have hr2:=o.rc 7 0 (by simp);simp only [List.drop_zero] at hr2;rw [hr2];refine tt ?_;exact rets_ret (.inr ⟨hf,rfl⟩) o.sub
end Go.Proofs.Shf
namespace Go.Shf
open Go.AW
theorem idxOf?_map {α β : Type} [DecidableEq α] [DecidableEq β] {f : α→β} (hf : ∀ a b,f a=f b→a=b) (v : α) : ∀ l : List α,(l.map f).idxOf? (f v)=l.idxOf? v
 | []=>rfl
 | a::l=>by
  rw [List.map_cons,List.idxOf?_cons,List.idxOf?_cons,idxOf?_map hf v l]
  by_cases e : a=v
  ·subst e; simp
  ·have e2 : f a≠f v:=fun h=>e (hf _ _ h)
   simp [e,e2]
theorem indexOf_map {α β : Type} [DecidableEq α] [DecidableEq β] {f : α→β} (hf : ∀ a b,f a=f b→a=b) (v : α) (l : List α) : indexOf (l.map f) (f v)=indexOf l v:=by
 rw [indexOf,indexOf,idxOf?_map hf]
def one0 (h : Int) : List Int:=[0,h]
theorem one0_inj (a b : Int) (h : one0 a=one0 b) : a=b:=by simpa [one0] using h
theorem memC_one (c : Cat) (x y : Int) : (memC c [x] y).map enc2=(homC c x y).map one0:=by
 rw [← memN_full,List.length_singleton,memN_succ,memN];simp only [List.range_zero,List.flatMap_nil,List.nil_append,List.map_map]
 rfl
theorem freeQ_rep {c : Cat} (hc : c.Is) (x : Int) : freeQ c [x]=repF c x:=by
 have ho:=hc.1.o
 have LL : LLC c [x]=(List.range c.objs.toNat).map fun y : Nat=>(homC c x y).map one0:=by
  rw [LLC]; exact List.map_congr_left fun y _=>memC_one c x y
 rw [freeQ,freeF,repF,LL]
 congr 1
 ·rw [repSizes,List.map_map];exact List.map_congr_left fun y _=>by simp [repSize,hom_homC]
 ·rw [repActs];refine List.map_congr_left fun a ha=>?_
  have ha:=List.mem_range.mp ha
  have hf:=hc.1.frmObj (f:=(a : Int)) (by simpa using ha)
  have ht:=hc.1.toObj (f:=(a : Int)) (by simpa using ha);rw [ix_nat] at hf ht
  have g : ∀ {y : Int},0≤y∧y<c.objs→((List.range c.objs.toNat).map fun y : Nat=>(homC c x y).map one0).getD y.toNat default=(homC c x y).map one0:=fun {y} hy=>by
   rw [getD_map_range _ _ (by omega),Int.toNat_of_nonneg hy.1]
  rw [freeAct,repAct,g hf,g ht,List.map_map,hom_homC,hom_homC];exact List.map_congr_left fun h _=>indexOf_map one0_inj _ _
end Go.Shf
namespace Go.Proofs.Shf
open Go.AW Go.Proofs Go.Shf
theorem l19FreeX_ok (B : Nat) (c : Cat) (hc : c.Is) (os : List Int) (hos : os.length≤4) : Pur Tryz.prog B 208 [.agg c.cells,iL os] (.agg [iI c.objs,iL c.frm,iL c.to,iL c.idn,iLL c.comp,iL (freeQ c os).sizes,iLL (freeQ c os).acts]):=by
 refine ⟨fun H0=>c208p.go fun _=>?_⟩
 have hm:=hc.1.m
 have hob:=hc.1.o
 have htl:=hc.1.tol
 have o : Owns H0 H0 []:=.nil _;refine tt ?_;refine nb o fun id4 H o=>tt ?_;refine ⟨⟨by omega,by simp only [maxL]; omega⟩, ?_⟩;rw [rep_one];refine newBuf_own o fun idL H o=>tt ?_
 refine awp_for [1,2,4,5] (G:=List AV × List (List (List Int)) × List (Nat × MObj)) (fun k _=>[(6,some (.int .i64 (k : Int)))])
  (fun k g H=>Owns H0 H ((idL,.cells 1 g.1 0)::(g.2.2++[(id4,.cells 7 z7 0)]))∧LsR iL g.1 g.2.1 g.2.2∧FreeX c os k 0 g.2.1) os.length (List.replicate c.objs.toNat .nilsl,List.replicate c.objs.toNat [],[]) ⟨o,LsR.rep iL _,.zero hob.1⟩ rfl ?_
 clear o
 rintro k ⟨Xs,LL,ob⟩ H hk ⟨o,hR,hI⟩;dsimp only at o hR hI;refine tt ?_;apply bk <;> intro h1
 ·have h1p:=of_decide h1
  have w1:=wsucc (k:=k) (by omega);refine tt ?_
  refine awp_for [1,2,4,5,6] (G:=List AV × List (List (List Int)) × List (Nat × MObj)) (fun h _=>[(7,some (.int .i64 (h : Int)))])
   (fun h g H=>Owns H0 H ((idL,.cells 1 g.1 0)::(g.2.2++[(id4,.cells 7 z7 0)]))∧LsR iL g.1 g.2.1 g.2.2∧FreeX c os k h g.2.1) c.frm.length (Xs,LL,ob) ⟨o,hR,hI⟩ rfl ?_
  clear o hR hI Xs LL ob
  rintro h ⟨Xs,LL,ob⟩ H hh ⟨o,hR,hI⟩;dsimp only at o hR hI;refine tt ?_;apply bk <;> intro h2
  ·have h2p:=of_decide h2
   have w2:=wsucc (k:=h) (by omega)
   have hto:=hc.1.toObj (f:=(h : Int)) (by simpa using h2p);rw [ix_nat] at hto
   have hXl:=hR.len
   have hLl:=hI.len
   have hbd:=hI.bd (c.to.getD h default).toNat
   have hkm : k*c.frm.length≤3*40:=Nat.mul_le_mul (by omega) hm;refine tt ?_;refine ⟨h2p,h1p, ?_⟩;apply bk <;> intro h3
   ·have h3p : c.frm.getD h default=os.getD k default:=of_decide h3;refine tt ?_;refine ⟨by omega,by omega,⟨hto.1,by omega⟩,rd_get o.h0 (by omega) ?_⟩;refine tt ?_;refine rows_app o hR (by omega) [(k : Int),(h : Int)] rfl (by show (LL.getD _ default).length+1≤maxL; simp only [maxL]; omega) fun X' o' H hX1 hR o=>?_;try simp only [go_sem,↓reduceIte,reduceEqDiff,reduceAdd,reduceMul,reduceLeDiff,reduceLT,AV.cells_one hX1]
    refine ⟨⟨hto.1,by omega⟩,st_cells o (by omega) rfl (by simp only [memcons,memnil]; exact ⟨hX1,trivial⟩) fun H o=>?_⟩;simp only [wr_cons,wr_nil] at o;refine tw w2 ?_;exact for_next (_,_,_) (by omega) ⟨o,hR,hI.hit hc.1 h1p h2p h3p⟩ rfl
   ·refine tw w2 ?_;exact for_next (_,_,_) (by omega) ⟨o,hR,hI.skip (of_ndecide h3)⟩ rfl
  ·have h2p:=of_ndecide h2
   obtain rfl : h=c.frm.length:=by omega
   refine tw w1 ?_;exact for_next (_,_,_) (by omega) ⟨o,hR,hI.next⟩ rfl
 ·have h1p:=of_ndecide h1
  obtain rfl : k=os.length:=by omega
  have hLl:=hI.len;refine tt ?_;refine wk_rows hR [] H o fun H o=>wkW_done ?_;rw [List.nil_append] at o;clear hR;refine tt ?_;refine fz_own (f:=iLL) o (by omega) fun H o=>tt ?_;refine (l02Own_ok B c).go fun _=>tt ?_;refine nb o fun id8 H o=>tt ?_;refine sw o fun H o=>?_
  let st : AV→AV→MObj:=fun x5 x6=>.cells 7 [iI c.objs,iL c.frm,iL c.to,iL c.idn,iLL c.comp,x5,x6] 0
  refine tt ?_
  have hpre:=free_pre hc hI.toFreeI (N:=160) (by have:=Nat.mul_le_mul hos hm; omega)
  have hof:=hI.of
  have hEx:=hI.full;clear hI;refine awp_for [2,4,5,8] (G:=AV) (fun k X=>[(9,some (.int .i64 (k : Int)))]) (fun k X H=>LsO iI H0 H ((id8,st X .nilsl)::[(id4,.cells 7 z7 0)]) X ((LL.take k).map fun l=>(l.length : Int))) LL.length .nilsl (.inl ⟨rfl,rfl,o⟩) rfl ?_;clear o
  rintro k X H hk hX;refine tt ?_;apply bk <;> intro h4
  ·have h4p:=of_decide h4
   have w:=wsucc (k:=k) (by omega);refine tt ?_;refine rd_get hX.obj (by simp [st]) ?_;refine tt ?_;refine ⟨h4p, ?_⟩;refine hX.app ((LL.getD k default).length : Int) rfl (by simp only [List.length_map,List.length_take,maxL]; omega) fun idn H o=>?_
   have e5 : ((LL.take k).map fun l=>(l.length : Int))++[((LL.getD k default).length : Int)]=(LL.take (k+1)).map fun l=>(l.length : Int):=by rw [take_one LL h4p]; simp
   rw [e5] at o ⊢;refine tt ?_;refine sw o.swap fun H o=>?_;refine tw w ?_;exact for_next _ (by omega) (.inr ⟨idn,rfl,o.swap⟩) rfl
  ·have h4p:=of_ndecide h4
   obtain rfl : k=LL.length:=by omega
   rw [List.take_length] at hX
   obtain ⟨p5,o,hp5⟩:=hX.split
   have o : Owns H0 H ((id8,st X .nilsl)::(p5++[(id4,.cells 7 z7 0)])):=o.perm List.perm_middle;clear hX;refine tt ?_;refine awp_for [2,4,5,8] (G:=AV) (fun a Y=>[(10,some (.int .i64 (a : Int)))]) (fun a Y H=>LsO iL H0 H ((id8,st X Y)::(p5++[(id4,.cells 7 z7 0)])) Y ((List.range a).map (freeAct c LL))) c.frm.length .nilsl (.inl ⟨rfl,rfl,o⟩) rfl ?_;clear o
   rintro a Y H ha hY
   replace hY : LsO iL H0 H ((id8,st X Y)::(p5++[(id4,.cells 7 z7 0)])) Y ((List.range a).map (freeAct c LL)):=hY;refine tt ?_;apply bk <;> intro h5
   ·have h5p:=of_decide h5
    have w2:=wsucc (k:=a) (by omega)
    have hfr:=hc.1.frmObj (f:=(a : Int)) (by simpa using h5p)
    have hto:=hc.1.toObj (f:=(a : Int)) (by simpa using h5p);rw [ix_nat] at hfr hto
    obtain ⟨q,o,hq⟩:=hY.split;clear hY;refine tt ?_;refine new_list iI o fun id11 H o=>tt ?_;refine ⟨h5p,⟨hfr.1,by omega⟩,by omega,⟨hto.1,by omega⟩, ?_⟩
    have eF : ix LL (c.frm.getD a default)=LL.getD (c.frm.getD a default).toNat default:=rfl
    have eT : ix LL (c.to.getD a default)=LL.getD (c.to.getD a default).toNat default:=rfl
    have hact : freeAct c LL a=(LL.getD (c.frm.getD a default).toNat default).map fun q=>indexOf (LL.getD (c.to.getD a default).toNat default) [ix q 0,(ix c.comp (ix q 1)).getD a default]:=rfl
    have hofF:=hof (c.frm.getD a default).toNat (by omega);rw [eF,eT]
    generalize hF : LL.getD (c.frm.getD a default).toNat default=F at *
    generalize hT : LL.getD (c.to.getD a default).toNat default=T at *
    have hFl : F.length≤200:=by
     have:=hpre.sz (F.length : Int) (List.mem_map.mpr ⟨F,by rw [← hF]; exact mem_getD.mpr ⟨_,by omega,rfl⟩,rfl⟩);omega
    refine awp_for [2,4,5,8,10,12,13] (G:=Nat × List Int) (fun e g=>[(11,some (.buf g.1 g.2.length)),(14,some (.int .i64 (e : Int)))])
     (fun e g H=>g.2=(F.take e).map (fun q=>indexOf T [ix q 0,(ix c.comp (ix q 1)).getD a default])∧Owns H0 H ((g.1,.cells 1 (g.2.map iI) 0)::(q++((id8,st X Y)::(p5++[(id4,.cells 7 z7 0)]))))) F.length (id11,[]) ⟨by simp,o⟩ rfl ?_
    clear o
    rintro e ⟨id11,row⟩ H he ⟨hrow,o⟩;dsimp only at hrow o
    have hrl : row.length=e:=by rw [hrow,List.length_map,List.length_take]; omega
    refine tt ?_;apply bk <;> intro h6
    ·have h6p:=of_decide h6
     have w3:=wsucc (k:=e) (by omega)
     obtain ⟨i,j,eq,hi,hj,_,_⟩:=hofF (F.getD e default) (mem_getD.mpr ⟨e,h6p,rfl⟩)
     have e0 : ix (F.getD e default) 0=(i : Int):=by rw [eq]; rfl
     have e1 : ix (F.getD e default) 1=(j : Int):=by rw [eq]; rfl
     have el : (F.getD e default).length=2:=by rw [eq]; rfl
     have hcl:=hc.1.cl
     have hrw:=hc.1.row' (a:=(j : Int)) (by simpa using hj);refine tt ?_;refine ⟨h6p,⟨by omega,by rw [el]; decide⟩,h6p,⟨by omega,by rw [el]; decide⟩, ?_⟩;rw [e0,e1];refine ⟨_,(l02Then_ok B c (j : Int) (a : Int) ⟨by omega,by rw [Int.toNat_natCast,hcl]; exact hj⟩ ⟨by omega,by rw [hrw]; simpa using h5p⟩).run,tt ?_⟩;refine ⟨_,(l05Place_ok B T [(i : Int),(ix c.comp (j : Int)).getD a default]).run,tt ?_⟩;refine app_own (indexOf T [(i : Int),(ix c.comp (j : Int)).getD a default]) o rfl rfl (by simp only [maxL]; omega) fun id11 H o=>?_;refine tw w3 ?_;refine for_next (_,_) (by omega) ⟨?_,o⟩ rfl;rw [take_one F h6p,List.map_append,← hrow,List.map_cons,List.map_nil,e0,e1]
    ·have h6p:=of_ndecide h6
     obtain rfl : e=F.length:=by omega
     rw [List.take_length,← hact] at hrow;refine tt ?_;refine fz_own o rfl fun H o=>?_
     have hY:=LsO.mk o hq;clear o;refine tt ?_;refine rd_get hY.obj (by simp [st]) ?_;refine tt ?_
     have e7 : (List.range a).map (freeAct c LL)++[row]=(List.range (a+1)).map (freeAct c LL):=by rw [map_range_succ,hrow]
     refine hY.app row rfl (by simp only [List.length_map,List.length_range,maxL]; omega) fun idn H o=>tt ?_;refine sw o.swap fun H o=>?_
     have hY : LsO iL H0 H ((id8,st X (.buf idn ((List.range a).map (freeAct c LL)++[row]).length))::(p5++[(id4,.cells 7 z7 0)])) (.buf idn ((List.range a).map (freeAct c LL)++[row]).length) ((List.range a).map (freeAct c LL)++[row]):=.inr ⟨idn,rfl,o.swap⟩
     generalize (AV.buf idn ((List.range a).map (freeAct c LL)++[row]).length)=Y' at hY;rw [e7] at hY;refine tw w2 ?_;exact for_next Y' (by omega) hY rfl
   ·have h5p:=of_ndecide h5
    obtain rfl : a=c.frm.length:=by omega
    refine tt ?_;refine wk_ls 6 hY rfl fun H o=>?_;simp only [List.set_cons_zero,List.set_cons_succ] at o
    have hX:=LsO.mk (o.perm List.perm_middle.symm) hp5;clear o;refine wk_ls 5 hX rfl fun H o=>wkW_done ?_;simp only [List.set_cons_zero,List.set_cons_succ] at o;refine tt ?_;refine rd_celln o (by simp) ?_;refine tt ?_;refine sw o.swap fun H o=>tt ?_
    have hr:=o.rc 7 0 (by simp);simp only [List.drop_zero] at hr;rw [hr];exact pure_ret (by rw [freeQ,← hEx]; rfl) o.sub
theorem l20Small_ok (B : Nat) (c : Cat) (hc : c.Is) (x : Int) : Pur Tryz.prog B 207 [.agg c.cells,iI x] (.bool (dec (RepFew c x))):=by
 refine ⟨fun H0=>c207.go fun _=>?_⟩
 have ho:=hc.1.o
 have hm:=hc.1.m
 have o : Owns H0 H0 []:=.nil _;refine tt ?_
 refine awp_for [1,2] (G:=Unit) (fun y _=>[(5,some (.int .i64 (y : Int)))])
  (fun y _ H=>H=H0∧∀ z : Nat,z<y→(hom c x z).length≤16) c.objs.toNat () ⟨rfl,fun z hz=>by omega⟩ rfl ?_
 clear o
 rintro y _ H hy ⟨rfl,hf⟩
 replace hf : ∀ z : Nat,z<y→(hom c x z).length≤16:=hf;refine tt ?_;apply bk <;> intro h1
 rotate_left
 ·have h1p:=of_ndecide h1
  obtain rfl : y=c.objs.toNat:=by omega
  refine tt ?_;exact pure_ret (by rw [dec_t (p:=RepFew c x) hf]) (.refl _)
 have h1p:=of_decide h1
 have w1:=wsucc (k:=y) (by omega);refine tt ?_;refine (l02Hom_ok B c hc.1 x (y : Int)).go fun _=>?_;rw [← hom_homC];refine tt ?_;apply bk <;> intro h2
 ·have h2p:=of_decide h2;refine tt ?_;exact pure_ret (by rw [dec_f (p:=RepFew c x) fun h=>by have:=h y (by omega); omega]) (.refl _)
 ·have h2p:=of_ndecide h2;refine tw w1 ?_
  exact for_next () (by omega) ⟨rfl,fun z hz=>by
   rcases Nat.lt_or_ge z y with h | h
   ·exact hf z h
   ·obtain rfl : z=y:=by omega
    omega⟩ rfl
theorem l20Code_ok (B : Nat) (c : Cat) (hc : c.Is) (x : Int) (hx : 0≤x∧x<c.objs) : Pur Tryz.prog B 102 [.agg c.cells,iI x] (iI (bif dec (RepFew c x) then 0 else 3)):=by
 refine ⟨fun H0=>c102.go fun _=>?_⟩
 have o : Owns H0 H0 []:=.nil _;refine tt ?_;refine (l02Is_ok B c).go fun _=>?_;rw [dec_t hc];refine tt ?_;refine (l02Object_ok B c x).go fun _=>?_;rw [dec_t hx];refine tt ?_;refine (l20Small_ok B c hc x).go fun _=>?_
 by_cases h : RepFew c x
 ·rw [dec_t h];refine tt ?_;exact pure_ret rfl (.refl _)
 ·rw [dec_f h];refine tt ?_;exact pure_ret rfl (.refl _)
theorem l20Rep_ok (B : Nat) (c : Cat) (hc : c.Is) (x : Int) : Pur Tryz.prog B 103 [.agg c.cells,iI x] (.agg (repF c x).cells):=by
 refine ⟨fun H0=>c103.go fun _=>?_⟩
 have o : Owns H0 H0 []:=.nil _;refine tt ?_;refine nb o fun id4 H o=>tt ?_;refine (l19FreeX_ok B c hc [x] (by simp)).go fun _=>?_;rw [freeQ_rep hc];refine tt ?_;refine stc o fun H o=>?_
 have o : Owns H0 H [(id4,.cells 7 (repF c x).cells 0)]:=o;refine tt ?_;rw [o.rc 7 0 (by simp [SF.cells])];refine tt ?_;exact pure_ret rfl o.sub
noncomputable def repRes (c : Cat) (x : Int) : AV:=bif dec (RepFew c x) then .tup [.agg (repF c x).cells,iI 0] else .tup [.agg zSF'.cells,iI 3]
theorem representableS_ok (B : Nat) (c : Cat) (hc : c.Is) (x : Int) (hx : 0≤x∧x<c.objs) : Pur Tryz.prog B 28 [.agg c.cells,iI x] (repRes c x):=by
 refine ⟨fun H0=>c28p.go fun _=>?_⟩
 have o : Owns H0 H0 []:=.nil _;refine tt ?_;refine nb o fun id4 H o=>?_
 have o : Owns H0 H [(id4,.cells 7 z7c 0)]:=o;refine tt ?_;refine (l20Code_ok B c hc x hx).go fun _=>?_
 by_cases h : RepFew c x
 ·rw [dec_t h,cond_true];refine td ?_;refine (l20Rep_ok B c hc x).go fun _=>tt ?_;refine st_cells o (by simp [z7c]) (by (try simp only [go_sem]); (try simp)) (by first | (simp only [go_sem]; done) | ((try simp only [go_sem]); simp [AV.one,one_mL])) fun H o=>?_
  have o : Owns H0 H [(id4,.cells 7 (repF c x).cells 0)]:=o;refine tt ?_;refine wkW_done ?_;refine tt ?_;rw [o.rc 7 0 (by simp [SF.cells])];refine tt ?_;exact pure_ret (by rw [repRes,dec_t h]; rfl) o.sub
 ·rw [dec_f h,cond_false]
  have e3 : (!decide ((3 : Int)=0))=true:=rfl;refine tt ?_;rw [e3];refine tt ?_;refine st_cells o (by simp [z7c]) (by (try simp only [go_sem]); (try simp)) (by first | (simp only [go_sem]; done) | ((try simp only [go_sem]); simp [AV.one,one_mL])) fun H o=>?_
  have o : Owns H0 H [(id4,.cells 7 z7c 0)]:=o;refine tt ?_;refine wk_z7 o fun H o=>wkW_done ?_;refine tt ?_;rw [o.rc 7 0 (by simp [SF.cells])];refine tt ?_;exact pure_ret (by rw [repRes,dec_f h]; rfl) o.sub
end Go.Proofs.Shf
namespace Go.Shf
open Go.AW
theorem Cat.Shape.sh {c : Cat} (h : c.Shape) : c.Sh 40:=⟨by have:=h.o; omega,h.il,h.m,h.tol,h.cl,h.row⟩
end Go.Shf
namespace Go.Proofs.Shf
open Go.AW Go.Proofs Go.Shf
theorem dTrue' (i : Decidable True) : @decide True i=true:=decide_eq_true trivial
def OFb (f : SF) (p : Ob) (X : AV) : Prop:=∃ z d Xs ob,X=.agg [iI f.shape.objs,iL f.shape.frm,iL f.shape.to,iL f.shape.idn,iLL f.shape.comp,.buf z f.sizes.length,.buf d Xs.length]∧LsR iI Xs f.acts ob ∧
 p=(z,.cells 1 (f.sizes.map iI) 0)::(d,.cells 1 Xs 0)::ob
theorem l19Own_new (B : Nat) (f : SF) : New Tryz.prog B 234 [.agg f.cells] (OFb f):=by
 refine ⟨fun H0=>c234p.go fun _=>?_⟩
 have o : Owns H0 H0 []:=.nil _;refine tt ?_;refine nb o fun id H o=>tt ?_;refine ⟨_,(l02Own_ok B f.shape).run,tt ?_⟩;refine New.go' (l01Own_new B f.sizes) o fun X1 p1 H ⟨z,e1,e2⟩ o hs=>⟨hs, ?_⟩;subst e1 e2;refine tt ?_;refine New.go' (l01Own2_new B f.acts) o fun X1 p1 H ⟨d,Xs,ob,e1,h,e2⟩ o hs=>⟨hs, ?_⟩;subst e1 e2;refine tt ?_
 have o : Owns H0 H ((id,MObj.cells 7 [.int .i64 0,.nilsl,.nilsl,.nilsl,.nilsl,.nilsl,.nilsl] 0)::(z,MObj.cells 1 (f.sizes.map iI) 0)::(d,MObj.cells 1 Xs 0)::ob):=o.pm;refine sw o fun H o=>tt ?_
 have hr:=o.rc 7 0 (by simp);simp only [List.drop_zero] at hr;rw [hr];exact ⟨H,.refl H,_,⟨z,d,Xs,ob,rfl,h,rfl⟩,o.tl⟩
theorem wk_sf {F : Env→Heap→Prop} {σ : Env} {H0 H : Heap} {l : Ob} {id fr : Nat} {c : Cat} {z d : Nat} {S : List Int} {Xs : List AV} {As : List (List Int)} {ob : Ob} (h : LsR iI Xs As ob)
  (o : Owns H0 H ((id,.cells 7 [iI c.objs,iL c.frm,iL c.to,iL c.idn,iLL c.comp,.buf z S.length,.buf d Xs.length] fr)::(z,.cells 1 (S.map iI) 0)::(d,.cells 1 Xs 0)::(ob++l)))
  (hk : ∀ H',Owns H0 H' ((id,.cells 7 (SF.cells ⟨c,S,As⟩) fr)::l)→wkW F σ H') : wkW F σ H:=by
 have hl:=h.len
 have od : Owns H0 H ((d,.cells 1 Xs 0)::(ob++((id,.cells 7 [iI c.objs,iL c.frm,iL c.to,iL c.idn,iLL c.comp,.buf z S.length,.buf d Xs.length] fr)::(z,.cells 1 (S.map iI) 0)::l))):=o.pm;refine wk_rows h [] H od fun H o=>?_;simp only [List.nil_append] at o;rw [hl] at o
 have o : Owns H0 H ((id,.cells 7 [iI c.objs,iL c.frm,iL c.to,iL c.idn,iLL c.comp,.buf z S.length,.buf d As.length] fr)::(z,.cells 1 (S.map iI) 0)::(d,.cells 1 (As.map iL) 0)::l):=o.pm;refine wk_cell 5 o rfl rfl fun H o=>?_;simp only [List.set_cons_zero,List.set_cons_succ] at o;refine wk_cell 6 o rfl rfl fun H o=>?_;simp only [List.set_cons_zero,List.set_cons_succ] at o;exact hk H o
@[go_sem] def bendF (id3 : Nat) (c : Cat) (z : Nat) (S : List Int) (d : Nat) (Xs : List AV) (l : Ob) : Ob :=
 (id3,.cells 7 [iI c.objs,iL c.frm,iL c.to,iL c.idn,iLL c.comp,.buf z S.length,.buf d Xs.length] 0)::(z,.cells 1 (S.map iI) 0)::(d,.cells 1 Xs 0)::l
def BendR (f : SF) (r : AV) : Prop:=∃ f2 : SF,r=.agg f2.cells∧(f2.shape=f.shape∨(f2.sizes=f.sizes∧f2.acts=f.acts))
theorem l19Bend_ok (B : Nat) (f : SF) (hc : f.shape.Shape) (hA40 : f.acts.length≤40) : Rd B 165 [.agg f.cells] (BendR f):=by
 intro id s H0 H hs o
 obtain ⟨c,S,A⟩:=f;dsimp only at hA40;refine c165p.go fun hfi=>?_
 have hfl:=fine_mL_le (hfi.2.1.agg (c:=iL S) (by simp [SF.cells]))
 have hfl2:=fine_mL_le (hfi.2.1.agg (c:=iLL A) (by simp [SF.cells]));simp only [maxL] at hfl hfl2;clear hfi;refine tt ?_;refine nb o fun id3 H o=>tt ?_;refine nb o fun id4 H o=>tt ?_;refine rd_celln o.tl (by simp) ?_;refine tt ?_;refine New.go' (l19Own_new B ⟨c,S,A⟩) o fun X1 p1 H ⟨z,d,Xs,ob,e1,hX,e2⟩ o _=>?_;subst e1 e2
 have hXl:=hX.len;simp only at hX hXl;refine tt ?_
 have o : Owns H0 H ((id3,MObj.cells 7 [iI c.objs,iL c.frm,iL c.to,iL c.idn,iLL c.comp,iL S,iLL A] 0)::(z,.cells 1 (S.map iI) 0)::(d,.cells 1 Xs 0)::(ob++[(id,s.obj),(id4,MObj.cells 7 [.int .i64 0,.nilsl,.nilsl,.nilsl,.nilsl,.nilsl,.nilsl] 0)])):=o.pm;refine sw o fun H o=>tt ?_
 have hsrc : ∀ {H : Heap} {s : Src} {Xs : List AV} {ob : Ob} {c : Cat} {z d : Nat} {S : List Int},Owns H0 H (bendF id3 c z S d Xs (ob++[(id,s.obj),(id4,MObj.cells 7 [.int .i64 0,.nilsl,.nilsl,.nilsl,.nilsl,.nilsl,.nilsl] 0)])) →
   Owns H0 H ((id,s.obj)::bendF id3 c z S d Xs (ob++[(id4,MObj.cells 7 [.int .i64 0,.nilsl,.nilsl,.nilsl,.nilsl,.nilsl,.nilsl] 0)])):=by
  intro H s Xs ob c z d S o;unfold bendF at o ⊢;exact o.pm
 have o:=hsrc (by unfold bendF; exact o);refine (l01Next_ok B 5).go hs o fun r s H _ ⟨v,e,v0,v1,_⟩ hs o=>?_;subst e;unfold bendF at o;refine tt ?_
 have htup : ∀ {c' : Cat} {z' d' : Nat} {S' : List Int} {Xs' : List AV} {A' : List (List Int)} {ob' : Ob} {F : Env→Heap→Prop} {σ : Env} {H : Heap} {s : Src},LsR iI Xs' A' ob' →
   Owns H0 H ((id,s.obj)::bendF id3 c' z' S' d' Xs' (ob'++[(id4,MObj.cells 7 [.int .i64 0,.nilsl,.nilsl,.nilsl,.nilsl,.nilsl,.nilsl] 0)])) →
   (∀ H',Owns H0 H' ((id3,.cells 7 (SF.cells ⟨c',S',A'⟩) 0)::[(id,s.obj),(id4,MObj.cells 7 [.int .i64 0,.nilsl,.nilsl,.nilsl,.nilsl,.nilsl,.nilsl] 0)])→F σ H')→wkW F σ H:=by
  intro c' z' d' S' Xs' A' ob' F σ H s hR o hk;unfold bendF at o
  have od : Owns H0 H ((id3,.cells 7 [iI c'.objs,iL c'.frm,iL c'.to,iL c'.idn,iLL c'.comp,.buf z' S'.length,.buf d' Xs'.length] 0)::(z',.cells 1 (S'.map iI) 0)::(d',.cells 1 Xs' 0)::(ob'++[(id,s.obj),(id4,MObj.cells 7 [.int .i64 0,.nilsl,.nilsl,.nilsl,.nilsl,.nilsl,.nilsl] 0)])):=o.pm;exact wk_sf hR od fun H o=>wkW_done (hk H o)
 apply bk <;> intro h0
 focus
  refine tt ?_;refine rd_celln o.tl (by simp) ?_;refine tt ?_;refine (l02Bend_ok B 40 (by omega) c (show c.Shape from hc).sh).go hs o fun r s H _ ⟨c2,e⟩ hs o=>?_;subst e;refine tt ?_;refine sw o.swap fun H o=>?_
  have o : Owns H0 H ((id,s.obj)::bendF id3 c2 z S d Xs (ob++[(id4,MObj.cells 7 [.int .i64 0,.nilsl,.nilsl,.nilsl,.nilsl,.nilsl,.nilsl] 0)])):=by unfold bendF; exact o.swap
  refine tt ?_;refine htup hX o fun H o=>?_
 rotate_left 1
 focus
  refine tt ?_;apply bk <;> intro h1
  focus
   refine tt ?_;refine rd_cells o.tl (by simp) ?_;refine tt ?_;apply bk <;> intro h2
   focus
    have h2p:=of_decide h2;refine tt ?_
    have hg3:=o.tl.h0;simp only at hg3;refine ⟨⟨_,_,hg3⟩,rd_get hg3 (by simp) ?_⟩;refine tt ?_;refine ⟨⟨_,_,hg3⟩,rd_get hg3 (by simp) ?_⟩;refine tt ?_;refine (l01Next_ok B _).goZ hs o fun r s H _ ⟨i,e,i0,i1,_⟩ hs o hz=>⟨hz, ?_⟩;subst e
    have hi:=i1 (by omega);refine tt ?_;refine (l01Pick_ok B [-1,0,1,2,17] (by simp)).goZ hs o fun r s H _ ⟨y,e,_⟩ hs o hz=>⟨hz, ?_⟩;subst e;refine tt ?_;refine ⟨⟨i0,by omega⟩, ?_⟩;refine set_own (f:=iI) y (o.pull [_,_]) rfl (by omega) fun H o=>?_
    have o : Owns H0 H ((id,s.obj)::bendF id3 c z (S.set i.toNat y) d Xs (ob++[(id4,MObj.cells 7 [.int .i64 0,.nilsl,.nilsl,.nilsl,.nilsl,.nilsl,.nilsl] 0)])):=by unfold bendF; rw [List.length_set]; exact o.pm
    refine tt ?_;refine htup hX o fun H o=>?_
   rotate_left 1
   focus
    have o : Owns H0 H ((id,s.obj)::bendF id3 c z S d Xs (ob++[(id4,MObj.cells 7 [.int .i64 0,.nilsl,.nilsl,.nilsl,.nilsl,.nilsl,.nilsl] 0)])):=by unfold bendF; exact o
    refine tt ?_;refine htup hX o fun H o=>?_
  rotate_left 2
  focus
   have h0p:=of_ndecide h0
   have h1p:=of_ndecide h1
   have v5:=v1 (by omega)
   have c32 : decide ((3 : Int)=2)=false:=rfl
   have c42 : decide ((4 : Int)=2)=false:=rfl
   have c43 : decide ((4 : Int)=3)=false:=rfl
   obtain rfl | rfl | rfl : v=2∨v=3∨v=4:=by omega
   rotate_left 2
   focus
    try simp only [go_sem,↓reduceIte,reduceEqDiff,reduceAdd,reduceMul,reduceLeDiff,reduceLT,c42,c43,dTrue']
    refine rd_cells o.tl (by simp) ?_;refine tt ?_;refine newBuf_own o fun ide H o=>tt ?_
    have o : Owns H0 H ((d,.cells 1 Xs 0)::((ide,.cells 1 [] 0)::(id,s.obj)::(id3,.cells 7 [iI c.objs,iL c.frm,iL c.to,iL c.idn,iLL c.comp,.buf z S.length,.buf d Xs.length] 0)::(z,.cells 1 (S.map iI) 0)::(ob++[(id4,MObj.cells 7 [.int .i64 0,.nilsl,.nilsl,.nilsl,.nilsl,.nilsl,.nilsl] 0)]))):=o.pm;refine app_raw o rfl rfl rfl (by simp only [maxL]; omega) fun d H o=>tt ?_;refine sw (o.pull [_,_,_]) fun H o=>?_
    have hX2:=hX.snoc' (p:=[(ide,.cells 1 [] 0)]) (X:=.buf ide 0) (A:=[]) (.inr ⟨ide,rfl,rfl⟩)
    have o : Owns H0 H ((id,s.obj)::bendF id3 c z S d (Xs++[.buf ide 0]) ((ob++[(ide,.cells 1 [] 0)])++[(id4,MObj.cells 7 [.int .i64 0,.nilsl,.nilsl,.nilsl,.nilsl,.nilsl,.nilsl] 0)])):=by
     unfold bendF;rw [List.length_append,List.length_singleton];exact o.pm
    refine tt ?_;refine htup hX2 o fun H o=>tt ?_;refine rd_celln o (by simp [SF.cells]) ?_;refine tt ?_;refine sw (o.pull [_,_]) fun H o=>tt ?_
    have hr:=o.rc 7 0 (by simp);simp only [List.drop_zero] at hr;rw [hr];exact src_ret ⟨⟨_,_,_⟩,rfl,by first | exact .inl rfl | exact .inr ⟨rfl,rfl⟩⟩ hs (o.pull [_,_])
   all_goals
    try simp only [go_sem,↓reduceIte,reduceEqDiff,reduceAdd,reduceMul,reduceLeDiff,reduceLT,c32,dTrue']
    refine rd_cells o.tl (by simp) ?_;refine tt ?_;refine (l01Next_ok B _).go hs o fun r s H _ ⟨a,e,a0,a1,a2⟩ hs o=>?_;subst e
    obtain ⟨a,rfl⟩ : ∃ n : Nat,a=n:=⟨_,(Int.toNat_of_nonneg a0).symm⟩;clear a0 a2
    have hg3:=o.tl.h0;simp only at hg3
    have hgd : H.get d=some (.cells 1 Xs 0):=o.get (d,.cells 1 Xs 0) (by simp);refine tt ?_;refine rd_get hg3 (by simp) ?_;refine tt ?_;apply bk <;> intro k1
    focus
     have k1p:=of_decide k1
     have ha:=a1 (by omega)
     have hi : a<Xs.length:=by omega
     obtain ⟨pr,rr,_,hLs,_⟩:=hX.split a hi
     have hlr:=hLs.lenE;refine tw k1 ?_;refine rd_get hg3 (by simp) ?_;refine tt ?_;refine ⟨hi,rd_get hgd hi ?_⟩;refine tw hlr ?_;apply bk <;> intro k2
     focus
      have k2p:=of_decide k2
      obtain ⟨idr,er,hset⟩:=hX.row hi (by omega);refine tw k2 ?_;refine ⟨⟨_,_,hg3⟩,rd_get hg3 (by simp) ?_⟩;refine tt ?_;refine ⟨hi,⟨_,_,hgd⟩,rd_get hgd hi ?_⟩;refine tt ?_;refine ⟨⟨_,_,hg3⟩,rd_get hg3 (by simp) ?_⟩;refine tt ?_;refine ⟨hi,⟨_,_,hgd⟩,rd_get hgd hi ?_⟩;rw [er];refine tt ?_;refine (l01Next_ok B _).goZ hs o fun r s H _ ⟨i,e,i0,i1,_⟩ hs o hz=>⟨hz, ?_⟩;subst e
      have hi1:=i1 (by omega);refine (l01Next_ok B _).goZ hs o fun r s H _ ⟨y1,e,_⟩ hs o hz=>⟨hz, ?_⟩;subst e;refine (l01Next_ok B _).goZ hs o fun r s H _ ⟨y2,e,_⟩ hs o hz=>⟨hz, ?_⟩;subst e;refine tt ?_;refine ⟨by omega, ?_⟩
      generalize IntKind.i64.wrap (y1 - _)=y3;refine ⟨⟨i0,by omega⟩, ?_⟩
      have od : Owns H0 H ((d,.cells 1 Xs 0)::(ob++[(id,s.obj),(id3,.cells 7 [iI c.objs,iL c.frm,iL c.to,iL c.idn,iLL c.comp,.buf z S.length,.buf d Xs.length] 0),(z,.cells 1 (S.map iI) 0),(id4,MObj.cells 7 [.int .i64 0,.nilsl,.nilsl,.nilsl,.nilsl,.nilsl,.nilsl] 0)])):=o.pm;refine hset od i.toNat (by omega) y3 rfl fun H ob' hX' o=>?_
      have o : Owns H0 H ((id,s.obj)::bendF id3 c z S d Xs (ob'++[(id4,MObj.cells 7 [.int .i64 0,.nilsl,.nilsl,.nilsl,.nilsl,.nilsl,.nilsl] 0)])):=by unfold bendF; exact o.pm
      refine tt ?_;refine htup hX' o fun H o=>?_
     rotate_left 1
     focus
      refine tw k2 ?_
      have o : Owns H0 H ((id,s.obj)::bendF id3 c z S d Xs (ob++[(id4,MObj.cells 7 [.int .i64 0,.nilsl,.nilsl,.nilsl,.nilsl,.nilsl,.nilsl] 0)])):=by unfold bendF; exact o
      refine htup hX o fun H o=>?_
    rotate_left 2
    focus
     refine tw k1 ?_
     have o : Owns H0 H ((id,s.obj)::bendF id3 c z S d Xs (ob++[(id4,MObj.cells 7 [.int .i64 0,.nilsl,.nilsl,.nilsl,.nilsl,.nilsl,.nilsl] 0)])):=by unfold bendF; exact o
     refine htup hX o fun H o=>?_
 all_goals
  refine tt ?_;refine rd_celln o (by simp [SF.cells]) ?_;refine tt ?_;refine sw (o.pull [_,_]) fun H o=>tt ?_
  have hr:=o.rc 7 0 (by simp);simp only [List.drop_zero] at hr;rw [hr];exact src_ret ⟨⟨_,_,_⟩,rfl,by first | exact .inl rfl | exact .inr ⟨rfl,rfl⟩⟩ hs (o.pull [_,_])
def DrawR (c : Cat) (size : Int) (r : AV) : Prop:=∃ f : SF,r=.agg f.cells∧(c.Is→size≤16→f.Is→SF.Is ⟨c,f.sizes,f.acts⟩)
theorem l19DrawQ_ok (B : Nat) (c : Cat) (size : Int) (hsize : 0≤size∧size≤1000) : Rd B 52 [.agg c.cells,iI size] (DrawR c size):=by
 intro id s H0 H hs o;refine c52p.go fun _=>?_;refine tt ?_;refine nb o fun id6 H o=>tt ?_;refine (l02Is_ok B c).go fun _=>tt ?_
 by_cases hc : c.Is
 ·rw [dec_t hc];refine tt ?_;refine (l19SomeQ_ok B c hc size hsize).go hs o.swap fun r s H _ ⟨f,e,hfc,hfa,hfI⟩ hs o=>?_;subst e;refine tt ?_;refine nb o fun id7 H o=>tt ?_;refine sw o fun H o=>tt ?_;refine (l01Next_ok B 40).go hs o.swap fun r s H _ ⟨v,e,_⟩ hs o=>?_;subst e;refine tt ?_;apply bk <;> intro h1
  ·refine tt ?_;refine rd_celln o.tl (by simp) ?_;refine tt ?_;refine (l19Bend_ok B f (by rw [hfc]; exact hc.1) hfa).go hs o fun r s H _ ⟨f2,e,hb⟩ hs o=>?_;subst e;refine tt ?_;refine sw (o.pull [_,_]) fun H o=>tt ?_;refine wkW_done ?_
   have hr:=o.rc 7 0 (by simp);simp only [List.drop_zero] at hr;refine tt ?_;rw [hr]
   exact src_ret ⟨f2,rfl,fun _ h16 h2=>by
    obtain ⟨c2,S2,A2⟩:=f2
    rcases hb with hb | ⟨h1,h2⟩
    ·have hb : c2=f.shape:=hb;subst hb;rw [← hfc]; exact h2
    ·have h1 : S2=f.sizes:=h1
     have h2 : A2=f.acts:=h2;subst h1 h2;rw [← hfc]; exact (hfI h16).1⟩ hs o.swap
  ·refine tt ?_;refine rd_celln o.tl (by simp) ?_;refine tt ?_;refine sw (o.pull [_,_]) fun H o=>tt ?_;refine wkW_done ?_
   have hr:=o.rc 7 0 (by simp);simp only [List.drop_zero] at hr;refine tt ?_;rw [hr];exact src_ret ⟨f,rfl,fun _ _ h=>by rw [← hfc]; exact h⟩ hs o.swap
 ·rw [dec_f hc];refine tt ?_;refine sw o fun H o=>tt ?_;refine wk_nil 5 o rfl fun H o=>?_;simp only [List.set_cons_zero,List.set_cons_succ] at o;refine wk_nil 6 o rfl fun H o=>wkW_done ?_;simp only [List.set_cons_zero,List.set_cons_succ] at o
  have hr:=o.rc 7 0 (by simp);simp only [List.drop_zero] at hr;refine tt ?_;rw [hr];exact src_ret ⟨⟨c,[],[]⟩,rfl,fun h=>absurd h hc⟩ hs o.swap
theorem l19Draw_ok (B : Nat) (c : Cat) (size : Int) (hsize : 0≤size∧size≤1000) : Rd B 52 [.agg c.cells,iI size] AnyF:=fun id s H0 H hs o=>(l19DrawQ_ok B c size hsize id s H0 H hs o).mono fun r H' ⟨⟨f,e,_⟩,h⟩=>⟨⟨f,e⟩,h⟩
end Go.Proofs.Shf
