/- Contracts, part 5. -/
import Derived.Test.YtadpkiiglobmpaaGreatF4
set_option linter.unusedVariables false
set_option linter.unusedSimpArgs false
set_option linter.unusedSectionVars false
open Nat (reduceEqDiff reduceAdd reduceMul reduceLeDiff reduceLT)
namespace Go.Shf
open Go.AW
end Go.Shf
namespace Go.AW
theorem LsO.focus {α β : Type} {f : α → AV} {g : β → AV} {H0 H : Heap} {x : Nat × MObj} {p r : List (Nat × MObj)} {X Y : AV} {A : List α} {C : List β} (h : LsO f H0 H (x :: (p ++ r)) X A) (hp : LsP g p Y C) :
  ∃ q,LsP f q X A ∧ LsO g H0 H (x :: (r ++ q)) Y C := by
 obtain ⟨q,o,hq⟩ := h.split;refine ⟨q,hq,LsO.mk (p := p) (o.perm ?_) hp⟩
 have := perm_cba q [x] p r;refine (by simpa using this : (q ++ x :: (p ++ r)).Perm (p ++ x :: (q ++ r))).trans ?_;exact List.Perm.append_left p (.cons _ List.perm_append_comm)
end Go.AW
namespace Go.Shf
open Go.AW
def plE (L : List (List Int)) : AV := .imap (plS L L.length).1 (plS L L.length).2
instance : One plE := ⟨fun _ => rfl,fun _ => rfl⟩
end Go.Shf
namespace Go.Proofs.Shf
open Go.AW Go.Proofs Go.Shf
@[go_sem] noncomputable def stepVal (f : SF) (V : List (List Int)) : AV := .ptr [.ptr f.cells,iI f.shape.objs,iL f.shape.frm,iL f.shape.to,iL f.shape.idn,iLL f.shape.comp,iL (stepSizes f V),iLL (stepActs f V),iLL V,iLLL (famsOf f V),mL plE (famsOf f V)]
end Go.Proofs.Shf
namespace Go.Shf
open Go.AW
def constF (c : Cat) (n : Int) : SF := ⟨c,List.replicate c.objs.toNat n,List.replicate c.frm.length ((List.range n.toNat).map Int.ofNat)⟩
theorem rep_succ {α : Type} (k : Nat) (a : α) : List.replicate (k + 1) a = List.replicate k a ++ [a] := List.replicate_succ'
end Go.Shf
namespace Go.Proofs.Shf
open Go.AW Go.Proofs Go.Shf
abbrev z7 : List AV := [.int .i64 0,.nilsl,.nilsl,.nilsl,.nilsl,.nilsl,.nilsl]
theorem l19ConstG_ok (B : Nat) (c : Cat) (hob : 0 ≤ c.objs ∧ c.objs ≤ 4096) (hm : c.frm.length ≤ 4096) (n : Int) (hn : 0 ≤ n ∧ n ≤ 100) : Pur Tryz.prog B 76 [.agg c.cells,iI n] (.agg (constF c n).cells) := by
 refine ⟨fun H0 => c76p (by simp) fun hfi => ?_⟩;unfold s76p
 have o : Owns H0 H0 [] := .nil _;refine tt ?_;refine nb o fun id4 H o => tt ?_;refine (l02Own_ok B c).go fun _ => tt ?_;refine nb o fun id5 H o => tt ?_;refine sw o fun H o => ?_
 let st : AV → AV → MObj := fun x5 x6 => .cells 7 [iI c.objs,iL c.frm,iL c.to,iL c.idn,iLL c.comp,x5,x6] 0
 refine tt ?_;refine awp_for [1,2,4,5] (G := AV) (fun k X => [(6,some (.int .i64 (k : Int)))]) (fun k X H => LsO iI H0 H ((id5,st X .nilsl) :: [(id4,.cells 7 z7 0)]) X (List.replicate k n)) c.objs.toNat .nilsl (.inl ⟨rfl,rfl,o⟩) rfl ?_;clear o
 rintro k X H hk hX;refine tt ?_;apply bk <;> intro h1
 ·have h1p := of_decide h1
  have w := wsucc (k := k) (by omega);refine tt ?_;refine rd_get hX.obj (by simp [st]) ?_;refine tt ?_;refine hX.app n rfl (by simp only [List.length_replicate,maxL]; omega) fun idn H o => ?_;rw [← rep_succ] at o ⊢;refine tt ?_;refine sw o.swap fun H o => ?_;refine tw w ?_;exact for_next _ (by omega) (.inr ⟨idn,rfl,o.swap⟩) rfl
 ·have h1p := of_ndecide h1
  obtain rfl : k = c.objs.toNat := by omega
  obtain ⟨p5,o,h5⟩ := hX.split
  have o : Owns H0 H ((id5,st X .nilsl) :: (p5 ++ [(id4,.cells 7 z7 0)])) := o.perm List.perm_middle;clear hX;refine tt ?_;refine awp_for [1,2,4,5] (G := AV) (fun a Y => [(7,some (.int .i64 (a : Int)))]) (fun a Y H => LsO iL H0 H ((id5,st X Y) :: (p5 ++ [(id4,.cells 7 z7 0)])) Y (List.replicate a ((List.range n.toNat).map Int.ofNat))) c.frm.length .nilsl (.inl ⟨rfl,rfl,o⟩) rfl ?_;clear o
  rintro a Y H ha hY
  replace hY : LsO iL H0 H ((id5,st X Y) :: (p5 ++ [(id4,.cells 7 z7 0)])) Y (List.replicate a ((List.range n.toNat).map Int.ofNat)) := hY;refine tt ?_;apply bk <;> intro h2
  ·have h2p := of_decide h2
   have w2 := wsucc (k := a) (by omega)
   obtain ⟨q,o,hq⟩ := hY.split;clear hY;refine tt ?_;refine new_list iI o fun id8 H o => tt ?_
   refine awp_for [1,2,4,5,7] (G := Nat × List Int) (fun e g => [(8,some (.buf g.1 g.2.length)),(9,some (.int .i64 (e : Int)))])
    (fun e g H => g.2 = (List.range e).map Int.ofNat ∧ Owns H0 H ((g.1,.cells 1 (g.2.map iI) 0) :: (q ++ ((id5,st X Y) :: (p5 ++ [(id4,.cells 7 z7 0)]))))) n.toNat (id8,[]) ⟨rfl,o⟩ rfl ?_
   clear o
   rintro e ⟨id8,row⟩ H he ⟨hrow,o⟩;dsimp only at hrow o
   have hrl : row.length = e := by rw [hrow]; simp
   refine tt ?_;apply bk <;> intro h3
   ·have h3p := of_decide h3
    have w3 := wsucc (k := e) (by omega);refine tt ?_;refine app_own (e : Int) o rfl rfl (by simp only [maxL]; omega) fun id8 H o => ?_;refine tw w3 ?_;exact for_next (_,_) (by omega) ⟨by rw [hrow,List.range_succ]; simp,o⟩ rfl
   ·have h3p := of_ndecide h3
    obtain rfl : e = n.toNat := by omega
    refine tt ?_;refine fz_own o rfl fun H o => ?_
    have hY := LsO.mk o hq;clear o;refine tt ?_;refine rd_get hY.obj (by simp [st]) ?_;refine tt ?_;refine hY.app row rfl (by simp only [List.length_replicate,maxL]; omega) fun idn H o => ?_;rw [hrow,← rep_succ] at o ⊢;refine tt ?_;refine sw o.swap fun H o => ?_;refine tw w2 ?_;exact for_next _ (by omega) (.inr ⟨idn,rfl,o.swap⟩) rfl
  ·have h2p := of_ndecide h2
   obtain rfl : a = c.frm.length := by omega
   refine tt ?_;refine wk_ls 6 hY rfl fun H o => ?_;simp only [List.set_cons_zero,List.set_cons_succ] at o
   have hX := LsO.mk (o.perm List.perm_middle.symm) h5;clear o;refine wk_ls 5 hX rfl fun H o => wkW_done ?_;simp only [List.set_cons_zero,List.set_cons_succ] at o;refine tt ?_;refine rd_celln o (by simp) ?_;refine tt ?_;refine sw o.swap fun H o => tt ?_
   have hr := o.rc 7 0 (by simp);simp only [List.drop_zero] at hr;rw [hr];exact pure_ret rfl o.sub
theorem l19Constant_ok (B : Nat) (c : Cat) (hc : c.Shape) (n : Int) (hn : 0 ≤ n ∧ n ≤ 100) : Pur Tryz.prog B 76 [.agg c.cells,iI n] (.agg (constF c n).cells) :=
 l19ConstG_ok B c (by have := hc.o; omega) (by have := hc.m; omega) n hn
def PreQ (c : Cat) (N : Nat) (r : AV) : Prop := ∃ f : SF,r = .agg f.cells ∧ f.Pre c N
theorem l19Free_ok (B : Nat) (c : Cat) (hc : c.Is) (os : List Int) (hos : os.length ≤ 3) : Rets B 237 [.agg c.cells,iL os] (PreQ c 120) := by
 intro H0;refine c237p (by simp) fun _ => ?_
 have hm := hc.1.m
 have hob := hc.1.o
 have htl := hc.1.tol;unfold s237p
 have o : Owns H0 H0 [] := .nil _;refine tt ?_;refine nb o fun id4 H o => tt ?_;refine ⟨⟨by omega,by simp only [maxL]; omega⟩, ?_⟩;rw [rep_one];refine newBuf_own o fun idL H o => tt ?_
 refine awp_for [1,2,4,5] (G := List AV × List (List (List Int)) × List (Nat × MObj)) (fun k _ => [(6,some (.int .i64 (k : Int)))])
  (fun k g H => Owns H0 H ((idL,.cells 1 g.1 0) :: (g.2.2 ++ [(id4,.cells 7 z7 0)])) ∧ LsR iL g.1 g.2.1 g.2.2 ∧ FreeI c os k 0 g.2.1) os.length (List.replicate c.objs.toNat .nilsl,List.replicate c.objs.toNat [],[]) ⟨o,LsR.rep iL _,.zero hob.1⟩ rfl ?_
 clear o
 rintro k ⟨Xs,LL,ob⟩ H hk ⟨o,hR,hI⟩;dsimp only at o hR hI;refine tt ?_;apply bk <;> intro h1
 ·have h1p := of_decide h1
  have w1 := wsucc (k := k) (by omega);refine tt ?_
  refine awp_for [1,2,4,5,6] (G := List AV × List (List (List Int)) × List (Nat × MObj)) (fun h _ => [(7,some (.int .i64 (h : Int)))])
   (fun h g H => Owns H0 H ((idL,.cells 1 g.1 0) :: (g.2.2 ++ [(id4,.cells 7 z7 0)])) ∧ LsR iL g.1 g.2.1 g.2.2 ∧ FreeI c os k h g.2.1) c.frm.length (Xs,LL,ob) ⟨o,hR,hI⟩ rfl ?_
  clear o hR hI Xs LL ob
  rintro h ⟨Xs,LL,ob⟩ H hh ⟨o,hR,hI⟩;dsimp only at o hR hI;refine tt ?_;apply bk <;> intro h2
  ·have h2p := of_decide h2
   have w2 := wsucc (k := h) (by omega)
   have hto := hc.1.toObj (f := (h : Int)) (by simpa using h2p);rw [ix_nat] at hto
   have hXl := hR.len
   have hLl := hI.len
   have hbd := hI.bd (c.to.getD h default).toNat
   have hkm : k * c.frm.length ≤ 2 * 40 := Nat.mul_le_mul (by omega) hm;refine tt ?_;refine ⟨h2p,h1p, ?_⟩;apply bk <;> intro h3
   ·have h3p : c.frm.getD h default = os.getD k default := of_decide h3;refine tt ?_;refine ⟨by omega,by omega,⟨hto.1,by omega⟩,rd_get o.h0 (by omega) ?_⟩;refine tt ?_;refine rows_app o hR (by omega) [(k : Int),(h : Int)] rfl (by show (LL.getD _ default).length + 1 ≤ maxL; simp only [maxL]; omega) fun X' o' H hX1 hR o => ?_;try simp only [go_sem,↓reduceIte,reduceEqDiff,reduceAdd,reduceMul,reduceLeDiff,reduceLT,AV.cells_one hX1]
    refine ⟨⟨hto.1,by omega⟩,st_cells o (by omega) rfl (by simp only [memcons,memnil]; exact ⟨hX1,trivial⟩) fun H o => ?_⟩;simp only [wr_cons,wr_nil] at o;refine tw w2 ?_;exact for_next (_,_,_) (by omega) ⟨o,hR,hI.hit hc.1 h1p h2p h3p⟩ rfl
   ·refine tw w2 ?_;exact for_next (_,_,_) (by omega) ⟨o,hR,hI.skip (of_ndecide h3)⟩ rfl
  ·have h2p := of_ndecide h2
   obtain rfl : h = c.frm.length := by omega
   refine tw w1 ?_;exact for_next (_,_,_) (by omega) ⟨o,hR,hI.next⟩ rfl
 ·have h1p := of_ndecide h1
  obtain rfl : k = os.length := by omega
  have hLl := hI.len;refine tt ?_;refine wk_rows hR [] H o fun H o => wkW_done ?_;rw [List.nil_append] at o;clear hR;refine tt ?_;refine fz_own (f := iLL) o (by omega) fun H o => tt ?_;refine (l02Own_ok B c).go fun _ => tt ?_;refine nb o fun id8 H o => tt ?_;refine sw o fun H o => ?_
  let st : AV → AV → MObj := fun x5 x6 => .cells 7 [iI c.objs,iL c.frm,iL c.to,iL c.idn,iLL c.comp,x5,x6] 0
  refine tt ?_
  have hpre := free_pre hc hI (N := 120) (by have := Nat.mul_le_mul hos hm; omega)
  have hof := hI.of;clear hI;refine awp_for [2,4,5,8] (G := AV) (fun k X => [(9,some (.int .i64 (k : Int)))]) (fun k X H => LsO iI H0 H ((id8,st X .nilsl) :: [(id4,.cells 7 z7 0)]) X ((LL.take k).map fun l => (l.length : Int))) LL.length .nilsl (.inl ⟨rfl,rfl,o⟩) rfl ?_;clear o
  rintro k X H hk hX;refine tt ?_;apply bk <;> intro h4
  ·have h4p := of_decide h4
   have w := wsucc (k := k) (by omega);refine tt ?_;refine rd_get hX.obj (by simp [st]) ?_;refine tt ?_;refine ⟨h4p, ?_⟩;refine hX.app ((LL.getD k default).length : Int) rfl (by simp only [List.length_map,List.length_take,maxL]; omega) fun idn H o => ?_
   have e5 : ((LL.take k).map fun l => (l.length : Int)) ++ [((LL.getD k default).length : Int)] = (LL.take (k + 1)).map fun l => (l.length : Int) := by rw [take_one LL h4p]; simp
   rw [e5] at o ⊢;refine tt ?_;refine sw o.swap fun H o => ?_;refine tw w ?_;exact for_next _ (by omega) (.inr ⟨idn,rfl,o.swap⟩) rfl
  ·have h4p := of_ndecide h4
   obtain rfl : k = LL.length := by omega
   rw [List.take_length] at hX
   obtain ⟨p5,o,hp5⟩ := hX.split
   have o : Owns H0 H ((id8,st X .nilsl) :: (p5 ++ [(id4,.cells 7 z7 0)])) := o.perm List.perm_middle;clear hX;refine tt ?_;refine awp_for [2,4,5,8] (G := AV) (fun a Y => [(10,some (.int .i64 (a : Int)))]) (fun a Y H => LsO iL H0 H ((id8,st X Y) :: (p5 ++ [(id4,.cells 7 z7 0)])) Y ((List.range a).map (freeAct c LL))) c.frm.length .nilsl (.inl ⟨rfl,rfl,o⟩) rfl ?_;clear o
   rintro a Y H ha hY
   replace hY : LsO iL H0 H ((id8,st X Y) :: (p5 ++ [(id4,.cells 7 z7 0)])) Y ((List.range a).map (freeAct c LL)) := hY;refine tt ?_;apply bk <;> intro h5
   ·have h5p := of_decide h5
    have w2 := wsucc (k := a) (by omega)
    have hfr := hc.1.frmObj (f := (a : Int)) (by simpa using h5p)
    have hto := hc.1.toObj (f := (a : Int)) (by simpa using h5p);rw [ix_nat] at hfr hto
    obtain ⟨q,o,hq⟩ := hY.split;clear hY;refine tt ?_;refine new_list iI o fun id11 H o => tt ?_;refine ⟨h5p,⟨hfr.1,by omega⟩,by omega,⟨hto.1,by omega⟩, ?_⟩
    have eF : ix LL (c.frm.getD a default) = LL.getD (c.frm.getD a default).toNat default := rfl
    have eT : ix LL (c.to.getD a default) = LL.getD (c.to.getD a default).toNat default := rfl
    have hact : freeAct c LL a = (LL.getD (c.frm.getD a default).toNat default).map fun q => indexOf (LL.getD (c.to.getD a default).toNat default) [ix q 0,(ix c.comp (ix q 1)).getD a default] := rfl
    have hofF := hof (c.frm.getD a default).toNat (by omega);rw [eF,eT]
    generalize hF : LL.getD (c.frm.getD a default).toNat default = F at *
    generalize hT : LL.getD (c.to.getD a default).toNat default = T at *
    have hFl : F.length ≤ 200 := by
     have := hpre.sz (F.length : Int) (List.mem_map.mpr ⟨F,by rw [← hF]; exact mem_getD.mpr ⟨_,by omega,rfl⟩,rfl⟩);omega
    refine awp_for [2,4,5,8,10,12,13] (G := Nat × List Int) (fun e g => [(11,some (.buf g.1 g.2.length)),(14,some (.int .i64 (e : Int)))])
     (fun e g H => g.2 = (F.take e).map (fun q => indexOf T [ix q 0,(ix c.comp (ix q 1)).getD a default]) ∧ Owns H0 H ((g.1,.cells 1 (g.2.map iI) 0) :: (q ++ ((id8,st X Y) :: (p5 ++ [(id4,.cells 7 z7 0)]))))) F.length (id11,[]) ⟨by simp,o⟩ rfl ?_
    clear o
    rintro e ⟨id11,row⟩ H he ⟨hrow,o⟩;dsimp only at hrow o
    have hrl : row.length = e := by rw [hrow,List.length_map,List.length_take]; omega
    refine tt ?_;apply bk <;> intro h6
    ·have h6p := of_decide h6
     have w3 := wsucc (k := e) (by omega)
     obtain ⟨i,j,eq,hi,hj,_,_⟩ := hofF (F.getD e default) (mem_getD.mpr ⟨e,h6p,rfl⟩)
     have e0 : ix (F.getD e default) 0 = (i : Int) := by rw [eq]; rfl
     have e1 : ix (F.getD e default) 1 = (j : Int) := by rw [eq]; rfl
     have el : (F.getD e default).length = 2 := by rw [eq]; rfl
     have hcl := hc.1.cl
     have hrw := hc.1.row' (a := (j : Int)) (by simpa using hj);refine tt ?_;refine ⟨h6p,⟨by omega,by rw [el]; decide⟩,h6p,⟨by omega,by rw [el]; decide⟩, ?_⟩;rw [e0,e1];refine ⟨_,(l02Then_ok B c (j : Int) (a : Int) ⟨by omega,by rw [Int.toNat_natCast,hcl]; exact hj⟩ ⟨by omega,by rw [hrw]; simpa using h5p⟩).run,tt ?_⟩;refine ⟨_,(l05Place_ok B T [(i : Int),(ix c.comp (j : Int)).getD a default]).run,tt ?_⟩;refine app_own (indexOf T [(i : Int),(ix c.comp (j : Int)).getD a default]) o rfl rfl (by simp only [maxL]; omega) fun id11 H o => ?_;refine tw w3 ?_;refine for_next (_,_) (by omega) ⟨?_,o⟩ rfl;rw [take_one F h6p,List.map_append,← hrow,List.map_cons,List.map_nil,e0,e1]
    ·have h6p := of_ndecide h6
     obtain rfl : e = F.length := by omega
     rw [List.take_length,← hact] at hrow;refine tt ?_;refine fz_own o rfl fun H o => ?_
     have hY := LsO.mk o hq;clear o;refine tt ?_;refine rd_get hY.obj (by simp [st]) ?_;refine tt ?_
     have e7 : (List.range a).map (freeAct c LL) ++ [row] = (List.range (a + 1)).map (freeAct c LL) := by rw [map_range_succ,hrow]
     refine hY.app row rfl (by simp only [List.length_map,List.length_range,maxL]; omega) fun idn H o => tt ?_;refine sw o.swap fun H o => ?_
     have hY : LsO iL H0 H ((id8,st X (.buf idn ((List.range a).map (freeAct c LL) ++ [row]).length)) :: (p5 ++ [(id4,.cells 7 z7 0)])) (.buf idn ((List.range a).map (freeAct c LL) ++ [row]).length) ((List.range a).map (freeAct c LL) ++ [row]) := .inr ⟨idn,rfl,o.swap⟩
     generalize (AV.buf idn ((List.range a).map (freeAct c LL) ++ [row]).length) = Y' at hY;rw [e7] at hY;refine tw w2 ?_;exact for_next Y' (by omega) hY rfl
   ·have h5p := of_ndecide h5
    obtain rfl : a = c.frm.length := by omega
    refine tt ?_;refine wk_ls 6 hY rfl fun H o => ?_;simp only [List.set_cons_zero,List.set_cons_succ] at o
    have hX := LsO.mk (o.perm List.perm_middle.symm) hp5;clear o;refine wk_ls 5 hX rfl fun H o => wkW_done ?_;simp only [List.set_cons_zero,List.set_cons_succ] at o;refine tt ?_;refine rd_celln o (by simp) ?_;refine tt ?_;refine sw o.swap fun H o => tt ?_
    have hr := o.rc 7 0 (by simp);simp only [List.drop_zero] at hr;rw [hr];exact rets_ret ⟨freeF c LL,rfl,hpre⟩ o.sub
def AnyF (r : AV) : Prop := ∃ f : SF,r = .agg f.cells
def AnyFc (c : Cat) (r : AV) : Prop := ∃ f : SF,r = .agg f.cells ∧ f.shape = c ∧ f.acts.length ≤ 40
def PairsOk (sz : List Int) (PP : List (List (List Int))) : Prop := PP.length = sz.length ∧ ∀ x : Nat,x < sz.length → ∀ q,q ∈ PP.getD x default → 2 ≤ q.length ∧ (0 ≤ q.getD 0 default ∧ q.getD 0 default < sz.getD x default) ∧ (0 ≤ q.getD 1 default ∧ q.getD 1 default < sz.getD x default)
theorem l19Glue_ok (B : Nat) (f : SF) (c : Cat) (hc : c.Is) (hf : f.Pre c 120) (PP : List (List (List Int))) (hP : PairsOk f.sizes PP) : Rets B 273 [.agg f.cells,iLLL PP] (AnyFc c) := by
 intro H0;refine c273p (by simp) fun _ => ?_
 obtain ⟨rfl,hsl,hal,hsz,hact⟩ := hf
 have hm := hc.1.m
 have hob := hc.1.o
 have htl := hc.1.tol;unfold s273p
 have o : Owns H0 H0 [] := .nil _
 have hz0 : ∀ x,x < f.sizes.length → 0 ≤ f.sizes.getD x default ∧ f.sizes.getD x default ≤ 120 := fun x hx => hsz _ (mem_getD.mpr ⟨x,hx,rfl⟩);refine tt ?_;refine nb o fun id4 H o => tt ?_;refine new_list iL o fun id5 H o => tt ?_
 refine awp_for [1,2,4] (G := Nat × List (List Int)) (fun k g => [(5,some (.buf g.1 g.2.length)),(6,some (.int .i64 (k : Int)))])
  (fun k g H => g.2 = (List.range k).map (clsAt f.sizes PP) ∧ Owns H0 H [(g.1,.cells 1 (g.2.map iL) 0),(id4,.cells 7 z7 0)]) f.sizes.length (id5,[]) ⟨rfl,o⟩ rfl ?_
 clear o
 rintro k ⟨id5,CC⟩ H hk ⟨hCC,o⟩
 replace hCC : CC = (List.range k).map (clsAt f.sizes PP) := hCC
 replace o : Owns H0 H [(id5,.cells 1 (CC.map iL) 0),(id4,.cells 7 z7 0)] := o
 have hCl : CC.length = k := by rw [hCC]; simp
 refine tt ?_;apply bk <;> intro h1
 ·have h1p := of_decide h1
  have w1 := wsucc (k := k) (by omega)
  have hzk := hz0 k h1p
  obtain ⟨n,hn⟩ : ∃ n : Nat,f.sizes.getD k default = n := ⟨_,(Int.toNat_of_nonneg hzk.1).symm⟩
  have hPk := hP.2 k h1p
  have hcl : clsAt f.sizes PP k = joinL n (PP.getD k default) := by rw [clsAt,hn,Int.toNat_natCast]
  rw [hn] at hPk hzk;refine tt ?_;refine ⟨h1p,by rw [hP.1]; exact h1p, ?_⟩;rw [hn];refine ⟨_,(join_pok B n (by omega) (PP.getD k default) fun q hq => ?_).run, ?_⟩
  ·have := hPk q hq; omega
  refine tt ?_;refine app_own (joinL n (PP.getD k default)) o rfl rfl (by simp only [maxL]; omega) fun id5 H o => ?_;refine tw w1 ?_;exact for_next (_,_) (by omega) ⟨by rw [hCC,map_range_succ,hcl],o⟩ rfl
 ·have h1p := of_ndecide h1
  obtain rfl : k = f.sizes.length := by omega
  have hK : ClsOk f.sizes CC := by rw [hCC]; exact cls_join (fun y hy => (hsz y hy).1) PP
  clear hCC;refine tt ?_;rw [hCl];refine tt ?_
  refine awp_while [2,4,5] (G := Bool × List (List Int)) (fun g => [(7,some (.bool g.1))]) (fun m g H => (m = pot g.2 + (if g.1 = true then 1 else 0) ∧ ClsOk f.sizes g.2) ∧ Owns H0 H [(id5,.cells 1 (g.2.map iL) 0),(id4,.cells 7 z7 0)])
   (pot CC + 1) (true,CC) ⟨⟨by simp,hK⟩,o⟩ rfl ?_
  clear o hK hCl CC
  rintro m ⟨more,CC⟩ H ⟨⟨hmm,hK⟩,o⟩
  replace hmm : m = pot CC + (if more = true then 1 else 0) := hmm
  replace hK : ClsOk f.sizes CC := hK
  replace o : Owns H0 H [(id5,.cells 1 (CC.map iL) 0),(id4,.cells 7 z7 0)] := o
  cases more;rotate_left 1
  ·refine tt ?_
   obtain ⟨P0,hP0⟩ : ∃ P0,P0 = pot CC := ⟨_,rfl⟩;rw [← hP0] at hmm
   refine awp_for [2,4,5] (G := Bool × List (List Int)) (fun a g => [(7,some (.bool g.1)),(8,some (.int .i64 (a : Int)))])
    (fun a g H => (pot g.2 ≤ P0 ∧ (g.1 = true → pot g.2 < P0) ∧ ClsOk f.sizes g.2) ∧ Owns H0 H [(id5,.cells 1 (g.2.map iL) 0),(id4,.cells 7 z7 0)]) f.acts.length (false,CC) ⟨⟨by simp [hP0],by simp,hK⟩,o⟩ rfl ?_
   clear o hK hP0 CC
   rintro a ⟨more,CC⟩ H ha ⟨⟨hp1,hp2,hK⟩,o⟩
   replace hp1 : pot CC ≤ P0 := hp1
   replace hp2 : more = true → pot CC < P0 := hp2
   replace hK : ClsOk f.sizes CC := hK
   replace o : Owns H0 H [(id5,.cells 1 (CC.map iL) 0),(id4,.cells 7 z7 0)] := o;refine tt ?_;apply bk <;> intro h2
   ·have h2p := of_decide h2
    have w2 := wsucc (k := a) (by omega)
    have ham : a < f.shape.frm.length := by omega
    have hfr := hc.1.frmObj (f := (a : Int)) (by simpa using ham)
    have hto := hc.1.toObj (f := (a : Int)) (by simpa using ham)
    have hac := hact a ham;rw [ix_nat] at hfr hto
    obtain ⟨x,hx⟩ : ∃ x : Nat,f.shape.frm.getD a default = x := ⟨_,(Int.toNat_of_nonneg hfr.1).symm⟩
    obtain ⟨y,hy⟩ : ∃ y : Nat,f.shape.to.getD a default = y := ⟨_,(Int.toNat_of_nonneg hto.1).symm⟩;rw [hx,hy,ix_nat,ix_nat] at hac;rw [hx] at hfr;rw [hy] at hto
    have hxl : x < f.sizes.length := by omega
    have hyl : y < f.sizes.length := by omega
    have hzx := hz0 x hxl
    have hzy := hz0 y hyl
    obtain ⟨n,hn⟩ : ∃ n : Nat,f.sizes.getD x default = n := ⟨_,(Int.toNat_of_nonneg hzx.1).symm⟩
    obtain ⟨ny,hny⟩ : ∃ n : Nat,f.sizes.getD y default = n := ⟨_,(Int.toNat_of_nonneg hzy.1).symm⟩;rw [hn] at hac hzx;rw [hny] at hac hzy;refine tt ?_;refine ⟨ham,by omega, ?_⟩;rw [hx,hy];refine tt ?_
    refine awp_for [2,4,5,8,9,10] (G := Bool × List (List Int)) (fun d g => [(7,some (.bool g.1)),(11,some (.int .i64 (d : Int)))])
     (fun d g H => (pot g.2 ≤ P0 ∧ (g.1 = true → pot g.2 < P0) ∧ ClsOk f.sizes g.2) ∧ Owns H0 H [(id5,.cells 1 (g.2.map iL) 0),(id4,.cells 7 z7 0)]) n (more,CC) ⟨⟨hp1,hp2,hK⟩,o⟩ rfl ?_
    clear o hp1 hp2 hK
    rintro d ⟨more,CC⟩ H hd ⟨⟨hp1,hp2,hK⟩,o⟩
    replace hp1 : pot CC ≤ P0 := hp1
    replace hp2 : more = true → pot CC < P0 := hp2
    replace hK : ClsOk f.sizes CC := hK
    replace o : Owns H0 H [(id5,.cells 1 (CC.map iL) 0),(id4,.cells 7 z7 0)] := o
    have hkx := hK.row x hxl
    have hkl := hK.len;rw [hn] at hkx;refine tt ?_;refine ⟨hxl,rd_own o (by omega) ?_⟩
    have ecl : (CC.getD x default).length = n := by omega
    refine tw ecl ?_;apply bk <;> intro h3
    ·have h3p := of_decide h3
     have w3 := wsucc (k := d) (by omega);refine tt ?_
     refine awp_for [2,4,5,8,9,10,11] (G := Bool × List (List Int)) (fun e g => [(7,some (.bool g.1)),(12,some (.int .i64 (e : Int)))])
      (fun e g H => (pot g.2 ≤ P0 ∧ (g.1 = true → pot g.2 < P0) ∧ ClsOk f.sizes g.2) ∧ Owns H0 H [(id5,.cells 1 (g.2.map iL) 0),(id4,.cells 7 z7 0)]) d (more,CC) ⟨⟨hp1,hp2,hK⟩,o⟩ rfl ?_
     clear o hp1 hp2 hK hkx hkl ecl
     rintro e ⟨more,CC⟩ H he ⟨⟨hp1,hp2,hK⟩,o⟩
     replace hp1 : pot CC ≤ P0 := hp1
     replace hp2 : more = true → pot CC < P0 := hp2
     replace hK : ClsOk f.sizes CC := hK
     replace o : Owns H0 H [(id5,.cells 1 (CC.map iL) 0),(id4,.cells 7 z7 0)] := o
     have hkx := hK.row x hxl
     have hky := hK.row y hyl
     have hkl := hK.len;rw [hn] at hkx;rw [hny] at hky;refine tt ?_;apply bk <;> intro h4
     ·have h4p := of_decide h4
      have w4 := wsucc (k := e) (by omega)
      have hu := hac.2 _ (mem_getD.mpr ⟨d,by omega,rfl⟩)
      have hv := hac.2 _ (mem_getD.mpr ⟨e,by omega,rfl⟩);refine tt ?_;refine ⟨h2p,by omega,h2p,by omega, ?_⟩
      generalize (f.acts.getD a default).getD d default = u at hu ⊢
      generalize (f.acts.getD a default).getD e default = v at hv ⊢;refine tt ?_;refine ⟨hxl,rd_own o (by omega) ?_⟩;refine tt ?_;refine ⟨by omega,hxl,rd_own o (by omega) ?_⟩;refine tt ?_;refine ⟨by omega, ?_⟩;apply bk <;> intro h5
      ·refine tw h5 ?_
       have hlx : (CC.getD y default).length = ny := by omega
       refine ⟨hyl,rd_own o (by omega) ?_⟩;refine tt ?_;refine ⟨⟨hu.1,by omega⟩,hyl,rd_own o (by omega) ?_⟩;refine tt ?_;refine ⟨⟨hv.1,by omega⟩, ?_⟩;apply bk <;> intro h6
       ·refine tt ?_
        have h6p := dd h6
        have h6p : ix (CC.getD y default) u ≠ ix (CC.getD y default) v := h6p
        have hul : 0 ≤ u ∧ u.toNat < (CC.getD y default).length := ⟨hu.1,by omega⟩
        have hvl : 0 ≤ v ∧ v.toNat < (CC.getD y default).length := ⟨hv.1,by omega⟩
        have hpo := pairsOf_ok hul hvl;rw [hlx] at hpo
        have hgl := joinL_glued (n := ny) (ps := pairsOf (CC.getD y default) ++ [[u,v]]) fun q hq => ⟨(hpo q hq).2.1.2,(hpo q hq).2.2.2⟩
        have hless := glued_less (by rw [joinL_len,hlx]) hul hvl h6p hgl
        have hset := hK.set hyl (m := joinL ny (pairsOf (CC.getD y default) ++ [[u,v]])) (by rw [joinL_len,hny]) fun w hw => by rw [hny]; exact joinL_ran hw
        have hpot := pot_set CC y _ (by omega) hless;refine ⟨hyl,hyl,rd_own o (by omega) ?_⟩;rw [hny];refine tt ?_;refine (l01Pairs_own B (CC.getD y default) _ _ _ o).own fun idp A H o hA => ?_;subst hA
        have hpl : (pairsOf (CC.getD y default)).length = ny := by rw [pairsOf,List.length_map,List.length_range,hlx]
        refine tt ?_;refine app_own [u,v] o rfl rfl (by simp only [maxL]; omega) fun idp H o => tt ?_;refine call_fz 1 rfl o rfl fun H o => ?_;refine (join_pok B ny (by omega) (pairsOf (CC.getD y default) ++ [[u,v]]) hpo).go fun _ => tt ?_;refine ⟨hyl,set_own (f := iL) (joinL ny (pairsOf (CC.getD y default) ++ [[u,v]])) o rfl (by omega) fun H o => ?_⟩;refine tw w4 ?_;exact for_next (true,_) (by omega) ⟨⟨Nat.le_trans (Nat.le_of_lt hpot) hp1,fun _ => Nat.lt_of_lt_of_le hpot hp1,hset⟩,o⟩ rfl
       ·refine tw w4 ?_;exact for_next (more,CC) (by omega) ⟨⟨hp1,hp2,hK⟩,o⟩ rfl
      ·try simp only [go_sem,↓reduceIte,reduceEqDiff,reduceAdd,reduceMul,reduceLeDiff,reduceLT,h5,w4]
       exact for_next (more,CC) (by omega) ⟨⟨hp1,hp2,hK⟩,o⟩ rfl
     ·have h4p := of_ndecide h4
      obtain rfl : e = d := by omega
      refine tw w3 ?_;exact for_next (more,CC) (by omega) ⟨⟨hp1,hp2,hK⟩,o⟩ rfl
    ·have h3p := of_ndecide h3
     obtain rfl : d = n := by omega
     refine tw w2 ?_;exact for_next (more,CC) (by omega) ⟨⟨hp1,hp2,hK⟩,o⟩ rfl
   ·have h2p := of_ndecide h2
    obtain rfl : a = f.acts.length := by omega
    refine tt ?_
    cases more
    ·exact while_next (pot CC) (false,CC) (by simp at hmm; omega) ⟨⟨by simp,hK⟩,o⟩ rfl
    ·have := hp2 rfl;exact while_next (pot CC + 1) (true,CC) (by simp at hmm; omega) ⟨⟨by simp,hK⟩,o⟩ rfl
  ·clear hmm
   have hkl := hK.len
   have hcx : ∀ x,x < f.sizes.length → (CC.getD x default).length ≤ 120 := fun x hx => by have := hK.row x hx; have := hz0 x hx; omega
   have hmx : ∀ x,x < f.sizes.length → (0 ≤ mxL (CC.getD x default) ∧ mxL (CC.getD x default) ≤ f.sizes.getD x default) ∧ ∀ v,v ∈ CC.getD x default → v < mxL (CC.getD x default) :=
    fun x hx => mxL_bd (hz0 x hx).1 (hK.ran x hx)
   refine tt ?_;refine fz_own o hkl.symm fun H o => tt ?_;refine (l02Own_ok B f.shape).go fun _ => tt ?_;refine nb o fun id8 H o => tt ?_;refine sw o fun H o => ?_
   let st : AV → AV → MObj := fun x5 x6 => .cells 7 [iI f.shape.objs,iL f.shape.frm,iL f.shape.to,iL f.shape.idn,iLL f.shape.comp,x5,x6] 0
   refine tt ?_;refine awp_for [2,4,5,15] (G := AV) (fun k X => [(16,some (.int .i64 (k : Int)))]) (fun k X H => LsO iI H0 H ((id8,st X .nilsl) :: [(id4,.cells 7 z7 0)]) X ((CC.take k).map mxL)) CC.length .nilsl (.inl ⟨rfl,rfl,o⟩) rfl ?_;clear o
   rintro k X H hk hX;refine tt ?_;apply bk <;> intro h1
   ·have h1p := of_decide h1
    have w1 := wsucc (k := k) (by omega)
    obtain ⟨p,o,hp⟩ := hX.split;clear hX
    have hck := hcx k (by omega)
    have hrk := hK.ran k (by omega)
    have hzk := hz0 k (by omega);refine tt ?_;refine awp_for [2,4,5,15,16] (G := Unit) (fun e _ => [(17,some (.int .i64 (mxL ((CC.getD k default).take e)))),(18,some (.int .i64 (e : Int)))]) (fun e _ H => Owns H0 H (p ++ ((id8,st X .nilsl) :: [(id4,.cells 7 z7 0)]))) (CC.getD k default).length () o rfl ?_;clear o
    rintro e _ H he o;refine tt ?_;refine ⟨h1p, ?_⟩;apply bk <;> intro h2
    ·have h2p := of_decide h2
     have w2 := wsucc (k := e) (by omega)
     have hv := hrk _ (mem_getD.mpr ⟨e,h2p,rfl⟩)
     have w3 : IntKind.i64.wrap ((CC.getD k default).getD e default + 1) = (CC.getD k default).getD e default + 1 := wrap_i64 (by omega) (by omega)
     have hms := mxL_succ (CC.getD k default) h2p;refine tt ?_;refine ⟨h1p,h2p, ?_⟩;rw [w3,← hms];refine tw w2 ?_;exact for_next () (by omega) o rfl
    ·have h2p := of_ndecide h2
     obtain rfl : e = (CC.getD k default).length := by omega
     rw [List.take_length]
     have hX := LsO.mk o hp;clear o;refine tt ?_;refine rd_get hX.obj (by simp [st]) ?_;refine tt ?_
     have e7 : (CC.take k).map mxL ++ [mxL (CC.getD k default)] = (CC.take (k + 1)).map mxL := by rw [take_one CC h1p]; simp
     refine hX.app (mxL (CC.getD k default)) rfl (by simp only [List.length_map,List.length_take,maxL]; omega) fun idn H o => ?_;rw [e7] at o ⊢;refine tt ?_;refine sw o.swap fun H o => ?_;refine tw w1 ?_;exact for_next _ (by omega) (.inr ⟨idn,rfl,o.swap⟩) rfl
   ·have h1p := of_ndecide h1
    obtain rfl : k = CC.length := by omega
    rw [List.take_length] at hX
    obtain ⟨p5,o,hp5⟩ := hX.split
    have o : Owns H0 H ((id8,st X .nilsl) :: (p5 ++ [(id4,.cells 7 z7 0)])) := o.perm List.perm_middle;clear hX;refine tt ?_;refine awp_for [2,4,5,15] (G := AV × List (List Int)) (fun a Y => [(19,some (.int .i64 (a : Int)))]) (fun a Y H => Y.2.length = a ∧ LsO iL H0 H ((id8,st X Y.1) :: (p5 ++ [(id4,.cells 7 z7 0)])) Y.1 Y.2) f.acts.length (.nilsl,[]) ⟨rfl,.inl ⟨rfl,rfl,o⟩⟩ rfl ?_;clear o
    rintro a ⟨Y,RR⟩ H ha ⟨hRR,hY⟩
    replace hRR : RR.length = a := hRR
    replace hY : LsO iL H0 H ((id8,st X Y) :: (p5 ++ [(id4,.cells 7 z7 0)])) Y RR := hY;refine tt ?_;apply bk <;> intro h2
    ·have h2p := of_decide h2
     have w2 := wsucc (k := a) (by omega)
     have ham : a < f.shape.frm.length := by omega
     have hfr := hc.1.frmObj (f := (a : Int)) (by simpa using ham)
     have hto := hc.1.toObj (f := (a : Int)) (by simpa using ham)
     have hac := hact a ham;rw [ix_nat] at hfr hto
     obtain ⟨x,hx⟩ : ∃ x : Nat,f.shape.frm.getD a default = x := ⟨_,(Int.toNat_of_nonneg hfr.1).symm⟩
     obtain ⟨y,hy⟩ : ∃ y : Nat,f.shape.to.getD a default = y := ⟨_,(Int.toNat_of_nonneg hto.1).symm⟩;rw [hx,hy,ix_nat,ix_nat] at hac;rw [hx] at hfr;rw [hy] at hto
     have hxl : x < f.sizes.length := by omega
     have hyl : y < f.sizes.length := by omega
     have hzx := hz0 x hxl
     have hkx := hK.row x hxl
     have hky := hK.row y hyl
     have hmxx := hmx x hxl;refine tt ?_;refine ⟨ham,by omega, ?_⟩;rw [hx,hy];refine tt ?_
     obtain ⟨idX,rfl,rfl⟩ := hp5.sub (i := x) (by rw [List.length_map]; omega);refine rd_get hY.obj (by simp [st]) ?_;refine tt ?_;refine ⟨by rw [List.length_map]; omega,rd_inner (f := iI) (hY.get (x := (idX,.cells 1 ((CC.map mxL).map iI) 0)) (by simp)) (by rw [List.length_map]; omega) ?_⟩;rw [map_getD mxL (show x < CC.length by omega)]
     obtain ⟨n,hn⟩ : ∃ n : Nat,mxL (CC.getD x default) = n := ⟨_,(Int.toNat_of_nonneg hmxx.1.1).symm⟩;rw [hn] at hmxx ⊢
     obtain ⟨q,o,hq⟩ := hY.split;clear hY;refine tt ?_;refine ⟨⟨by omega,by simp only [maxL]; omega⟩,mks_list iI 0 rfl o fun id22 H o => ?_⟩;refine tt ?_
     have hrep : (List.replicate n (0 : Int)).length = n := List.length_replicate
     refine awp_for [2,4,5,15,19,20,21,22] (G := List Int) (fun e _ => [(23,some (.int .i64 (e : Int)))])
      (fun e A H => A.length = n ∧ Owns H0 H ((id22,.cells 1 (A.map iI) 0) :: (q ++ ((id8,st (.buf idX (CC.map mxL).length) Y) :: ([(idX,.cells 1 ((CC.map mxL).map iI) 0)] ++ [(id4,.cells 7 z7 0)]))))) (CC.getD x default).length (List.replicate n 0) ⟨hrep,o⟩ rfl ?_
     clear o
     rintro e A H he ⟨hA,o⟩;refine tt ?_;refine ⟨by omega, ?_⟩;apply bk <;> intro h3
     ·have h3p := of_decide h3
      have w3 := wsucc (k := e) (by omega)
      have hcv := hmxx.2 _ (mem_getD.mpr ⟨e,h3p,rfl⟩)
      have hcr := hK.ran x hxl _ (mem_getD.mpr ⟨e,h3p,rfl⟩)
      have hav := hac.2 _ (mem_getD.mpr ⟨e,by omega,rfl⟩);refine tt ?_;refine ⟨by omega,h3p,by omega,h2p,by omega,⟨hav.1,by omega⟩,⟨hcr.1,by omega⟩, ?_⟩;refine set_own (f := iI) _ o rfl (by omega) fun H o => ?_;refine tw w3 ?_;exact for_next (A.set _ _) (by omega) ⟨by rw [List.length_set]; exact hA,o⟩ rfl
     ·have h3p := of_ndecide h3
      obtain rfl : e = (CC.getD x default).length := by omega
      refine tt ?_;refine fz_own o hA.symm fun H o => ?_
      have hY := LsO.mk o hq;clear o;refine tt ?_;refine rd_get hY.obj (by simp [st]) ?_;refine tt ?_;refine hY.app A rfl (by simp only [maxL]; omega) fun idn H o => tt ?_;refine sw o.swap fun H o => ?_;refine tw w2 ?_;exact for_next (.buf idn (RR ++ [A]).length,RR ++ [A]) (by omega) ⟨by show (RR ++ [A]).length = _; simp [hRR],.inr ⟨idn,rfl,o.swap⟩⟩ rfl
    ·have h2p := of_ndecide h2
     obtain rfl : a = f.acts.length := by omega
     refine tt ?_;refine wk_ls 6 hY rfl fun H o => ?_;simp only [List.set_cons_zero,List.set_cons_succ] at o
     have hX := LsO.mk (o.perm List.perm_middle.symm) hp5;clear o;refine wk_ls 5 hX rfl fun H o => wkW_done ?_;simp only [List.set_cons_zero,List.set_cons_succ] at o;refine tt ?_;refine rd_celln o (by simp) ?_;refine tt ?_;refine sw o.swap fun H o => tt ?_
     have hr := o.rc 7 0 (by simp);simp only [List.drop_zero] at hr;rw [hr];exact rets_ret ⟨⟨f.shape,CC.map mxL,RR⟩,rfl,rfl,by show RR.length ≤ 40; omega⟩ o.sub
theorem rep_nil {α : Type} (n x : Nat) : (List.replicate n ([] : List α)).getD x default = [] := by
 rw [List.getD_eq_getElem?_getD,List.getElem?_replicate]
 split <;> rfl
theorem PairsOk.add {sz : List Int} {PP : List (List (List Int))} (h : PairsOk sz PP) {x : Nat} (hx : x < sz.length) {a b : Int} (ha : 0 ≤ a ∧ a < sz.getD x default) (hb : 0 ≤ b ∧ b < sz.getD x default) :
  PairsOk sz (PP.set x (PP.getD x default ++ [[a,b]])) := by
 refine ⟨by rw [List.length_set]; exact h.1,fun y hy q hq => ?_⟩;rw [getD_setD _ _ (by rw [h.1]; exact hx)] at hq
 by_cases e : y = x
 ·rw [if_pos e] at hq;subst e
  rcases List.mem_append.mp hq with hq | hq
  ·exact h.2 y hy q hq
  ·rw [List.mem_singleton] at hq;subst hq;exact ⟨by simp,ha,hb⟩
 ·rw [if_neg e] at hq; exact h.2 y hy q hq
theorem l19Some_ok (B : Nat) (c : Cat) (hc : c.Is) (size : Int) (hsize : 0 ≤ size ∧ size ≤ 1000) : Rd B 172 [.agg c.cells,iI size] (AnyFc c) := by
 intro id s H0 H hs o;refine c172p (by simp) fun _ => ?_
 have hm := hc.1.m
 have hob := hc.1.o;unfold s172p;refine tt ?_;refine nb o fun id6 H o => tt ?_;refine awp_for [0,2,4,6] (G := Src) (fun k _ => [(7,some (.int .i64 (k : Int)))]) (fun k s H => s.Ok ∧ Owns H0 H [(id,s.obj),(id6,.cells 7 z7 0)]) 6 s ⟨hs,o.swap⟩ rfl ?_;clear o hs
 rintro k s H hk ⟨hs,o⟩;refine tt ?_;apply bk <;> intro h1
 ·have h1p := of_decide h1
  have w1 := wsucc (k := k) (by omega);refine tt ?_;refine new_list iI o fun id8 H o => tt ?_;refine (l01Next_ok B 4).go hs o.swap fun r s H _ ⟨v,e,v0,v1,_⟩ hs o => ?_;subst e
  have hv := v1 (by omega)
  obtain ⟨n,rfl⟩ : ∃ n : Nat,v = n := ⟨_,(Int.toNat_of_nonneg v0).symm⟩;clear v0 v1;refine tt ?_
  refine awp_while [0,2,4,6,7] (G := Src × (Nat × List Int) × Nat) (fun g => [(8,some (.buf g.2.1.1 g.2.1.2.length)),(9,some (.int .i64 (g.2.2 : Int)))])
   (fun m g H => m = g.2.2 ∧ g.1.Ok ∧ g.2.1.2.length + g.2.2 ≤ 3 ∧ Owns H0 H [(id,g.1.obj),(g.2.1.1,.cells 1 (g.2.1.2.map iI) 0),(id6,.cells 7 z7 0)]) n (s,(id8,[]),n) ⟨rfl,hs,by simp; omega,o⟩ rfl ?_
  clear o hs
  rintro m ⟨s,⟨id8,os⟩,n⟩ H ⟨hmn,hs,hos,o⟩;dsimp only at hmn hs hos o;refine tt ?_;apply bk <;> intro h2
  focus
   refine tw h2 ?_;apply bk <;> intro h3
   focus
    have h2p := of_decide h2
    have w2 : IntKind.i64.wrap ((n : Int) - 1) = ((n - 1 : Nat) : Int) := by rw [wrap_i64 (by omega) (by omega)]; omega
    refine tw h3 ?_;refine (l01Next_ok B c.objs).go hs o fun r s H _ ⟨v,e,_⟩ hs o => ?_;subst e;refine tt ?_;refine app_own v o.swap rfl rfl (by simp only [maxL]; omega) fun id8 H o => ?_;refine tw w2 ?_;exact while_next (n - 1) (s,(id8,os ++ [v]),n - 1) (by omega) ⟨rfl,hs,by simp; omega,o.swap⟩ rfl
   refine tw h3 ?_
  rotate_left 1
  focus
   refine tw h2 ?_
  all_goals
   refine fz_own o.swap rfl fun H o => tt ?_;refine (l19Free_ok B c hc os (by omega)).go fun r _ ⟨f,e,hf⟩ => ?_;subst e;refine tt ?_;refine nb o fun id10 H o => tt ?_;refine sw o fun H o => tt ?_;refine ⟨⟨by omega,by simp only [maxL]; omega⟩, ?_⟩;rw [rep_one];refine newBuf_own o fun id11 H o => tt ?_;refine (l01Next_ok B 4).go hs (o.pull [_,_]) fun r s H _ ⟨v,e,v0,v1,_⟩ hs o => ?_;subst e
   have hv := v1 (by omega)
   obtain ⟨n,rfl⟩ : ∃ n : Nat,v = n := ⟨_,(Int.toNat_of_nonneg v0).symm⟩;clear v0 v1;refine tt ?_
   have hsl := hf.sl
   have hzf : ∀ x,x < f.sizes.length → 0 ≤ f.sizes.getD x default ∧ f.sizes.getD x default ≤ 120 := fun x hx => hf.sz _ (mem_getD.mpr ⟨x,hx,rfl⟩)
   refine awp_while [0,2,4,6,7,10,11] (G := Src × (List AV × List (List (List Int)) × Ob) × Nat) (fun g => [(12,some (.int .i64 (g.2.2 : Int)))])
    (fun m g H => m = g.2.2 ∧ g.1.Ok ∧ LsR iL g.2.1.1 g.2.1.2.1 g.2.1.2.2 ∧ PairsOk f.sizes g.2.1.2.1 ∧ (∀ x,(g.2.1.2.1.getD x default).length + g.2.2 ≤ 3) ∧
     Owns H0 H ((id,g.1.obj) :: (id11,.cells 1 g.2.1.1 0) :: (g.2.1.2.2 ++ [(id10,MObj.cells 7 f.cells 0),(id6,MObj.cells 7 z7 0)]))) n (s,(List.replicate c.objs.toNat .nilsl,List.replicate c.objs.toNat [],[]),n)
    ⟨rfl,hs,LsR.rep iL _,⟨by rw [List.length_replicate]; omega,fun x hx q hq => by rw [show (List.replicate c.objs.toNat ([] : List (List Int))).getD x default = [] from rep_nil _ _] at hq; simp at hq⟩,fun x => by
     rw [show (List.replicate c.objs.toNat ([] : List (List Int))).getD x default = [] from rep_nil _ _]; simp; omega,o⟩ rfl ?_
   clear o hs
   rintro m ⟨s,⟨Xs,PP,ob⟩,n⟩ H ⟨hmn,hs,hR,hPP,hPl,o⟩;dsimp only at hmn hs hR hPP hPl o
   have hXl := hR.len
   have hPPl := hPP.1
   have hn3 : n ≤ 3 := by have := hPl 0; omega
   refine tt ?_;apply bk <;> intro k2
   focus
    refine tw k2 ?_;apply bk <;> intro k3
    focus
     have k2p := of_decide k2
     have k3p := of_decide k3
     have w2 : IntKind.i64.wrap ((n : Int) - 1) = ((n - 1 : Nat) : Int) := by rw [wrap_i64 (by omega) (by omega)]; omega
     refine tw k3 ?_;refine (l01Next_ok B c.objs).go hs o fun r s H _ ⟨x,e,x0,x1,_⟩ hs o => ?_;subst e
     have hx1 := x1 (by omega)
     obtain ⟨x,rfl⟩ : ∃ n : Nat,x = n := ⟨_,(Int.toNat_of_nonneg x0).symm⟩;clear x0 x1
     have hxl : x < f.sizes.length := by omega
     have hzx := hzf x hxl
     have hg10 : H.get id10 = some (.cells 7 f.cells 0) := o.get (id10,_) (by simp);refine tt ?_;refine rd_get hg10 (by simp [SF.cells]) ?_;refine tt ?_;refine ⟨hxl, ?_⟩;apply bk <;> intro k4
     ·have k4p := of_decide k4;refine tt ?_;refine ⟨by omega,⟨_,_,o.tl.h0⟩,rd_get o.tl.h0 (by omega) ?_⟩;refine tt ?_;refine ⟨⟨_,_,hg10⟩,rd_get hg10 (by simp [SF.cells]) ?_⟩;refine tt ?_;refine ⟨hxl,⟨_,_,hg10⟩,rd_get hg10 (by simp [SF.cells]) ?_⟩;refine tt ?_;refine ⟨hxl, ?_⟩;refine (l01Next_ok B _).goZ hs o fun r s H _ ⟨a,e,a0,a1,_⟩ hs o hz => ⟨hz, ?_⟩;subst e
      have ha1 := a1 (by omega);refine tt ?_;refine (l01Next_ok B _).goZ hs o fun r s H _ ⟨b,e,b0,b1,_⟩ hs o hz => ⟨hz, ?_⟩;subst e
      have hb1 := b1 (by omega);refine tt ?_
      have o : Owns H0 H ((id11,.cells 1 Xs 0) :: (ob ++ [(id,s.obj),(id10,.cells 7 f.cells 0),(id6,.cells 7 z7 0)])) := o.pm;refine rows_app o hR (by omega) [a,b] rfl (by show (PP.getD _ default).length + 1 ≤ maxL; have := hPl x; simp only [maxL]; omega) fun X' o' H hX1 hR o => ?_;try simp only [go_sem,↓reduceIte,reduceEqDiff,reduceAdd,reduceMul,reduceLeDiff,reduceLT,AV.cells_one hX1]
      refine ⟨by omega,st_cells o (by omega) rfl (by simp only [memcons,memnil]; exact ⟨hX1,trivial⟩) fun H o => ?_⟩;simp only [wr_cons,wr_nil] at o;refine tw w2 ?_;refine while_next (n - 1) (s,(Xs.set x X',PP.set x (PP.getD x default ++ [[a,b]]),o'),n - 1) (by omega) ⟨rfl,hs,hR,hPP.add hxl ⟨a0,ha1⟩ ⟨b0,hb1⟩,fun y => ?_,(by simp only [SF.cells] at o; exact o.pm)⟩ rfl
      show ((PP.set x (PP.getD x default ++ [[a,b]])).getD y default).length + (n - 1) ≤ 3
      rw [getD_setD _ _ (by omega)]
      have := hPl y
      split
      ·rename_i e; subst e; rw [List.length_append,List.length_singleton]; omega
      ·omega
     ·refine tw w2 ?_;exact while_next (n - 1) (s,(Xs,PP,ob),n - 1) (by omega) ⟨rfl,hs,hR,hPP,fun x => by have := hPl x; show (PP.getD x default).length + (n - 1) ≤ 3; omega,o⟩ rfl
    refine tw k3 ?_
   rotate_left 1
   focus
    refine tw k2 ?_
   all_goals
    have o : Owns H0 H ((id11,.cells 1 Xs 0) :: (ob ++ [(id,s.obj),(id10,.cells 7 f.cells 0),(id6,.cells 7 z7 0)])) := o.pm;refine wk_rows hR [] H o fun H o => wkW_done ?_;rw [List.nil_append] at o
    have o : Owns H0 H ((id11,.cells 1 (PP.map iLL) 0) :: [(id,s.obj),(id10,.cells 7 f.cells 0),(id6,.cells 7 z7 0)]) := o;refine tt ?_;refine fz_own (f := iLL) o (by omega) fun H o => tt ?_;refine rd_celln o.tl (by simp [SF.cells]) ?_;refine tt ?_;refine (l19Glue_ok B f c hc hf PP hPP).go fun r hfn ⟨f2,e,hf2⟩ => ?_;subst e
    have hfl := fine_mL_le (hfn.agg (c := iL f2.sizes) (by simp [SF.cells]));simp only [maxL] at hfl;clear hfn;refine tt ?_;refine st_cells o.swap (by simp [SF.cells]) (by (try simp only [go_sem]); (try simp)) (by first | (simp only [go_sem]; done) | ((try simp only [go_sem]); simp [AV.one,one_mL])) fun H o => ?_;simp only [wr_cons,wr_nil,List.set_cons_zero,List.set_cons_succ] at o;refine tt ?_;refine awp_for [0,2,4,6,7,10] (G := Bool) (fun k b => [(14,some (.bool b)),(15,some (.int .i64 (k : Int)))]) (fun k _ H => Owns H0 H [(id10,MObj.cells 7 f2.cells 0),(id,s.obj),(id6,MObj.cells 7 z7 0)]) f2.sizes.length true o rfl ?_;clear o
    rintro q sm H hq o
    replace o : Owns H0 H [(id10,.cells 7 f2.cells 0),(id,s.obj),(id6,.cells 7 z7 0)] := o;refine tt ?_;refine rd_cells o (by simp [SF.cells]) ?_;refine tt ?_;apply bk <;> intro j1
    ·have j1p := of_decide j1
     have w3 := wsucc (k := q) (by omega);refine tt ?_
     cases sm
     ·refine tw w3 ?_;exact for_next false (by omega) o rfl
     ·refine tt ?_;refine rd_cells o (by simp [SF.cells]) ?_;refine tt ?_;refine ⟨j1p, ?_⟩;refine tw w3 ?_;exact for_next _ (by omega) o rfl
    ·have j1p := of_ndecide j1;refine tt ?_
     cases sm
     ·refine tw w1 ?_;exact for_next s (by omega) ⟨hs,o.tl⟩ rfl
     ·refine tt ?_;refine rd_celln o (by simp [SF.cells]) ?_;refine tt ?_;refine sw (o.pull [_,_]) fun H o => tt ?_
      have hr := o.rc 7 0 (by simp);simp only [List.drop_zero] at hr;rw [hr];exact src_ret ⟨f2,rfl,hf2⟩ hs (o.pull [_,_])
 ·have h1p := of_ndecide h1;refine tt ?_
  have hw : IntKind.i64.wrap ((if false = true then if 2 > size then 2 else size else if 2 < size then 2 else size) + 1) = min size 2 + 1 := by
   rw [if_neg (by decide)]
   split <;> rw [wrap_i64 (by omega) (by omega)] <;> omega
  rw [hw];refine (l01Next_ok B _).go hs o fun r s H _ ⟨v,e,v0,v1,_⟩ hs o => ?_;subst e
  have hv := v1 (by omega);refine tt ?_;refine ⟨_,(l19Constant_ok B c hc.1 v ⟨v0,by omega⟩).run,tt ?_⟩;refine sw o.swap fun H o => tt ?_
  have hr := o.rc 7 0 (by simp);simp only [List.drop_zero] at hr;rw [hr];exact src_ret ⟨constF c v,rfl,rfl,by simp [constF]; omega⟩ hs o.swap
end Go.Proofs.Shf
namespace Go.Shf
open Go.AW
theorem Cat.Shape.sh {c : Cat} (h : c.Shape) : c.Sh 40 := ⟨by have := h.o; omega,h.il,h.m,h.tol,h.cl,h.row⟩
end Go.Shf
namespace Go.Proofs.Shf
open Go.AW Go.Proofs Go.Shf
theorem dTrue' (i : Decidable True) : @decide True i = true := decide_eq_true trivial
def OFb (f : SF) (p : Ob) (X : AV) : Prop := ∃ z d Xs ob,X = .agg [iI f.shape.objs,iL f.shape.frm,iL f.shape.to,iL f.shape.idn,iLL f.shape.comp,.buf z f.sizes.length,.buf d Xs.length] ∧ LsR iI Xs f.acts ob ∧
 p = (z,.cells 1 (f.sizes.map iI) 0) :: (d,.cells 1 Xs 0) :: ob
theorem l19Own_new (B : Nat) (f : SF) : New Tryz.prog B 249 [.agg f.cells] (OFb f) := by
 refine ⟨fun H0 => c249p (by simp) fun _ => ?_⟩;unfold s249p
 have o : Owns H0 H0 [] := .nil _;refine tt ?_;refine nb o fun id H o => tt ?_;refine ⟨_,(l02Own_ok B f.shape).run,tt ?_⟩;refine New.go' (l01Own_new B f.sizes) o fun X1 p1 H ⟨z,e1,e2⟩ o hs => ⟨hs, ?_⟩;subst e1 e2;refine tt ?_;refine New.go' (l01Own2_new B f.acts) o fun X1 p1 H ⟨d,Xs,ob,e1,h,e2⟩ o hs => ⟨hs, ?_⟩;subst e1 e2;refine tt ?_
 have o : Owns H0 H ((id,MObj.cells 7 [.int .i64 0,.nilsl,.nilsl,.nilsl,.nilsl,.nilsl,.nilsl] 0) :: (z,MObj.cells 1 (f.sizes.map iI) 0) :: (d,MObj.cells 1 Xs 0) :: ob) := o.pm;refine sw o fun H o => tt ?_
 have hr := o.rc 7 0 (by simp);simp only [List.drop_zero] at hr;rw [hr];exact ⟨H,.refl H,_,⟨z,d,Xs,ob,rfl,h,rfl⟩,o.tl⟩
theorem wk_sf {F : Env → Heap → Prop} {σ : Env} {H0 H : Heap} {l : Ob} {id fr : Nat} {c : Cat} {z d : Nat} {S : List Int} {Xs : List AV} {As : List (List Int)} {ob : Ob} (h : LsR iI Xs As ob)
  (o : Owns H0 H ((id,.cells 7 [iI c.objs,iL c.frm,iL c.to,iL c.idn,iLL c.comp,.buf z S.length,.buf d Xs.length] fr) :: (z,.cells 1 (S.map iI) 0) :: (d,.cells 1 Xs 0) :: (ob ++ l)))
  (hk : ∀ H',Owns H0 H' ((id,.cells 7 (SF.cells ⟨c,S,As⟩) fr) :: l) → wkW F σ H') : wkW F σ H := by
 have hl := h.len
 have od : Owns H0 H ((d,.cells 1 Xs 0) :: (ob ++ ((id,.cells 7 [iI c.objs,iL c.frm,iL c.to,iL c.idn,iLL c.comp,.buf z S.length,.buf d Xs.length] fr) :: (z,.cells 1 (S.map iI) 0) :: l))) := o.pm;refine wk_rows h [] H od fun H o => ?_;simp only [List.nil_append] at o;rw [hl] at o
 have o : Owns H0 H ((id,.cells 7 [iI c.objs,iL c.frm,iL c.to,iL c.idn,iLL c.comp,.buf z S.length,.buf d As.length] fr) :: (z,.cells 1 (S.map iI) 0) :: (d,.cells 1 (As.map iL) 0) :: l) := o.pm;refine wk_cell 5 o rfl rfl fun H o => ?_;simp only [List.set_cons_zero,List.set_cons_succ] at o;refine wk_cell 6 o rfl rfl fun H o => ?_;simp only [List.set_cons_zero,List.set_cons_succ] at o;exact hk H o
@[go_sem] def bendF (id3 : Nat) (c : Cat) (z : Nat) (S : List Int) (d : Nat) (Xs : List AV) (l : Ob) : Ob :=
 (id3,.cells 7 [iI c.objs,iL c.frm,iL c.to,iL c.idn,iLL c.comp,.buf z S.length,.buf d Xs.length] 0) :: (z,.cells 1 (S.map iI) 0) :: (d,.cells 1 Xs 0) :: l
theorem l19Bend_ok (B : Nat) (f : SF) (hc : f.shape.Shape) (hA40 : f.acts.length ≤ 40) : Rd B 173 [.agg f.cells] AnyF := by
 intro id s H0 H hs o
 obtain ⟨c,S,A⟩ := f;dsimp only at hA40;refine c173p (by simp) fun hfi => ?_
 have hfl := fine_mL_le (hfi.2.1.agg (c := iL S) (by simp [SF.cells]))
 have hfl2 := fine_mL_le (hfi.2.1.agg (c := iLL A) (by simp [SF.cells]));simp only [maxL] at hfl hfl2;clear hfi;unfold s173p;refine tt ?_;refine nb o fun id3 H o => tt ?_;refine nb o fun id4 H o => tt ?_;refine rd_celln o.tl (by simp) ?_;refine tt ?_;refine New.go' (l19Own_new B ⟨c,S,A⟩) o fun X1 p1 H ⟨z,d,Xs,ob,e1,hX,e2⟩ o _ => ?_;subst e1 e2
 have hXl := hX.len;simp only at hX hXl;refine tt ?_
 have o : Owns H0 H ((id3,MObj.cells 7 [iI c.objs,iL c.frm,iL c.to,iL c.idn,iLL c.comp,iL S,iLL A] 0) :: (z,.cells 1 (S.map iI) 0) :: (d,.cells 1 Xs 0) :: (ob ++ [(id,s.obj),(id4,MObj.cells 7 [.int .i64 0,.nilsl,.nilsl,.nilsl,.nilsl,.nilsl,.nilsl] 0)])) := o.pm;refine sw o fun H o => tt ?_
 have hsrc : ∀ {H : Heap} {s : Src} {Xs : List AV} {ob : Ob} {c : Cat} {z d : Nat} {S : List Int},Owns H0 H (bendF id3 c z S d Xs (ob ++ [(id,s.obj),(id4,MObj.cells 7 [.int .i64 0,.nilsl,.nilsl,.nilsl,.nilsl,.nilsl,.nilsl] 0)])) →
   Owns H0 H ((id,s.obj) :: bendF id3 c z S d Xs (ob ++ [(id4,MObj.cells 7 [.int .i64 0,.nilsl,.nilsl,.nilsl,.nilsl,.nilsl,.nilsl] 0)])) := by
  intro H s Xs ob c z d S o;unfold bendF at o ⊢;exact o.pm
 have o := hsrc (by unfold bendF; exact o);refine (l01Next_ok B 5).go hs o fun r s H _ ⟨v,e,v0,v1,_⟩ hs o => ?_;subst e;unfold bendF at o;refine tt ?_
 have htup : ∀ {c' : Cat} {z' d' : Nat} {S' : List Int} {Xs' : List AV} {A' : List (List Int)} {ob' : Ob} {F : Env → Heap → Prop} {σ : Env} {H : Heap} {s : Src},LsR iI Xs' A' ob' →
   Owns H0 H ((id,s.obj) :: bendF id3 c' z' S' d' Xs' (ob' ++ [(id4,MObj.cells 7 [.int .i64 0,.nilsl,.nilsl,.nilsl,.nilsl,.nilsl,.nilsl] 0)])) →
   (∀ H',Owns H0 H' ((id3,.cells 7 (SF.cells ⟨c',S',A'⟩) 0) :: [(id,s.obj),(id4,MObj.cells 7 [.int .i64 0,.nilsl,.nilsl,.nilsl,.nilsl,.nilsl,.nilsl] 0)]) → F σ H') → wkW F σ H := by
  intro c' z' d' S' Xs' A' ob' F σ H s hR o hk;unfold bendF at o
  have od : Owns H0 H ((id3,.cells 7 [iI c'.objs,iL c'.frm,iL c'.to,iL c'.idn,iLL c'.comp,.buf z' S'.length,.buf d' Xs'.length] 0) :: (z',.cells 1 (S'.map iI) 0) :: (d',.cells 1 Xs' 0) :: (ob' ++ [(id,s.obj),(id4,MObj.cells 7 [.int .i64 0,.nilsl,.nilsl,.nilsl,.nilsl,.nilsl,.nilsl] 0)])) := o.pm;exact wk_sf hR od fun H o => wkW_done (hk H o)
 apply bk <;> intro h0
 focus
  refine tt ?_;refine rd_celln o.tl (by simp) ?_;refine tt ?_;refine (l02Bend_ok B 40 (by omega) c (show c.Shape from hc).sh).go hs o fun r s H _ ⟨c2,e⟩ hs o => ?_;subst e;refine tt ?_;refine sw o.swap fun H o => ?_
  have o : Owns H0 H ((id,s.obj) :: bendF id3 c2 z S d Xs (ob ++ [(id4,MObj.cells 7 [.int .i64 0,.nilsl,.nilsl,.nilsl,.nilsl,.nilsl,.nilsl] 0)])) := by unfold bendF; exact o.swap
  refine tt ?_;refine htup hX o fun H o => ?_
 rotate_left 1
 focus
  refine tt ?_;apply bk <;> intro h1
  focus
   refine tt ?_;refine rd_cells o.tl (by simp) ?_;refine tt ?_;apply bk <;> intro h2
   focus
    have h2p := of_decide h2;refine tt ?_
    have hg3 := o.tl.h0;simp only at hg3;refine ⟨⟨_,_,hg3⟩,rd_get hg3 (by simp) ?_⟩;refine tt ?_;refine ⟨⟨_,_,hg3⟩,rd_get hg3 (by simp) ?_⟩;refine tt ?_;refine (l01Next_ok B _).goZ hs o fun r s H _ ⟨i,e,i0,i1,_⟩ hs o hz => ⟨hz, ?_⟩;subst e
    have hi := i1 (by omega);refine tt ?_;refine (l01Pick_ok B [-1,0,1,2,17] (by simp)).goZ hs o fun r s H _ ⟨y,e,_⟩ hs o hz => ⟨hz, ?_⟩;subst e;refine tt ?_;refine ⟨⟨i0,by omega⟩, ?_⟩;refine set_own (f := iI) y (o.pull [_,_]) rfl (by omega) fun H o => ?_
    have o : Owns H0 H ((id,s.obj) :: bendF id3 c z (S.set i.toNat y) d Xs (ob ++ [(id4,MObj.cells 7 [.int .i64 0,.nilsl,.nilsl,.nilsl,.nilsl,.nilsl,.nilsl] 0)])) := by unfold bendF; rw [List.length_set]; exact o.pm
    refine tt ?_;refine htup hX o fun H o => ?_
   rotate_left 1
   focus
    have o : Owns H0 H ((id,s.obj) :: bendF id3 c z S d Xs (ob ++ [(id4,MObj.cells 7 [.int .i64 0,.nilsl,.nilsl,.nilsl,.nilsl,.nilsl,.nilsl] 0)])) := by unfold bendF; exact o
    refine tt ?_;refine htup hX o fun H o => ?_
  rotate_left 2
  focus
   have h0p := of_ndecide h0
   have h1p := of_ndecide h1
   have v5 := v1 (by omega)
   have c32 : decide ((3 : Int) = 2) = false := rfl
   have c42 : decide ((4 : Int) = 2) = false := rfl
   have c43 : decide ((4 : Int) = 3) = false := rfl
   obtain rfl | rfl | rfl : v = 2 ∨ v = 3 ∨ v = 4 := by omega
   rotate_left 2
   focus
    try simp only [go_sem,↓reduceIte,reduceEqDiff,reduceAdd,reduceMul,reduceLeDiff,reduceLT,c42,c43,dTrue']
    refine rd_cells o.tl (by simp) ?_;refine tt ?_;refine newBuf_own o fun ide H o => tt ?_
    have o : Owns H0 H ((d,.cells 1 Xs 0) :: ((ide,.cells 1 [] 0) :: (id,s.obj) :: (id3,.cells 7 [iI c.objs,iL c.frm,iL c.to,iL c.idn,iLL c.comp,.buf z S.length,.buf d Xs.length] 0) :: (z,.cells 1 (S.map iI) 0) :: (ob ++ [(id4,MObj.cells 7 [.int .i64 0,.nilsl,.nilsl,.nilsl,.nilsl,.nilsl,.nilsl] 0)]))) := o.pm;refine app_raw o rfl rfl rfl (by simp only [maxL]; omega) fun d H o => tt ?_;refine sw (o.pull [_,_,_]) fun H o => ?_
    have hX2 := hX.snoc' (p := [(ide,.cells 1 [] 0)]) (X := .buf ide 0) (A := []) (.inr ⟨ide,rfl,rfl⟩)
    have o : Owns H0 H ((id,s.obj) :: bendF id3 c z S d (Xs ++ [.buf ide 0]) ((ob ++ [(ide,.cells 1 [] 0)]) ++ [(id4,MObj.cells 7 [.int .i64 0,.nilsl,.nilsl,.nilsl,.nilsl,.nilsl,.nilsl] 0)])) := by
     unfold bendF;rw [List.length_append,List.length_singleton];exact o.pm
    refine tt ?_;refine htup hX2 o fun H o => tt ?_;refine rd_celln o (by simp [SF.cells]) ?_;refine tt ?_;refine sw (o.pull [_,_]) fun H o => tt ?_
    have hr := o.rc 7 0 (by simp);simp only [List.drop_zero] at hr;rw [hr];exact src_ret ⟨⟨_,_,_⟩,rfl⟩ hs (o.pull [_,_])
   all_goals
    try simp only [go_sem,↓reduceIte,reduceEqDiff,reduceAdd,reduceMul,reduceLeDiff,reduceLT,c32,dTrue']
    refine rd_cells o.tl (by simp) ?_;refine tt ?_;refine (l01Next_ok B _).go hs o fun r s H _ ⟨a,e,a0,a1,a2⟩ hs o => ?_;subst e
    obtain ⟨a,rfl⟩ : ∃ n : Nat,a = n := ⟨_,(Int.toNat_of_nonneg a0).symm⟩;clear a0 a2
    have hg3 := o.tl.h0;simp only at hg3
    have hgd : H.get d = some (.cells 1 Xs 0) := o.get (d,.cells 1 Xs 0) (by simp);refine tt ?_;refine rd_get hg3 (by simp) ?_;refine tt ?_;apply bk <;> intro k1
    focus
     have k1p := of_decide k1
     have ha := a1 (by omega)
     have hi : a < Xs.length := by omega
     obtain ⟨pr,rr,_,hLs,_⟩ := hX.split a hi
     have hlr := hLs.lenE;refine tw k1 ?_;refine rd_get hg3 (by simp) ?_;refine tt ?_;refine ⟨hi,rd_get hgd hi ?_⟩;refine tw hlr ?_;apply bk <;> intro k2
     focus
      have k2p := of_decide k2
      obtain ⟨idr,er,hset⟩ := hX.row hi (by omega);refine tw k2 ?_;refine ⟨⟨_,_,hg3⟩,rd_get hg3 (by simp) ?_⟩;refine tt ?_;refine ⟨hi,⟨_,_,hgd⟩,rd_get hgd hi ?_⟩;refine tt ?_;refine ⟨⟨_,_,hg3⟩,rd_get hg3 (by simp) ?_⟩;refine tt ?_;refine ⟨hi,⟨_,_,hgd⟩,rd_get hgd hi ?_⟩;rw [er];refine tt ?_;refine (l01Next_ok B _).goZ hs o fun r s H _ ⟨i,e,i0,i1,_⟩ hs o hz => ⟨hz, ?_⟩;subst e
      have hi1 := i1 (by omega);refine (l01Next_ok B _).goZ hs o fun r s H _ ⟨y1,e,_⟩ hs o hz => ⟨hz, ?_⟩;subst e;refine (l01Next_ok B _).goZ hs o fun r s H _ ⟨y2,e,_⟩ hs o hz => ⟨hz, ?_⟩;subst e;refine tt ?_;refine ⟨by omega, ?_⟩
      generalize IntKind.i64.wrap (y1 - _) = y3;refine ⟨⟨i0,by omega⟩, ?_⟩
      have od : Owns H0 H ((d,.cells 1 Xs 0) :: (ob ++ [(id,s.obj),(id3,.cells 7 [iI c.objs,iL c.frm,iL c.to,iL c.idn,iLL c.comp,.buf z S.length,.buf d Xs.length] 0),(z,.cells 1 (S.map iI) 0),(id4,MObj.cells 7 [.int .i64 0,.nilsl,.nilsl,.nilsl,.nilsl,.nilsl,.nilsl] 0)])) := o.pm;refine hset od i.toNat (by omega) y3 rfl fun H ob' hX' o => ?_
      have o : Owns H0 H ((id,s.obj) :: bendF id3 c z S d Xs (ob' ++ [(id4,MObj.cells 7 [.int .i64 0,.nilsl,.nilsl,.nilsl,.nilsl,.nilsl,.nilsl] 0)])) := by unfold bendF; exact o.pm
      refine tt ?_;refine htup hX' o fun H o => ?_
     rotate_left 1
     focus
      refine tw k2 ?_
      have o : Owns H0 H ((id,s.obj) :: bendF id3 c z S d Xs (ob ++ [(id4,MObj.cells 7 [.int .i64 0,.nilsl,.nilsl,.nilsl,.nilsl,.nilsl,.nilsl] 0)])) := by unfold bendF; exact o
      refine htup hX o fun H o => ?_
    rotate_left 2
    focus
     refine tw k1 ?_
     have o : Owns H0 H ((id,s.obj) :: bendF id3 c z S d Xs (ob ++ [(id4,MObj.cells 7 [.int .i64 0,.nilsl,.nilsl,.nilsl,.nilsl,.nilsl,.nilsl] 0)])) := by unfold bendF; exact o
     refine htup hX o fun H o => ?_
 all_goals
  refine tt ?_;refine rd_celln o (by simp [SF.cells]) ?_;refine tt ?_;refine sw (o.pull [_,_]) fun H o => tt ?_
  have hr := o.rc 7 0 (by simp);simp only [List.drop_zero] at hr;rw [hr];exact src_ret ⟨⟨_,_,_⟩,rfl⟩ hs (o.pull [_,_])
theorem l19Draw_ok (B : Nat) (c : Cat) (size : Int) (hsize : 0 ≤ size ∧ size ≤ 1000) : Rd B 78 [.agg c.cells,iI size] AnyF := by
 intro id s H0 H hs o;refine c78p (by simp) fun _ => ?_;unfold s78p;refine tt ?_;refine nb o fun id6 H o => tt ?_;refine (l02Is_ok B c).go fun _ => tt ?_
 by_cases hc : c.Is
 ·rw [dec_t hc];refine tt ?_;refine (l19Some_ok B c hc size hsize).go hs o.swap fun r s H _ ⟨f,e,hfc,hfa⟩ hs o => ?_;subst e;refine tt ?_;refine nb o fun id7 H o => tt ?_;refine sw o fun H o => tt ?_;refine (l01Next_ok B 40).go hs o.swap fun r s H _ ⟨v,e,_⟩ hs o => ?_;subst e;refine tt ?_;apply bk <;> intro h1
  ·refine tt ?_;refine rd_celln o.tl (by simp) ?_;refine tt ?_;refine (l19Bend_ok B f (by rw [hfc]; exact hc.1) hfa).go hs o fun r s H _ ⟨f2,e⟩ hs o => ?_;subst e;refine tt ?_;refine sw (o.pull [_,_]) fun H o => tt ?_;refine wkW_done ?_
   have hr := o.rc 7 0 (by simp);simp only [List.drop_zero] at hr;refine tt ?_;rw [hr];exact src_ret ⟨f2,rfl⟩ hs o.swap
  ·refine tt ?_;refine rd_celln o.tl (by simp) ?_;refine tt ?_;refine sw (o.pull [_,_]) fun H o => tt ?_;refine wkW_done ?_
   have hr := o.rc 7 0 (by simp);simp only [List.drop_zero] at hr;refine tt ?_;rw [hr];exact src_ret ⟨f,rfl⟩ hs o.swap
 ·rw [dec_f hc];refine tt ?_;refine sw o fun H o => tt ?_;refine wk_nil 5 o rfl fun H o => ?_;simp only [List.set_cons_zero,List.set_cons_succ] at o;refine wk_nil 6 o rfl fun H o => wkW_done ?_;simp only [List.set_cons_zero,List.set_cons_succ] at o
  have hr := o.rc 7 0 (by simp);simp only [List.drop_zero] at hr;refine tt ?_;rw [hr];exact src_ret ⟨⟨c,[],[]⟩,rfl⟩ hs o.swap
def MarkSh (f : SF) (M : List (List Bool)) : Prop := M.length = f.sizes.length ∧ ∀ y : Nat,y < f.sizes.length → ((M.getD y default).length : Int) = f.sizes.getD y default
def MarkQ (f : SF) (r : AV) : Prop := ∃ M : List (List Bool),r = mL (mL AV.bool) M ∧ MarkSh f M
theorem l19Orbit_ok (B : Nat) (f : SF) (hf : f.Is) (x e : Int) (hx : 0 ≤ x ∧ x < f.shape.objs) (he : 0 ≤ e ∧ e < ix f.sizes x) : Rets B 301 [.agg f.cells,iI x,iI e] (MarkQ f) := by
 intro H0;refine c301p (by simp) fun _ => ?_
 have hm := hf.1.is.1.m
 have hob := hf.1.is.1.o
 have htl := hf.1.is.1.tol
 have hsl := hf.1.sl
 have hal := hf.1.al
 have hz0 : ∀ x,x < f.sizes.length → 0 ≤ f.sizes.getD x default ∧ f.sizes.getD x default < 17 := fun x hx => hf.1.sz _ (mem_getD.mpr ⟨x,hx,rfl⟩);unfold s301p
 have o : Owns H0 H0 [] := .nil _;refine tt ?_;refine newBuf_own o fun idm H o => tt ?_
 refine awp_for [1,2,3] (G := Nat × List AV × List (List Bool) × Ob) (fun k g => [(7,some (.buf g.1 g.2.1.length)),(8,some (.int .i64 (k : Int)))])
  (fun k g H => (LsR AV.bool g.2.1 g.2.2.1 g.2.2.2 ∧ g.2.2.1.length = k ∧ ∀ y : Nat,y < k → ((g.2.2.1.getD y default).length : Int) = f.sizes.getD y default) ∧ Owns H0 H ((g.1,.cells 1 g.2.1 0) :: g.2.2.2)) f.shape.objs.toNat (idm,[],[],[]) ⟨⟨.nil,rfl,by simp⟩,o⟩ rfl ?_
 clear o
 rintro k ⟨idm,Xs,M,ob⟩ H hk ⟨⟨hR,hMl,hMr⟩,o⟩;dsimp only at hR hMl hMr o
 have hXl := hR.len;refine tt ?_;apply bk <;> intro h1
 ·have h1p := of_decide h1
  have w1 := wsucc (k := k) (by omega)
  have hzk := hz0 k (by omega)
  obtain ⟨n,hn⟩ : ∃ n : Nat,f.sizes.getD k default = n := ⟨_,(Int.toNat_of_nonneg hzk.1).symm⟩;rw [hn] at hzk;refine tt ?_;refine ⟨by omega, ?_⟩;rw [hn];refine tt ?_;refine ⟨⟨by omega,by simp only [maxL]; omega⟩,mks_list AV.bool false rfl o fun idr H o => ?_⟩;refine tt ?_;refine app_raw o.swap rfl rfl rfl (by simp only [maxL]; omega) fun idm H o => ?_
  have hX2 := hR.snoc' (p := [(idr,.cells 1 ((List.replicate n false).map AV.bool) 0)]) (X := .buf idr n) (A := List.replicate n false) (.inr ⟨idr,rfl,by rw [List.length_replicate]⟩);refine tw w1 ?_;refine for_next (idm,Xs ++ [.buf idr n],M ++ [List.replicate n false],_) (by omega) ⟨⟨hX2,by simp [hMl],fun y hy => ?_⟩,o.perm (.cons _ (List.perm_append_singleton _ _).symm)⟩ (by simp)
  show (((M ++ [List.replicate n false]).getD y default).length : Int) = f.sizes.getD y default
  rw [List.getD_eq_getElem?_getD,List.getElem?_append]
  split
  ·have := hMr y (by omega)
   rwa [List.getD_eq_getElem?_getD] at this
  ·obtain rfl : y = k := by omega
   rw [show y - M.length = 0 by omega,hn]; simp
 ·have h1p := of_ndecide h1
  have hkk : k = f.sizes.length := by omega
  clear h1 h1p;refine tt ?_
  refine awp_for [1,2,3,7] (G := List (List Bool) × Ob) (fun a _ => [(9,some (.int .i64 (a : Int)))])
   (fun a g H => (LsR AV.bool Xs g.1 g.2 ∧ MarkSh f g.1) ∧ Owns H0 H ((idm,.cells 1 Xs 0) :: g.2)) f.acts.length (M,ob) ⟨⟨hR,by show M.length = _; omega,fun y hy => hMr y (by omega)⟩,o⟩ rfl ?_
  clear o hR hMl hMr
  rintro a ⟨M,ob⟩ H ha ⟨⟨hR,hM⟩,o⟩;dsimp only at hR hM o
  have hXl := hR.len
  have hMl := hM.1;refine tt ?_;apply bk <;> intro h2
  ·have h2p := of_decide h2
   have w2 := wsucc (k := a) (by omega)
   have hto := hf.1.is.1.toObj (f := (a : Int)) (by simp; omega);rw [ix_nat] at hto;refine tt ?_;refine ⟨by omega, ?_⟩;apply bk <;> intro h3
   ·have h3p : f.shape.frm.getD a default = x := of_decide h3
    have ha' : 0 ≤ (a : Int) ∧ (a : Int).toNat < f.shape.frm.length := ⟨by omega,by simp; omega⟩
    have hin := hf.1.inAct ha' (e := e) (by rw [ix_nat,h3p]; exact he)
    have hat := hf.1.actTo ha' (e := e) (by rw [ix_nat,h3p]; exact he);simp only [ix_nat] at hin hat
    obtain ⟨y,hy⟩ : ∃ y : Nat,f.shape.to.getD a default = y := ⟨_,(Int.toNat_of_nonneg hto.1).symm⟩;rw [hy] at hto hat;rw [ix_nat] at hat
    have hyl : y < f.sizes.length := by omega
    have hrow := hM.2 y hyl
    have hyX : y < Xs.length := by omega
    have hrow2 : ((M.getD y []).length : Int) = f.sizes.getD y default := hrow
    obtain ⟨idr,er,hset⟩ := hR.row hyX (by omega);refine tt ?_;refine ⟨by omega,by omega, ?_⟩;rw [hy];refine tt ?_;refine rd_get o.h0 hyX ?_;rw [er];refine tt ?_;refine ⟨by omega,hin,⟨hat.1,by omega⟩, ?_⟩
    have o : Owns H0 H ((idm,.cells 1 Xs 0) :: (ob ++ [])) := by rw [List.append_nil]; exact o
    refine hset o _ (by omega) true rfl fun H ob' hR' o => ?_;rw [List.append_nil] at o;refine tw w2 ?_;refine for_next (_,ob') (by omega) ⟨⟨hR',by show (M.set y _).length = _; rw [List.length_set]; exact hM.1,fun z hz => ?_⟩,o⟩ rfl
    show (((M.set y ((M.getD y []).set (ix (f.acts.getD a default) e).toNat true)).getD z default).length : Int) = f.sizes.getD z default
    rw [getD_setD _ _ (by omega)]
    split
    ·rename_i e; subst e; rw [List.length_set]; exact hrow
    ·exact hM.2 z hz
   ·refine tw w2 ?_;exact for_next (M,ob) (by omega) ⟨⟨hR,hM⟩,o⟩ rfl
  ·have h2p := of_ndecide h2;refine tt ?_
   have o : Owns H0 H ((idm,.cells 1 Xs 0) :: (ob ++ [])) := by rw [List.append_nil]; exact o
   refine wk_rows hR [] H o fun H o => wkW_done ?_;rw [List.nil_append] at o;refine tt ?_;refine fz_own (f := mL AV.bool) o hXl fun H o => tt ?_;exact rets_ret ⟨M,rfl,hM⟩ o.sub
end Go.Proofs.Shf
namespace Go.AW
theorem LsP.lent {α : Type} [Inhabited α] {f : α → AV} [One f] {B : Nat} {H : Heap} {p : List (Nat × MObj)} {X : AV} {A : List α} (h : LsP f p X A) (hp : ∀ x,x ∈ p → H.get x.1 = some x.2) :
  ∀ g w v,WRel g B H w → VRel g X v → VRel (g.lend H w) (mL f A) v := by
 rcases h with ⟨_,rfl,rfl⟩ | ⟨id,rfl,rfl⟩
 ·intro g w v _ hv
  cases hv;exact .slnil _ _
 ·exact lent_get (hp (id,.cells 1 (A.map f) 0) (by simp)) rfl
theorem LsR.put {α : Type} {f : α → AV} {Xs : List AV} {As : List (List α)} {ob : Ob} (h : LsR f Xs As ob) {i : Nat} (hi : i < Xs.length) {p : Ob} {X : AV} {A : List α} (hX : LsP f p X A) {H0 H : Heap} {l : Ob} {id : Nat}
  (o : Owns H0 H ((id,.cells 1 (Xs.set i X) 0) :: (p ++ (ob ++ l)))) : ∃ ob',LsR f (Xs.set i X) (As.set i A) ob' ∧ Owns H0 H ((id,.cells 1 (Xs.set i X) 0) :: (ob' ++ l)) := by
 obtain ⟨q,r,h1,_,h3⟩ := h.split i hi
 obtain ⟨o',k1,k2⟩ := h3 X A p hX;refine ⟨o',k1, ?_⟩
 have o2 : Owns H0 H (q ++ ((id,.cells 1 (Xs.set i X) 0) :: (p ++ (r ++ l)))) := by
  refine o.perm ?_;refine List.Perm.trans (.cons _ ?_) List.perm_middle.symm
  have h2 : (p ++ ob).Perm (q ++ (p ++ r)) := (List.Perm.append_left p h1).trans (by
   rw [← List.append_assoc,← List.append_assoc];exact List.Perm.append_right r List.perm_append_comm)
  simpa using List.Perm.append_right l h2
 have o3 := o2.subl (l' := (id,.cells 1 (Xs.set i X) 0) :: (p ++ (r ++ l))) (List.sublist_append_right _ _);refine o3.perm (.cons _ ?_);rw [← List.append_assoc];exact List.Perm.append_right l k2.symm
end Go.AW
namespace Go.Proofs.Shf
open Go.AW Go.Proofs Go.Shf
theorem l25Some_ok (B : Nat) (f : SF) (hf : f.Is) {id : Nat} {s : Src} {H0 H : Heap} {l : Ob} (hs : s.Ok) (o : Owns H0 H ((id,s.obj) :: l)) : CallH Tryz.prog B 244 [.ref id 0,.agg f.cells] H
  fun r H' => ∃ (s' : Src) (idm : Nat) (Xs : List AV) (MM : List (List Int)) (ob : Ob),s'.Ok ∧ r = .agg [.buf idm Xs.length] ∧ LsR iI Xs MM ob ∧ MM.length = f.sizes.length ∧ (∀ y : Nat,(MM.getD y default).length ≤ 17) ∧ Owns H0 H' ((id,s'.obj) :: (idm,.cells 1 Xs 0) :: (ob ++ l)) := by
 refine c244p (by simp) fun _ => ?_
 have hob := hf.1.is.1.o
 have hsl := hf.1.sl
 have hz0 : ∀ x,x < f.sizes.length → 0 ≤ f.sizes.getD x default ∧ f.sizes.getD x default < 17 := fun x hx => hf.1.sz _ (mem_getD.mpr ⟨x,hx,rfl⟩);unfold s244p;refine tt ?_;refine newRef_own o fun id4 H o => tt ?_;refine newBuf_own o fun idm H o => tt ?_
 refine awp_for [0,3,4] (G := Nat × List AV × List (List Int) × Ob) (fun k g => [(5,some (.buf g.1 g.2.1.length)),(6,some (.int .i64 (k : Int)))])
  (fun k g H => (LsR iI g.2.1 g.2.2.1 g.2.2.2 ∧ g.2.2.1.length = k ∧ ∀ y : Nat,(g.2.2.1.getD y default).length ≤ 17) ∧ Owns H0 H ((g.1,.cells 1 g.2.1 0) :: (g.2.2.2 ++ ((id4,.cells 1 [.nilsl] 0) :: (id,s.obj) :: l)))) f.sizes.length (idm,[],[],[]) ⟨⟨.nil,rfl,by simp; exact Nat.zero_le _⟩,o⟩ rfl ?_
 clear o
 rintro k ⟨idm,Xs,MM,ob⟩ H hk ⟨⟨hR,hMl,hMr⟩,o⟩;dsimp only at hR hMl hMr o
 have hXl := hR.len;refine tt ?_;apply bk <;> intro h1
 ·have h1p := of_decide h1
  have w1 := wsucc (k := k) (by omega);refine tt ?_;refine newBuf_own o fun idr H o => tt ?_;refine app_raw o.swap rfl rfl rfl (by simp only [maxL]; omega) fun idm H o => ?_
  have hX2 := hR.snoc' (p := [(idr,.cells 1 [] 0)]) (X := .buf idr 0) (A := []) (.inr ⟨idr,rfl,rfl⟩);refine tw w1 ?_;refine for_next (idm,Xs ++ [.buf idr 0],MM ++ [[]],_) (by omega) ⟨⟨hX2,by simp [hMl],fun y => ?_⟩,o.perm (.cons _ ?_)⟩ (by simp)
  ·show ((MM ++ [[]]).getD y default).length ≤ 17
   rw [List.getD_eq_getElem?_getD,List.getElem?_append]
   split
   ·have := hMr y
    rwa [List.getD_eq_getElem?_getD] at this
   ·by_cases hy : y - MM.length = 0
    ·rw [hy]; simp
    ·rw [List.getElem?_eq_none (by simp; omega)]; exact Nat.zero_le _
  ·rw [List.append_assoc]; exact List.perm_middle.symm
 ·have h1p := of_ndecide h1
  have hkk : k = f.sizes.length := by omega
  clear h1 h1p;rw [hkk] at hMl;clear hkk;refine tt ?_
  have o : Owns H0 H ((id,s.obj) :: (idm,.cells 1 Xs 0) :: (ob ++ ((id4,.cells 1 [.nilsl] 0) :: l))) := o.pm;refine (l01Next_ok B 4).go hs o fun r s H _ ⟨v,e,v0,v1,_⟩ hs o => ?_;subst e
  have hv := v1 (by omega)
  obtain ⟨n,rfl⟩ : ∃ n : Nat,v = n := ⟨_,(Int.toNat_of_nonneg v0).symm⟩;clear v0 v1;refine tt ?_;rw [show Xs.length = f.sizes.length by omega];refine tt ?_
  refine awp_while [0,3,4,5] (G := Src × (List AV × List (List Int) × Ob) × Nat) (fun g => [(7,some (.int .i64 (g.2.2 : Int)))])
   (fun m g H => m = g.2.2 ∧ g.2.2 ≤ 3 ∧ g.1.Ok ∧ LsR iI g.2.1.1 g.2.1.2.1 g.2.1.2.2 ∧ g.2.1.2.1.length = f.sizes.length ∧ (∀ y : Nat,(g.2.1.2.1.getD y default).length ≤ 17) ∧
    Owns H0 H ((id,g.1.obj) :: (idm,MObj.cells 1 g.2.1.1 0) :: (g.2.1.2.2 ++ ((id4,MObj.cells 1 [.nilsl] 0) :: l)))) n (s,(Xs,MM,ob),n) ⟨rfl,by show n ≤ 3; omega,hs,hR,hMl,hMr,o⟩ rfl ?_
  clear o hs hR hMl hMr hXl
  rintro m ⟨s,⟨Xs,MM,ob⟩,n⟩ H ⟨hmn,hn3,hs,hR,hMl,hMr,o⟩;dsimp only at hmn hn3 hs hR hMl hMr o
  have hXl := hR.len;refine tt ?_;apply bk <;> intro k2
  focus
   refine tw k2 ?_;apply bk <;> intro k3
   focus
    have k2p := of_decide k2
    have k3p := of_decide k3
    have w2 : IntKind.i64.wrap ((n : Int) - 1) = ((n - 1 : Nat) : Int) := by rw [wrap_i64 (by omega) (by omega)]; omega
    refine tw k3 ?_;refine (l01Next_ok B _).go hs o fun r s H _ ⟨x,e,x0,x1,_⟩ hs o => ?_;subst e
    have hx1 := x1 (by omega)
    obtain ⟨x,rfl⟩ : ∃ n : Nat,x = n := ⟨_,(Int.toNat_of_nonneg x0).symm⟩;clear x0 x1
    have hxl : x < f.sizes.length := by omega
    have hzx := hz0 x hxl;refine tt ?_;refine ⟨hxl, ?_⟩;apply bk <;> intro k4
    ·refine tw w2 ?_;exact while_next (n - 1) (s,(Xs,MM,ob),n - 1) (by omega) ⟨rfl,by show n - 1 ≤ 3; omega,hs,hR,hMl,hMr,o⟩ rfl
    ·have k4p := of_ndecide k4;refine tt ?_;refine ⟨hxl, ?_⟩;refine (l01Next_ok B _).go hs o fun r s H _ ⟨e,ee,e0,e1,_⟩ hs o => ?_;subst ee
     have he1 := e1 (by omega);refine tt ?_;refine (l19Orbit_ok B f hf x e (by omega) (by rw [ix_nat]; exact ⟨e0,he1⟩)).go fun r _ ⟨M,em,hM⟩ => ?_;subst em;refine tt ?_;refine ⟨.refl _, ?_⟩
     have hMlen := hM.1
     refine awp_for [0,3,4,5,7,9] (G := List AV × List (List Int) × Ob) (fun y _ => [(10,some (.int .i64 (y : Int)))])
      (fun y g H => LsR iI g.1 g.2.1 g.2.2 ∧ g.2.1.length = f.sizes.length ∧ (∀ y : Nat,(g.2.1.getD y default).length ≤ 17) ∧
       Owns H0 H ((id,s.obj) :: (idm,MObj.cells 1 g.1 0) :: (g.2.2 ++ ((id4,MObj.cells 1 [.nilsl] 0) :: l)))) M.length (Xs,MM,ob) ⟨hR,hMl,hMr,o⟩ rfl ?_
     clear o hR hMl hMr hXl
     rintro y ⟨Xs,MM,ob⟩ H hy ⟨hR,hMl,hMr,o⟩;dsimp only at hR hMl hMr o
     have hXl := hR.len;refine tt ?_;apply bk <;> intro j1
     ·have j1p := of_decide j1
      have w3 := wsucc (k := y) (by omega)
      have hyl : y < f.sizes.length := by omega
      have hzy := hz0 y hyl
      have hMy := hM.2 y hyl
      obtain ⟨pr,rr,hpm,hLs,_⟩ := hR.split y (by omega);refine tt ?_;refine newBuf_own o fun id11 H o => tt ?_
      refine awp_for [0,3,4,5,7,9,10] (G := Nat × List Int) (fun e g => [(11,some (.buf g.1 g.2.length)),(12,some (.int .i64 (e : Int)))])
       (fun e g H => g.2.length ≤ e ∧ Owns H0 H ((g.1,.cells 1 (g.2.map iI) 0) :: (id,s.obj) :: (idm,.cells 1 Xs 0) :: (ob ++ ((id4,.cells 1 [.nilsl] 0) :: l)))) (M.getD y default).length (id11,[]) ⟨by simp,o⟩ rfl ?_
      clear o
      rintro e ⟨id11,L⟩ H he ⟨hL,o⟩;dsimp only at hL o;refine tt ?_;refine ⟨by omega, ?_⟩;apply bk <;> intro j2
      ·have j2p := of_decide j2
       have w4 := wsucc (k := e) (by omega);refine tt ?_;refine ⟨by omega,j2p,tt ?_⟩
       cases hb : (M.getD y default).getD e default with
       | true =>
        refine tt ?_;refine app_own (e : Int) o rfl rfl (by simp only [maxL]; omega) fun id11 H o => ?_;refine tw w4 ?_;exact for_next (id11,L ++ [(e : Int)]) (by omega) ⟨by show (L ++ _).length ≤ _; simp; omega,o⟩ rfl
       | false =>
        have hgm : H.get idm = some (.cells 1 Xs 0) := o.get (idm,.cells 1 Xs 0) (by simp);refine tt ?_;refine ⟨by omega,rd_get hgm (by omega) ?_⟩;refine tt ?_;refine CallH.lentPure (es := [iL (MM.getD y []),.int .i64 (e : Int)]) (.bool _) rfl (fun i hi => ?_) (l01Has_ok B (MM.getD y []) e).run ?_
        ·obtain rfl | rfl : i = 0 ∨ i = 1 := by simp only [List.length_cons,List.length_nil] at hi; omega
         ·exact hLs.lent fun x hx => o.get x (by simp only [List.mem_cons,List.mem_append]; exact .inr (.inr (.inr (.inl (hpm.symm.subset (List.mem_append_left _ hx))))))
         ·exact val_arg _
        refine tt ?_;apply bk <;> intro j3
        ·refine tt ?_;refine app_own (e : Int) o rfl rfl (by simp only [maxL]; omega) fun id11 H o => ?_;refine tw w4 ?_;exact for_next (id11,L ++ [(e : Int)]) (by omega) ⟨by show (L ++ _).length ≤ _; simp; omega,o⟩ rfl
        ·refine tw w4 ?_;exact for_next (id11,L) (by omega) ⟨by show L.length ≤ _; omega,o⟩ rfl
      ·have j2p := of_ndecide j2;refine tt ?_;refine ⟨by omega, ?_⟩
       have o : Owns H0 H ((idm,.cells 1 Xs 0) :: ((id11,.cells 1 (L.map iI) 0) :: (ob ++ ((id,s.obj) :: (id4,.cells 1 [.nilsl] 0) :: l)))) := o.pm;refine st_cells o (by omega) rfl (by simp only [memcons,memnil]; exact ⟨rfl,trivial⟩) fun H o => ?_;simp only [wr_cons,wr_nil] at o
       obtain ⟨ob',hR',o⟩ := hR.put (i := y) (by omega) (p := [(id11,.cells 1 (L.map iI) 0)]) (A := L) (.inr ⟨id11,rfl,rfl⟩) o;refine tw w3 ?_;refine for_next (Xs.set y (.buf id11 L.length),MM.set y L,ob') (by omega) ⟨hR',by show (MM.set y L).length = _; rw [List.length_set]; exact hMl,fun z => ?_,o.perm ?_⟩ rfl
       ·show ((MM.set y L).getD z default).length ≤ 17
        rw [getD_setD _ _ (by omega)]
        split
        ·omega
        ·exact hMr z
       ·exact (List.Perm.cons _ List.perm_middle).trans (.swap _ _ _)
     ·have j1p := of_ndecide j1;refine tw w2 ?_;exact while_next (n - 1) (s,(Xs,MM,ob),n - 1) (by omega) ⟨rfl,by show n - 1 ≤ 3; omega,hs,hR,hMl,hMr,o⟩ rfl
   refine tw k3 ?_
  rotate_left 1
  focus
   refine tw k2 ?_
  all_goals
   have o : Owns H0 H ((id4,.cells 1 [.nilsl] 0) :: ((id,s.obj) :: (idm,.cells 1 Xs 0) :: (ob ++ l))) := o.perm ((List.Perm.cons _ ((List.Perm.cons _ List.perm_middle).trans (.swap _ _ _))).trans (.swap _ _ _));refine sw o fun H o => tt ?_
   have hr := o.rc 1 0 (by simp);simp only [List.drop_zero] at hr;rw [hr];exact ⟨H,.refl H,s,idm,Xs,MM,ob,hs,by rw [hXl,hMl]; rfl,hR,hMl,hMr,o.tl⟩
def PartR (r : AV) : Prop := ∃ p : List (List Int),r = .agg [iLL p]
theorem l25Draw_ok (B : Nat) (f : SF) : Rd B 122 [.agg f.cells] PartR := by
 intro id s H0 H hs o;refine c122p (by simp) fun _ => ?_;unfold s122p;refine tt ?_;refine newRef_own o fun id4 H o => tt ?_;refine (l19Is_ok B f).go fun _ => tt ?_
 by_cases hf : f.Is
 rotate_left 1
 ·rw [dec_f hf];refine tt ?_;refine sw o fun H o => tt ?_;refine wk_nil 0 o rfl fun H o => wkW_done ?_;simp only [List.set_cons_zero,List.set_cons_succ] at o
  have hr := o.rc 1 0 (by simp);simp only [List.drop_zero] at hr;refine tt ?_;rw [hr];exact src_ret ⟨[],rfl⟩ hs o.swap
 ·rw [dec_t hf];refine tt ?_;refine (l25Some_ok B f hf hs o.swap).mono ?_
  rintro r H ⟨s,idm,Xs,MM,ob,hs,rfl,hR,hMl,hMr,o⟩
  have hXl := hR.len;refine tt ?_;refine newRef_own o fun id5 H o => tt ?_;refine sw o fun H o => tt ?_;refine wk_ref 5 o rfl fun H o => wkW_done ?_;refine tt ?_;refine (l01Next_ok B 24).go hs o fun r s H _ ⟨v,e,_⟩ hs o => ?_;subst e;refine tt ?_;apply bk <;> intro k1
  focus
   refine tw k1 ?_;apply bk <;> intro k2
   focus
    refine tw k2 ?_
    have k2p := of_decide k2;refine (l01Next_ok B _).go hs o fun r s H _ ⟨x,e,x0,x1,_⟩ hs o => ?_;subst e
    have hx1 := x1 (by omega)
    obtain ⟨x,rfl⟩ : ∃ n : Nat,x = n := ⟨_,(Int.toNat_of_nonneg x0).symm⟩;clear x0 x1
    have hm : H.get idm = some (.cells 1 Xs 0) := o.tl.h0
    have hxX : x < Xs.length := by omega
    obtain ⟨pr,rr,hpm,hLs,_⟩ := hR.split x hxX
    have hlr := hLs.lenE;refine tt ?_;refine ⟨by omega,rd_get hm hxX ?_⟩;refine tw hlr ?_;apply bk <;> intro k3
    focus
     refine tw k3 ?_
     have k3p := of_decide k3;refine (l01Next_ok B 2).go hs o fun r s H _ ⟨v2,e,_⟩ hs o => ?_;subst e;refine tt ?_
     cases hk4 : decide (v2 = 0);rotate_left 1
     focus
      have o : Owns H0 H ((idm,.cells 1 Xs 0) :: (ob ++ [(id,s.obj),(id4,.cells 1 [.nilsl] 0)])) := o.pm;refine wk_rows hR [] H o fun H o => wkW_done ?_;rw [List.nil_append] at o;refine tt ?_;refine ⟨hxX,rd_own (f := iL) o (by omega) ?_⟩;refine tt ?_;refine ⟨⟨by omega,by have : (MM.getD x default).length = (MM.getD x []).length := rfl; omega⟩,hxX, ?_⟩;refine set_own (f := iL) _ o rfl (by omega) fun H o => tt ?_;refine sw (o.pull [_,_]) fun H o => tt ?_;refine wk_cell 0 o rfl (by rw [List.length_set]; exact hXl) fun H o => wkW_done ?_;simp only [List.set_cons_zero,List.set_cons_succ] at o
      have hr := o.rc 1 0 (by simp);simp only [List.drop_zero] at hr;refine tt ?_;rw [hr];exact src_ret ⟨_,rfl⟩ hs o.swap
    rotate_left 1
    focus
     refine tw k3 ?_
    all_goals
     refine wkW_done ?_
     have hm : H.get idm = some (.cells 1 Xs 0) := o.tl.h0;refine tt ?_;refine ⟨hxX,⟨_,_,hm⟩,rd_get hm hxX ?_⟩;refine tt ?_;refine ⟨by omega, ?_⟩;refine (l02Number_ok B _).goZ hs o fun r s H _ ⟨v3,e⟩ hs o hz => ⟨hz, ?_⟩;subst e;refine tt ?_
     have o : Owns H0 H ((idm,.cells 1 Xs 0) :: (ob ++ [(id,s.obj),(id4,.cells 1 [.nilsl] 0)])) := o.pm;refine rows_app o hR hxX v3 rfl (by have : (MM.getD x []).length ≤ 17 := hMr x; simp only [maxL]; omega) fun X' o' H hX1 hR o => ?_;try simp only [go_sem,↓reduceIte,reduceEqDiff,reduceAdd,reduceMul,reduceLeDiff,reduceLT,AV.cells_one hX1]
     refine ⟨hxX,st_cells o (by omega) rfl (by simp only [memcons,memnil]; exact ⟨hX1,trivial⟩) fun H o => ?_⟩;simp only [wr_cons,wr_nil] at o;refine tt ?_
     have o : Owns H0 H ((id4,.cells 1 [.nilsl] 0) :: ((id,s.obj) :: (idm,.cells 1 (Xs.set x X') 0) :: o')) := o.pm;refine sw o fun H o => tt ?_
     have o : Owns H0 H ((idm,.cells 1 (Xs.set x X') 0) :: (o' ++ [(id4,.cells 1 [.buf idm Xs.length] 0),(id,s.obj)])) := o.pm;refine wk_rows hR [] H o fun H o => ?_;rw [List.nil_append] at o;refine wk_cell 0 o.swap rfl (by rw [List.length_set]; exact hXl) fun H o => wkW_done ?_;simp only [List.set_cons_zero,List.set_cons_succ] at o
     have hr := o.rc 1 0 (by simp);simp only [List.drop_zero] at hr;refine tt ?_;rw [hr];exact src_ret ⟨_,rfl⟩ hs o.swap
   rotate_left 1
   focus
    refine tw k2 ?_
  rotate_left 1
  focus
   refine tw k1 ?_
  all_goals
   have o : Owns H0 H ((id4,.cells 1 [.nilsl] 0) :: ((id,s.obj) :: (idm,.cells 1 Xs 0) :: ob)) := o.pm;refine sw o fun H o => tt ?_
   have o : Owns H0 H ((idm,.cells 1 Xs 0) :: (ob ++ [(id4,.cells 1 [.buf idm Xs.length] 0),(id,s.obj)])) := o.pm;refine wk_rows hR [] H o fun H o => ?_;rw [List.nil_append] at o;refine wk_cell 0 o.swap rfl (by exact hXl) fun H o => wkW_done ?_;simp only [List.set_cons_zero,List.set_cons_succ] at o
   have hr := o.rc 1 0 (by simp);simp only [List.drop_zero] at hr;refine tt ?_;rw [hr];exact src_ret ⟨_,rfl⟩ hs o.swap
def DrawTQ (r : AV) : Prop := ∃ (j : Top) (f : SF) (p : List (List Int)),r = .tup [.agg j.cells,.agg f.cells,.agg [iLL p]]
theorem l27Placed_ok (B : Nat) (code : List UInt8) : Rets B 139 [mL Go.AW.iB code] DrawTQ := by
 intro H0;refine c139p (by simp) fun _ => ?_;unfold s139p
 have o : Owns H0 H0 [] := .nil _;refine tt ?_;refine nb o fun id2 H o => tt ?_;refine nb o fun id3 H o => tt ?_;refine newRef_own o fun id4 H o => tt ?_;refine (l01From_ok B code _).mono' fun r H _ ⟨id,s,e,hs,o2⟩ => ?_;subst e
 have o := o.trans o2;refine tt ?_;refine (l27Draw_ok B).go hs o fun r s H _ ⟨j,e⟩ hs o => ?_;subst e;refine tt ?_;refine nb o fun id6 H o => tt ?_;refine sw o fun H o => tt ?_;refine wk_ref 6 o rfl fun H o => wkW_done ?_;refine tt ?_;refine newRef_own o fun id7 H o => tt ?_;refine sw o fun H o => tt ?_
 have o : Owns H0 H ((id,s.obj) :: (id7,MObj.cells 5 [iI j.shape.objs,iL j.shape.frm,iL j.shape.to,iL j.shape.idn,iLL j.shape.comp] 0) :: [(id2,MObj.cells 6 [.int .i64 0,.nilsl,.nilsl,.nilsl,.nilsl,.nilsl] 0),(id3,MObj.cells 7 [.int .i64 0,.nilsl,.nilsl,.nilsl,.nilsl,.nilsl,.nilsl] 0),(id4,MObj.cells 1 [.nilsl] 0)]) := o.pm;refine (l01Next_ok B 16).go hs o fun r s H _ ⟨v,e,_⟩ hs o => ?_;subst e;refine tt ?_
 obtain ⟨c0,hc0⟩ : ∃ c0,j.shape = c0 := ⟨_,rfl⟩;rw [hc0] at o;apply bn <;> intro h1
 ·refine tt ?_;refine rd_celln o.tl (by simp) ?_;refine tw h1 ?_;refine (l02Is_ok B c0).go fun _ => ?_
  by_cases hI : c0.Is
  ·rw [dec_t hI];refine tw h1 ?_;refine rd_celln o.tl (by simp) ?_;refine tt ?_;refine (l19Draw_ok B c0 3 (by omega)).go hs o fun r s H _ ⟨f,e⟩ hs o => ?_;subst e;refine tt ?_;refine nb o fun id8 H o => tt ?_;refine sw o fun H o => tt ?_;refine wk_ref 8 o rfl fun H o => wkW_done ?_;refine tt ?_;refine (l19Is_ok B f).go fun _ => ?_
   by_cases hf : f.Is
   ·rw [dec_t hf];refine tt ?_;refine (l25Draw_ok B f).goZ hs o fun r s H _ ⟨p,e⟩ hs o hz => ⟨hz, ?_⟩;subst e;refine tt ?_;refine sw (o.pull [_,_]) fun H o => tt ?_;refine sw (o.pull [_,_,_]) fun H o => tt ?_;refine sw (o.pull [_,_,_,_]) fun H o => tt ?_
    have hr4 := o.rc 1 0 (by simp)
    have hr3 := o.tl.rc 7 0 (by simp)
    have hr2 := o.tl.tl.rc 6 0 (by simp);simp only [List.drop_zero] at hr2 hr3 hr4;rw [hr2,hr3,hr4];exact rets_ret ⟨j,f,p,rfl⟩ o.sub
   ·rw [dec_f hf];refine tt ?_;refine sw (o.pull [_,_]) fun H o => tt ?_;refine sw (o.pull [_,_,_]) fun H o => tt ?_;refine sw (o.pull [_,_,_,_]) fun H o => tt ?_
    have hr4 := o.rc 1 0 (by simp)
    have hr3 := o.tl.rc 7 0 (by simp)
    have hr2 := o.tl.tl.rc 6 0 (by simp);simp only [List.drop_zero] at hr2 hr3 hr4;rw [hr2,hr3,hr4];exact rets_ret ⟨j,f,[],rfl⟩ o.sub
  ·rw [dec_f hI];refine tw h1 ?_;refine (l27Base_ok B).go hs o fun r s H _ ⟨c,e,_⟩ hs o => ?_;subst e;refine tt ?_;refine sw o.swap fun H o => ?_
   have o : Owns H0 H ((id,s.obj) :: (id7,MObj.cells 5 [iI c.objs,iL c.frm,iL c.to,iL c.idn,iLL c.comp] 0) :: [(id2,MObj.cells 6 [.int .i64 0,.nilsl,.nilsl,.nilsl,.nilsl,.nilsl] 0),(id3,MObj.cells 7 [.int .i64 0,.nilsl,.nilsl,.nilsl,.nilsl,.nilsl,.nilsl] 0),(id4,MObj.cells 1 [.nilsl] 0)]) := o.swap;refine tt ?_;refine rd_celln o.tl (by simp) ?_;refine tt ?_;refine (l19Draw_ok B c 3 (by omega)).go hs o fun r s H _ ⟨f,e⟩ hs o => ?_;subst e;refine tt ?_;refine nb o fun id8 H o => tt ?_;refine sw o fun H o => tt ?_;refine wk_ref 8 o rfl fun H o => wkW_done ?_;refine tt ?_;refine (l19Is_ok B f).go fun _ => ?_
   by_cases hf : f.Is
   ·rw [dec_t hf];refine tt ?_;refine (l25Draw_ok B f).goZ hs o fun r s H _ ⟨p,e⟩ hs o hz => ⟨hz, ?_⟩;subst e;refine tt ?_;refine sw (o.pull [_,_]) fun H o => tt ?_;refine sw (o.pull [_,_,_]) fun H o => tt ?_;refine sw (o.pull [_,_,_,_]) fun H o => tt ?_
    have hr4 := o.rc 1 0 (by simp)
    have hr3 := o.tl.rc 7 0 (by simp)
    have hr2 := o.tl.tl.rc 6 0 (by simp);simp only [List.drop_zero] at hr2 hr3 hr4;rw [hr2,hr3,hr4];exact rets_ret ⟨j,f,p,rfl⟩ o.sub
   ·rw [dec_f hf];refine tt ?_;refine sw (o.pull [_,_]) fun H o => tt ?_;refine sw (o.pull [_,_,_]) fun H o => tt ?_;refine sw (o.pull [_,_,_,_]) fun H o => tt ?_
    have hr4 := o.rc 1 0 (by simp)
    have hr3 := o.tl.rc 7 0 (by simp)
    have hr2 := o.tl.tl.rc 6 0 (by simp);simp only [List.drop_zero] at hr2 hr3 hr4;rw [hr2,hr3,hr4];exact rets_ret ⟨j,f,[],rfl⟩ o.sub
 ·refine tw h1 ?_;refine (l27Base_ok B).go hs o fun r s H _ ⟨c,e,_⟩ hs o => ?_;subst e;refine tt ?_;refine sw o.swap fun H o => ?_
  have o : Owns H0 H ((id,s.obj) :: (id7,MObj.cells 5 [iI c.objs,iL c.frm,iL c.to,iL c.idn,iLL c.comp] 0) :: [(id2,MObj.cells 6 [.int .i64 0,.nilsl,.nilsl,.nilsl,.nilsl,.nilsl] 0),(id3,MObj.cells 7 [.int .i64 0,.nilsl,.nilsl,.nilsl,.nilsl,.nilsl,.nilsl] 0),(id4,MObj.cells 1 [.nilsl] 0)]) := o.swap;refine tt ?_;refine rd_celln o.tl (by simp) ?_;refine tt ?_;refine (l19Draw_ok B c 3 (by omega)).go hs o fun r s H _ ⟨f,e⟩ hs o => ?_;subst e;refine tt ?_;refine nb o fun id8 H o => tt ?_;refine sw o fun H o => tt ?_;refine wk_ref 8 o rfl fun H o => wkW_done ?_;refine tt ?_;refine (l19Is_ok B f).go fun _ => ?_
  by_cases hf : f.Is
  ·rw [dec_t hf];refine tt ?_;refine (l25Draw_ok B f).goZ hs o fun r s H _ ⟨p,e⟩ hs o hz => ⟨hz, ?_⟩;subst e;refine tt ?_;refine sw (o.pull [_,_]) fun H o => tt ?_;refine sw (o.pull [_,_,_]) fun H o => tt ?_;refine sw (o.pull [_,_,_,_]) fun H o => tt ?_
   have hr4 := o.rc 1 0 (by simp)
   have hr3 := o.tl.rc 7 0 (by simp)
   have hr2 := o.tl.tl.rc 6 0 (by simp);simp only [List.drop_zero] at hr2 hr3 hr4;rw [hr2,hr3,hr4];exact rets_ret ⟨j,f,p,rfl⟩ o.sub
  ·rw [dec_f hf];refine tt ?_;refine sw (o.pull [_,_]) fun H o => tt ?_;refine sw (o.pull [_,_,_]) fun H o => tt ?_;refine sw (o.pull [_,_,_,_]) fun H o => tt ?_
   have hr4 := o.rc 1 0 (by simp)
   have hr3 := o.tl.rc 7 0 (by simp)
   have hr2 := o.tl.tl.rc 6 0 (by simp);simp only [List.drop_zero] at hr2 hr3 hr4;rw [hr2,hr3,hr4];exact rets_ret ⟨j,f,[],rfl⟩ o.sub
theorem drawClose_ok (B : Nat) (code : List UInt8) : Rets B 54 [mL Go.AW.iB code] DrawTQ := by
 intro H0;refine c54 (by simp) fun _ => ?_;unfold s54
 have o : Owns H0 H0 [] := .nil _;refine tt ?_;refine nb o fun id2 H o => tt ?_;refine nb o fun id3 H o => tt ?_;refine newRef_own o fun id4 H o => tt ?_;refine (l27Placed_ok B code).go fun r _ ⟨j,f,p,e⟩ => ?_;subst e;refine tt ?_;refine sw (o.pull [_,_]) fun H o => tt ?_;refine sw (o.pull [_,_]) fun H o => tt ?_;refine sw (o.pull [_,_]) fun H o => tt ?_
 have hr4 := o.rc 1 0 (by simp)
 have hr3 := o.tl.rc 7 0 (by simp)
 have hr2 := o.tl.tl.rc 6 0 (by simp);simp only [List.drop_zero] at hr2 hr3 hr4;rw [hr2,hr3,hr4];exact rets_ret ⟨j,f,p,rfl⟩ o.sub
end Go.Proofs.Shf
namespace Go.Shf
open Go.AW
end Go.Shf
namespace Go.Proofs.Shf
open Go.AW Go.Proofs Go.Shf
end Go.Proofs.Shf
namespace Go.Shf
open Go.AW
@[go_sem] def clsCells (c : Cat) (S : List (List (List Int))) (sz : AV) (pl : AV) : List AV := [iI c.objs,iL c.frm,iL c.to,iL c.idn,iLL c.comp,sz,pl,iLLL S]
def Cov.mark (v : Cov) (x : Int) (s : List Int) : Bool := (ix v.marks x).getD (indexOf (ix v.sieves x) s).toNat default
end Go.Shf
namespace Go.Proofs.Shf
open Go.AW Go.Proofs Go.Shf
theorem number_ok (B : Nat) (c : Cat) (S : List (List (List Int))) (sz pl : AV) (x : Int) (hx : 0 ≤ x ∧ x.toNat < S.length) (s : List Int) : Pur Tryz.prog B 125 [.ptr (clsCells c S sz pl),.int .i64 x,iL s] (.int .i64 (indexOf (ix S x) s)) := by
 refine ⟨fun H0 => c125 (by simp) fun hfi => ?_⟩;unfold s125;refine tt ?_;refine ⟨hx, ?_⟩;refine (indexFunc_ok B (ix S x) 246 [.ptr [iL s]] (fun t => dec (s = t)) fun t _ => (same1_ok B s t).run).go fun _ => ?_;rw [findIdx_same];refine tt ?_;exact pure_ret rfl (.refl _)
theorem isM_ok (B : Nat) (v : Cov) (cnt : AV) (x : Int) (s : List Int) (hx : 0 ≤ x ∧ x.toNat < v.sieves.length) (hm : x.toNat < v.marks.length) (hs : s ∈ ix v.sieves x) (hl : (ix v.marks x).length = (ix v.sieves x).length) :
  Pur Tryz.prog B 260 [.ptr (v.cells cnt),.int .i64 x,iL s] (.bool (v.mark x s)) := by
 refine ⟨fun H0 => c260 (by simp) fun hfi => ?_⟩
 have hin := indexOf_in hs;unfold s260;refine tt ?_;refine ⟨⟨hx.1,hm⟩, ?_⟩;refine ⟨_,(number_ok B v.shape v.sieves (iL v.sizes) (iLL v.pulls) x hx s).run,tt ?_⟩;exact ⟨⟨hin.1,by omega⟩,pure_ret rfl (.refl _)⟩
def locP (v : Cov) (s t : List Int) : Prop := ∀ a,a ∈ t → v.mark (ix v.shape.to a) (pullS v.shape a s) = true
theorem locally_ok (B : Nat) (v : Cov) (hc : v.shape.Is) (cnt : AV) (s t : List Int) (x : Int) (hs : v.shape.Sieve x s) (ht : ∀ a,a ∈ t → 0 ≤ a ∧ a.toNat < v.shape.frm.length ∧ ix v.shape.frm a = x) (hsl : (v.sieves.length : Int) = v.shape.objs) (hml : v.marks.length = v.sieves.length)
  (hall : ∀ y : Int,0 ≤ y ∧ y < v.shape.objs → (ix v.marks y).length = (ix v.sieves y).length ∧ ∀ s,v.shape.Sieve y s → s ∈ ix v.sieves y) (htn : t.length ≤ 1000000) :
  Pur Tryz.prog B 392 [.ptr (v.cells cnt),iL s,iL t] (.bool (dec (locP v s t))) := by
 refine ⟨fun H0 => c392 (by simp) fun hfi => ?_⟩;unfold s392;refine tt ?_
 refine awp_for [0,1,9,10] (G := Unit) (fun k _ => [(11,some (.int .i64 (k : Int)))])
  (fun k _ H => H = H0 ∧ ∀ i,i < k → v.mark (ix v.shape.to (t.getD i default)) (pullS v.shape (t.getD i default) s) = true) t.length () ⟨rfl,by simp⟩ rfl ?_
 rintro k _ H hk ⟨rfl,hyes⟩;refine tt ?_;apply bk <;> intro h1
 ·have h1p := of_decide h1
  have w := wsucc (k := k) (by omega)
  have ha := ht _ (mem_getD.mpr ⟨k,h1p,rfl⟩)
  have hto := hc.1.toObj ha.2.1
  have htl := hc.1.tol;refine tt ?_;refine ⟨h1p,⟨ha.1,by omega⟩, ?_⟩
  generalize hav : t.getD k default = a at *;refine ⟨_,(pull_ok B v.shape hc.1 a ⟨ha.1,ha.2.1⟩ s).run, ?_⟩
  have hp := hall _ hto;refine ⟨_,(isM_ok B v cnt (ix v.shape.to a) (pullS v.shape a s) ⟨hto.1,by omega⟩ (by omega) (hp.2 _ ?_) hp.1).run, ?_⟩
  ·exact pullS_sieve hc ⟨ha.1,ha.2.1⟩ (by rw [ha.2.2]; exact hs)
  cases hmk : v.mark (ix v.shape.to a) (pullS v.shape a s) with
  | true =>
   refine tw w ?_;exact for_next () h1p ⟨rfl,lt_succ_all hyes (by rw [hav]; exact hmk)⟩ rfl
  | false =>
   refine tt ?_;refine pure_ret ?_ (.refl _);rw [dec_f]
   intro e
   have := e a (by rw [← hav]; exact mem_getD.mpr ⟨k,h1p,rfl⟩);rw [hmk] at this; cases this
 ·have h1p := of_ndecide h1;refine tt ?_;refine pure_ret ?_ (.refl _);rw [dec_t]
  intro a ha
  obtain ⟨i,hi,rfl⟩ := mem_getD.mp ha;exact hyes i (by omega)
end Go.Proofs.Shf
