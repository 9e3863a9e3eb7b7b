/- A part of a proof. -/
import Derived.Test.YtadpkiiglobmpaaGreatF10
import Derived.Deep.Slices
import Derived.SizedLaws
set_option linter.unusedVariables false
set_option linter.unusedSimpArgs false
set_option linter.unusedSectionVars false
open Nat (reduceEqDiff reduceAdd reduceMul reduceLeDiff reduceLT)
namespace Go.Proofs.Shf
open Go.AW Go.Proofs Go.Shf
end Go.Proofs.Shf
namespace Go.AW
end Go.AW
namespace Go.Proofs.Shf
open Go.AW Go.Proofs Go.Shf
end Go.Proofs.Shf
namespace Go.AW
def WN (P : AV → Prop) (a : AV) : Prop := (∃ al : List AV,a = .sl al ∧ ∀ x,x ∈ al → P x) ∨ ∃ n,1048576 < n ∧ n ≤ 140737488355328 ∧ a = .big n
def WB (a : AV) : Prop := (∃ l : List UInt8,a = mL iB l) ∨ ∃ n,1048576 < n ∧ n ≤ 140737488355328 ∧ a = .big n
end Go.AW
namespace Go.Proofs.Shf
open Go.AW Go.Proofs Go.Shf
open Go.Deep
def gh0 (W : World) : Gh := ⟨fun b o => W.cell? ⟨b,o,none⟩,fun _ => none,fun _ => none⟩
theorem wrel0 (W : World) : WRel (gh0 W) W.heap.size [] W where
 fz b o v h := h
 fm b es h := by cases h
 ob i o h := by simp [Heap.get] at h
 inj i j b c c' n h := by simp [Heap.get] at h
 injm i j b n h := by simp [Heap.get] at h
 base := Nat.le_refl _
 fin := ⟨0,fun i _ => rfl⟩
section
variable {H : Type} {enc : TypeId × Value → H} {W : World}
def RdV (enc : TypeId × Value → H) (W : World) (t : TypeId) (Q : AV → Prop) : Prop :=
 ∀ fuel v d ps,DataW.trod enc Tryz.prog W 0 (fun _ => true) true fuel t [v] = some (d,ps) → (∀ n,n ∈ d.weights Tryz.prog t → n ≤ reachBytes) → ∃ a,Q a ∧ VRel (gh0 W) a v
theorem rd_byte : RdV enc W 5 fun a => ∃ b : UInt8,a = Go.AW.iB b := by
 intro fuel v d ps h _
 cases fuel with
 | zero => simp [DataW.trod] at h
 | succ fuel =>
  cases v <;> simp only [DataW.trod,Tryz.underlying5] at h <;> try (cases h; done)
  rename_i k n
  split at h
  ·rename_i hk
   obtain ⟨rfl,hf⟩ := hk
   have hr : 0 ≤ n ∧ n ≤ 255 := by
    simp only [Lit.wf,Bool.and_eq_true,decide_eq_true_eq] at hf;exact ⟨hf.1,hf.2⟩
   refine ⟨_,⟨UInt8.ofNat n.toNat,rfl⟩, ?_⟩
   have e : Go.AW.iB (UInt8.ofNat n.toNat) = .int .u8 n := by
    have h1 : (UInt8.ofNat n.toNat).toNat = n.toNat := by rw [UInt8.toNat_ofNat']; omega
    rw [Go.AW.iB,h1,Int.toNat_of_nonneg hr.1]
   rw [e];exact .int _ n
  ·cases h
theorem weightsAll_mem {P : Program} {e : TypeId} {l : List (DataW H)} {x : DataW H} (hx : x ∈ l) {n : Nat} (hn : n ∈ x.weights P e) : n ∈ DataW.weightsAll P e l := by
 induction l with
 | nil => simp at hx
 | cons y r ih =>
  simp only [DataW.weightsAll,List.mem_append]
  rcases List.mem_cons.mp hx with rfl | hx
  ·exact .inl hn
  ·exact .inr (ih hx)
theorem rd_slice {t e : TypeId} {Q : AV → Prop} (ht : Tryz.prog.underlying t = some (.slice e)) (hc : Tryz.prog.cellsOf e = 1) (hb : 1 ≤ Tryz.prog.bytesOf e) (hQ : ∀ a,Q a → a.cells = [a]) (h : RdV enc W e Q) : RdV enc W t (WN Q) := by
 intro fuel v d ps htr hw
 rcases open_slice1 ht hc htr with ⟨hv,hx⟩ | ⟨a,len,cap,m,n,V,D,Pl,hv,_,hl,hm,hmm,hx,hel⟩
 ·injection hv with hv
  subst hv;exact ⟨.sl [],.inl ⟨[],rfl,by simp⟩,.slnil none 0⟩
 ·injection hv with hv
  subst hv;simp only [if_true] at hmm;subst hmm;simp only [Prod.mk.injEq] at hx
  obtain ⟨rfl,rfl⟩ := hx
  have hw0 : (((List.range len).map D).length + ((List.range (m - len)).map fun j => D (len + j)).length) * Tryz.prog.bytesOf e ≤ reachBytes := hw _ (by simp [DataW.weights,ht])
  have hlen : len ≤ 140737488355328 := by
   simp only [List.length_map,List.length_range] at hw0
   have h1 : len * 1 ≤ (len + (m - len)) * Tryz.prog.bytesOf e := Nat.mul_le_mul (by omega) hb
   have h2 : reachBytes ≤ 140737488355328 := by decide
   omega
  by_cases hbig : 1099511627776 < len
  ·exact ⟨.big len,.inr ⟨len,by omega,hlen,rfl⟩,.big _ _ _ hlen⟩
  ·have hall : ∀ i,∃ x,i < len → Q x ∧ VRel (gh0 W) x (V i) := by
    intro i
    by_cases hi : i < len
    ·obtain ⟨x,q1,q2⟩ := h n (V i) (D i) (Pl i) (hel i (by omega)).2 fun k hk => hw k (by
      simp only [DataW.weights,ht,List.mem_cons,List.mem_append];exact .inr (.inl (weightsAll_mem (List.mem_map.mpr ⟨i,List.mem_range.mpr hi,rfl⟩) hk)))
     exact ⟨x,fun _ => ⟨q1,q2⟩⟩
    ·exact ⟨.nilp,fun h => absurd h hi⟩
   obtain ⟨A,hA⟩ := Classical.axiomOfChoice hall
   have hget : ∀ i,i < len → ((List.range len).map A).getD i nv = A i := fun i hi => getD_map_range A nv hi;refine ⟨.sl ((List.range len).map A),.inl ⟨_,rfl,fun x hx => ?_⟩, ?_⟩
   ·obtain ⟨i,hi,rfl⟩ := List.mem_map.mp hx;exact (hA i (List.mem_range.mp hi)).1
   ·by_cases h0 : len = 0
    ·subst h0; exact .slnil _ _
    ·have hsp : a = ⟨a.block,a.off,none⟩ := by
      have := (hel 0 (by omega)).1
      obtain ⟨b,o,s⟩ := a
      cases s with
      | none => rfl
      | some s => exfalso; simp [Addr.add,World.cell?] at this; split at this <;> simp at this
     have hadd : ∀ i,a.add i = ⟨a.block,a.off + i,none⟩ := by
      intro i;rw [hsp];unfold Addr.add
      split
      ·rename_i e; simp [e]
      ·rfl
     have key : VRel (gh0 W) (.sl ((List.range len).map A)) (.slice (some ⟨a.block,a.off,none⟩) ((List.range len).map A).length m) := by
      refine .sl _ a.block a.off 1 m V (by simp [maxL]; omega) (by simp; omega) (fun i hi => ?_) (fun i j hi hj => ?_) (fun i j hi hj => ?_)
      ·rw [hget i (by simpa using hi),hQ _ (hA i (by simpa using hi)).1]; rfl
      ·have hi' : i < len := by simpa using hi
       have := (hel i (by omega)).1;rw [hadd] at this
       have e : i * 1 + j = i := by omega
       rw [e]; exact this
      ·have hi' : i < len := by simpa using hi
       have e : i * 1 + j = i := by omega
       obtain rfl : j = 0 := by omega
       rw [e,hget i hi',hQ _ (hA i hi').1];exact (hA i hi').2
     rw [List.length_map,List.length_range,← hsp] at key;exact key
theorem WB.of {a : AV} (h : WN (fun a => ∃ b : UInt8,a = Go.AW.iB b) a) : WB a := by
 rcases h with ⟨l,rfl,hl⟩ | h
 ·refine .inl ⟨l.map fun x => match x with | .int _ n => UInt8.ofNat n.toNat | _ => 0, ?_⟩
  rw [mL,List.map_map]
  congr 1
  have : ∀ x,x ∈ l → (Go.AW.iB ∘ fun x : AV => match x with | .int _ n => UInt8.ofNat n.toNat | _ => 0) x = x := fun x hx => by
   obtain ⟨n,rfl⟩ := hl x hx
   simp [Go.AW.iB]
  exact ((List.map_congr_left this).trans (by simp)).symm
 ·exact .inr h
theorem rd_bytes : ∀ fuel v d ps,DataW.trod enc Tryz.prog W 0 (fun _ => true) true fuel 22 [v] = some (d,ps) → (∀ n,n ∈ d.weights Tryz.prog 22 → n ≤ reachBytes) → ∃ a,WB a ∧ VRel (gh0 W) a v := fun fuel v d ps k w => by
 obtain ⟨a,q1,q2⟩ := rd_slice Tryz.underlying22 (by kernel_rfl) (of_decide_eq_true (by kernel_rfl)) (fun a ⟨n,e⟩ => by rw [e]; rfl) rd_byte fuel v d ps k w;exact ⟨a,WB.of q1,q2⟩
end
theorem big_big (B n : Nat) (hn : 1048576 < n) : Pur Tryz.prog B 10 [.big n] (.bool true) := by
 refine ⟨fun H0 => c10 (by simp) fun hf => ?_⟩;unfold s10;refine tt ?_;exact pure_ret (by congr 1; simp; omega) (.refl _)
end Go.Proofs.Shf
namespace Go.Proofs.Shf
open Go.AW Go.Proofs Go.Shf
def FoundOk2 (B : Nat) (f g : SF) (F : FuncId) (ca : List AV) (Fs Es : List (List (List Int)) → Ob → Prop) : Prop :=
 ∀ (p : List (List Int)) (A : List (List (List Int))) (X : AV) (q w l : Ob) (H0 H : Heap),PT f g p → OLL q X p → Fs A w → Owns H0 H (q ++ (w ++ l)) →
  CallH Tryz.prog B F ([X] ++ ca) H fun r H' => ∃ (b : Bool) (w' : Ob),r = .bool b ∧ (b = true → Fs (A ++ [p]) w') ∧ (b = false → Es (A ++ [p]) w') ∧ Owns H0 H' (q ++ (w' ++ l))
theorem run2_ok (B : Nat) {f g : SF} (hf : f.Is) (hg : g.Is) (sh : f.shape = g.shape) {F : FuncId} {ca : List AV} {Fs Es : List (List (List Int)) → Ob → Prop} (hF : FoundOk2 B f g F ca Fs Es) (idS : Nat) (X : AV) :
  ∀ (n : Nat) (p : List (List Int)),unsetT f p = n → PT f g p → ∀ (A : List (List (List Int))) (q w l : Ob) (H0 H : Heap),OLL q X p → Fs A w → Owns H0 H ((idS,srO f g X (.fn (.func F) ca)) :: (q ++ (w ++ l))) →
   CallH Tryz.prog B 272 [.ref idS 0] H fun r H' => ∃ (b : Bool) (q' w' : Ob) (M : List (List (List Int))),r = .bool b ∧ OLL q' X p ∧ Owns H0 H' ((idS,srO f g X (.fn (.func F) ca)) :: (q' ++ (w' ++ l))) ∧ M <+: allMp f g p ∧
    (b = true → Fs (A ++ M) w' ∧ M = allMp f g p) ∧ (b = false → Es (A ++ M) w') := by
 intro n
 induction n using Nat.strongRecOn with
 | _ n ih =>
 intro p hn hP A q w l H0 H hX hFs o;refine c272p (by simp) fun _ => ?_
 have hm := hf.1.is.1.m
 have hob := hf.1.is.1.o
 have hsl := hf.1.sl
 have hpl := hP.len
 have hz0 : ∀ x,x < f.sizes.length → 0 ≤ f.sizes.getD x default ∧ f.sizes.getD x default < 17 := fun x hx => hf.1.sz _ (mem_getD.mpr ⟨x,hx,rfl⟩)
 have hlenX := hX.lenT;unfold s272p;refine tt ?_;refine rd_cells o (by simp) ?_;refine tw hlenX ?_
 refine awp_for [0,15] (G := Unit) (fun k _ => [(16,some (.int .i64 (k : Int)))])
  (fun k _ H => (∀ y : Nat,y < k → indexOf (p.getD y default) (-1) < 0) ∧ Owns H0 H ((idS,srO f g X (.fn (.func F) ca)) :: (q ++ (w ++ l)))) p.length () ⟨by simp,o⟩ rfl ?_
 clear o
 rintro k _ H hk ⟨hno,o⟩
 have hgS : H.get idS = some (srO f g X (.fn (.func F) ca)) := o.h0;refine tt ?_;apply bk <;> intro h1
 rotate_left 1
 ·have h1p := of_ndecide h1
  obtain rfl : k = p.length := by omega
  refine tt ?_;refine rd_get hgS (by simp) ?_;refine tt ?_;refine rd_get hgS (by simp) ?_;refine tt ?_
  have o2 : Owns H0 H (q ++ (w ++ ((idS,srO f g X (.fn (.func F) ca)) :: l))) := o.pm;refine (hF p A X q w _ H0 H hP hX hFs o2).mono ?_
  rintro r H' ⟨b,w',rfl,hFs',hEs',o⟩;refine tt ?_
  have hfull := lists_full hf hP fun y i hy hi => noneLeft (hno y.toNat (by omega)) (hP.inT hf.1 hy hi).2
  have hfe := allMp_eq hf hg sh hP hfull;exact ⟨H',.refl _,b,q,w',[p],rfl,hX,(by simp only [srO,SF.cells] at o ⊢; exact o.pm),by rw [← hfe]; exact List.prefix_refl _,fun h => ⟨hFs' h,hfe⟩,hEs'⟩
 have h1p := of_decide h1
 have w1 := wsucc (k := k) (by omega)
 have hkl : k < f.sizes.length := by omega
 obtain ⟨idX,Xs,rfl,hXl,hgX,pr,hpr,hprg⟩ := tab_row hX (show Owns H0 H (q ++ ((idS,srO f g X (.fn (.func F) ca)) :: (w ++ l))) from o.pm) h1p;refine tt ?_;refine rd_get hgS (by simp) ?_;refine tt ?_;refine ⟨by omega,rd_get hgX (by omega) ?_⟩;refine tt ?_;refine CallH.lentPure (es := [iL (p.getD k default),.int .i64 (-1)]) (.int _ _) rfl (fun i hi => ?_) (index_ok B (p.getD k default) (-1)).run ?_
 ·obtain rfl | rfl : i = 0 ∨ i = 1 := by simp only [List.length_cons,List.length_nil] at hi; omega
  ·intro gg ww v hW hv;exact owL.ln pr _ _ hpr gg B H ww v hW hprg hv
  ·exact val_arg _
 have hib := indexOf_bd (p.getD k default) (-1);refine tt ?_;apply bk <;> intro h2
 ·have h2p := of_decide h2;refine tw w1 ?_;exact for_next () (by omega) ⟨lt_succ_all hno h2p,o⟩ rfl
 have h2p := of_ndecide h2
 obtain ⟨f1,f2,f3⟩ := indexOf_first (l := p.getD k default) (a := -1) (by omega)
 generalize hix : indexOf (p.getD k default) (-1) = e at *
 have hrow := hP.row k hkl
 have hzk := hz0 k hkl
 have hx : 0 ≤ (k : Int) ∧ (k : Int) < f.shape.objs := by omega
 have he : 0 ≤ e ∧ e < ix f.sizes (k : Int) := by rw [ix_nat]; omega
 have hpe : ix (ix p (k : Int)) e = -1 := by rw [ix_nat]; exact f2
 have hv : ∀ y i : Int,0 ≤ y ∧ y < f.shape.objs → 0 ≤ i ∧ i < ix f.sizes y → ix (ix p y) i = -1 ∨ 0 ≤ ix (ix p y) i := fun y i hy hi => (hP.val y i hy hi).imp id fun h => h.1
 have hfst : ∀ y i : Int,0 ≤ y ∧ y < f.shape.objs → 0 ≤ i ∧ i < ix f.sizes y → (y < (k : Int) ∨ (y = (k : Int) ∧ i < e)) → ix (ix p y) i ≠ -1 := by
  intro y i hy hi h
  rcases h with h | ⟨rfl,h⟩
  ·exact noneLeft (hno y.toNat (by omega)) (hP.inT hf.1 hy hi).2
  ·rw [ix_nat]; exact f3 i.toNat (by omega)
 have hFT : FstT f p k e := ⟨hx,he,hpe,hfst⟩
 have hgsl := hg.1.sl;rw [← sh] at hgsl
 have hgz : 0 ≤ ix g.sizes (k : Int) ∧ ix g.sizes (k : Int) < 17 := by rw [ix_nat]; exact hg.1.sz _ (mem_getD.mpr ⟨k,by omega,rfl⟩)
 have hgz2 := hgz;rw [ix_nat] at hgz2;refine tt ?_
 refine awp_for [0,3,4] (G := List (List (List Int)) × Ob × Ob) (fun d _ => [(5,some (.int .i64 (d : Int)))])
  (fun d G H => AccT f g p k e d G.1 ∧ OLL G.2.1 (.buf idX Xs.length) p ∧ Fs (A ++ G.1) G.2.2 ∧ Owns H0 H ((idS,srO f g (.buf idX Xs.length) (.fn (.func F) ca)) :: (G.2.1 ++ (G.2.2 ++ l)))) (g.sizes.getD k default).toNat ([],q,w) ⟨.zero hx he,hX,by rw [List.append_nil]; exact hFs,o⟩ rfl ?_
 clear o hX hFs hgS hgX hpr hprg hXl
 rintro d ⟨M,q,w⟩ H hd ⟨hM,hX,hFs,o⟩;dsimp only at hM hX hFs o;refine tt ?_;refine rd_cells o (by simp) ?_;refine tt ?_;refine ⟨by omega, ?_⟩;apply bk <;> intro h3
 rotate_left 1
 ·have h3p := of_ndecide h3;refine tt ?_
  have hdd : (d : Int) = ix g.sizes (k : Int) := by rw [ix_nat]; omega
  rw [hdd] at hM
  have hfe := allMp_eq hf hg sh hP (hM.done hx he);exact ⟨H,.refl _,true,q,w,M,rfl,hX,o,by rw [← hfe]; exact List.prefix_refl _,fun _ => ⟨hFs,hfe⟩,fun h => by cases h⟩
 have h3p := of_decide h3
 have w2 := wsucc (k := d) (by omega)
 have hat : At3 f g k e d := ⟨hf,hg,sh,hx,he,by rw [ix_nat]; omega⟩;refine tt ?_;refine newBuf_own o fun idB H o => tt ?_;refine newRef_own o fun idN H o => tt ?_;refine sw o fun H o => tt ?_
 have o2 : Owns H0 H ((idS,srO f g (.buf idX Xs.length) (.fn (.func F) ca)) :: (idN,.cells 1 [.buf idB 0] 0) :: (idB,.cells 2 [] 0) :: (q ++ (w ++ l))) := o.pm;refine (set_ok B hat hP hX o2).mono ?_;clear o o2 hX
 rintro r H ⟨ok,kk,p',N,q,idB,rfl,hX,o,hS,hkk,hok,hbad⟩;refine tt ?_
 have o : Owns H0 H ((idS,srO f g (.buf idX Xs.length) (.fn (.func F) ca)) :: (q ++ (w ++ ((idN,.cells 1 [.buf idB N.length] 0) :: (idB,.cells 2 (flat (N.map prE)) 0) :: l)))) := o.pm
 have hun := hS.undo
 have hNr : ∀ j,j < N.length → (0 ≤ (N.getD j default).1 ∧ (N.getD j default).1.toNat < p.length) ∧ (0 ≤ (N.getD j default).2 ∧ (N.getD j default).2.toNat < (ix p (N.getD j default).1).length) := fun j hj => by
  have := hS.old (N.getD j default).1 (N.getD j default).2 (mem_getD.mpr ⟨j,hj,rfl⟩);exact ⟨this.1,this.2.1⟩
 have hNl : N.length ≤ 40 := by
  have h1 := hS.nl
  have h2 : (outs f.shape (k : Int)).length ≤ 40 := by
   rw [outs,List.length_map];refine Nat.le_trans (List.length_filter_le _ _) ?_;rw [List.length_range]; omega
  omega
 have hpl' := hS.len
 have hrow' := hS.row
 cases ok
 case' true =>
  obtain rfl := hok rfl;refine tt ?_;refine (ih (unsetT f p') (by rw [← hn]; exact hS.less hat hP hpe) p' rfl (hS.pt hat hP) (A ++ M) q w _ H0 H hX hFs o).mono ?_;clear o hX hFs
  rintro r H ⟨b,q,w,M2,rfl,hX,o,hpre,hb1,hb2⟩
  have hLp := allMp_is hf hg sh (hS.pt hat hP)
  have hMn := hM.next hFT hP hsl hLp fun t => hS.ext hat hP t
  have hres : (b = true → ∃ M',Fs (A ++ M') w ∧ AccT f g p k e ((d : Int) + 1) M') ∧ (b = false → ∃ M',Es (A ++ M') w ∧ M' <+: allMp f g p) := ⟨fun h => by
   obtain ⟨h1,h2⟩ := hb1 h;rw [h2] at h1;exact ⟨M ++ allMp f g p',by rw [← List.append_assoc]; exact h1,hMn⟩,fun h => by
   have h1 := hb2 h;exact ⟨M ++ M2,by rw [← List.append_assoc]; exact h1,List.IsPrefix.trans ((List.prefix_append_right_inj M).mpr hpre) (hMn.pre hFT hP hsl (allMp_is hf hg sh hP))⟩⟩
  clear hb1 hb2 hpre hMn hLp;refine tt ?_
 case' false =>
  have hres0 : Fs (A ++ M) w ∧ AccT f g p k e ((d : Int) + 1) M := ⟨hFs,hM.none (hbad rfl)⟩;clear hFs;refine tt ?_
  obtain ⟨b,hb1,hb2⟩ : ∃ b : Bool,AV.bool true = AV.bool b ∧ b = true := ⟨true,rfl,rfl⟩
  have hres : (b = true → ∃ M',Fs (A ++ M') w ∧ AccT f g p k e ((d : Int) + 1) M') ∧ (b = false → ∃ M',Es (A ++ M') w ∧ M' <+: allMp f g p) := ⟨fun _ => ⟨M,hres0⟩,fun h => by rw [hb2] at h; cases h⟩;rw [hb1];clear hb1 hb2 hres0
 all_goals
  have hgN : H.get idN = some (.cells 1 [.buf idB N.length] 0) := o.get (idN,.cells 1 [.buf idB N.length] 0) (by simp);refine rd_get hgN (by simp) ?_;refine tt ?_
  refine awp_for [0,3,4,5,8,55,56] (G := Ob) (fun j _ => [(57,some (.int .i64 (j : Int)))])
   (fun j q H => OLL q (.buf idX Xs.length) (undoT p' (N.take j)) ∧ Owns H0 H ((idS,srO f g (.buf idX Xs.length) (.fn (.func F) ca)) :: (q ++ (w ++ ((idN,MObj.cells 1 [.buf idB N.length] 0) :: (idB,MObj.cells 2 (flat (N.map prE)) 0) :: l))))) N.length q ⟨hX,o⟩ rfl ?_
  clear o hX hgN
  rintro j q H hj ⟨hX,o⟩
  replace hX : OLL q (.buf idX Xs.length) (undoT p' (N.take j)) := hX
  replace o : Owns H0 H ((idS,srO f g (.buf idX Xs.length) (.fn (.func F) ca)) :: (q ++ (w ++ ((idN,.cells 1 [.buf idB N.length] 0) :: (idB,.cells 2 (flat (N.map prE)) 0) :: l)))) := o;refine tt ?_;apply bk <;> intro h4
  ·have h4p := of_decide h4
   have wj := wsucc (k := j) (by omega)
   have hr := hNr j h4p
   have hus := undoT_succ p' h4p
   have oB : Owns H0 H ((idB,.cells 2 (flat (N.map prE)) 0) :: ((idS,srO f g (.buf idX Xs.length) (.fn (.func F) ca)) :: (idN,.cells 1 [.buf idB N.length] 0) :: (q ++ (w ++ l)))) := o.pm;refine tt ?_;refine ⟨h4p,rd_elA (f := prE) oB h4p ?_⟩
   generalize N.getD j default = yy at *
   obtain ⟨y,i⟩ := yy;refine tt ?_;refine newRef_own o fun id10 H o => tt ?_;refine sw o fun H o => ?_
   have hpl2 : (undoT p' (N.take j)).length = p.length := by rw [undoT_len,hpl']
   have hrw : ((undoT p' (N.take j)).getD y.toNat default).length = (p.getD y.toNat default).length := by rw [undoT_row,hrow']
   have oc : Owns H0 H (q ++ ((id10,.cells 2 [iI y,iI i] 0) :: (idB,.cells 2 (flat (N.map prE)) 0) :: (idS,srO f g (.buf idX Xs.length) (.fn (.func F) ca)) :: (idN,.cells 1 [.buf idB N.length] 0) :: (w ++ l))) := o.pm
   obtain ⟨idX',Xs',idR,hXe,hXl,hgX,hXr,hgR,hset⟩ := tab_cell hX oc (y := y.toNat) (i := i.toNat) (by have := hr.1.2; omega) (by rw [hrw]; exact hr.2.2)
   obtain ⟨rfl,hXX⟩ := AV.buf.inj hXe
   have hgS : H.get idS = some (srO f g (.buf idX Xs.length) (.fn (.func F) ca)) := oc.get (idS,srO f g (.buf idX Xs.length) (.fn (.func F) ca)) (by simp)
   have hy2 := hr.1.2;refine tt ?_;refine rd_get hgS (by simp) ?_;refine tt ?_;refine rd_cells o (by simp) ?_;refine tt ?_;refine ⟨⟨hr.1.1,by omega⟩,rd_get hgX (by omega) ?_⟩;rw [hXr];refine tt ?_;refine rd_cells o (by simp) ?_;refine tt ?_;refine ⟨⟨hr.2.1,by rw [hrw]; exact hr.2.2⟩,hset _ _ fun q' H hX' o => ?_⟩;refine tw wj ?_;refine for_next q' (by omega) ⟨by rw [hus]; exact hX', ?_⟩ rfl
   have o := o.perm (show _ from List.perm_middle)
   have o3 := o.tl;simp only [srO,SF.cells] at o3 ⊢;exact o3.pm
  ·have h4p := of_ndecide h4
   obtain rfl : j = N.length := by omega
   rw [List.take_length,hun] at hX
   have o := o.subl (l' := (idS,srO f g (.buf idX Xs.length) (.fn (.func F) ca)) :: (q ++ (w ++ l))) (.cons_cons _ (List.Sublist.append_left (List.Sublist.append_left ((List.sublist_cons_self _ _).trans (List.sublist_cons_self _ _)) _) _));refine tt ?_
   cases b
   ·obtain ⟨M',h1,h2⟩ := hres.2 rfl;refine tt ?_;exact ⟨H,.refl _,false,q,w,M',rfl,hX,o,h2,(fun h => by cases h),fun _ => h1⟩
   ·obtain ⟨M',hFs,hM'⟩ := hres.1 rfl;refine tw w2 ?_;exact for_next (M',q,w) (by omega) ⟨by rw [Int.natCast_succ]; exact hM',hX,hFs,o⟩ rfl
end Go.Proofs.Shf
namespace Go.Shf
open Go.AW
end Go.Shf
namespace Go.Proofs.Shf
open Go.AW Go.Proofs Go.Shf
theorem elems_ok (B : Nat) (f : SF) (hl : f.sizes.length ≤ 8) (hz : ∀ y,y ∈ f.sizes → 0 ≤ y ∧ y < 17) : Pur Tryz.prog B 73 [.ptr f.cells] (iI f.sizes.sum) := by
 refine ⟨fun H0 => c73p (by simp) fun _ => ?_⟩;unfold s73p;refine tt ?_;refine awp_for [9,10] (G := Unit) (fun k _ => [(3,some (.int .i64 (f.sizes.take k).sum)),(11,some (.int .i64 (k : Int)))]) (fun k _ H => H = H0 ∧ 0 ≤ (f.sizes.take k).sum ∧ (f.sizes.take k).sum ≤ 17 * k) f.sizes.length () ⟨rfl,by simp,by simp⟩ rfl ?_
 rintro k _ H hk ⟨rfl,hs⟩;refine tt ?_;apply bk <;> intro h1
 ·have h1 := of_decide h1
  have w1 := wsucc (k := k) (by omega)
  have hsz := hz _ (mem_getD.mpr ⟨k,h1,rfl⟩)
  have e : (f.sizes.take (k + 1)).sum = (f.sizes.take k).sum + f.sizes.getD k default := by rw [take_succ' _ h1]; simp
  have w2 : IntKind.i64.wrap ((f.sizes.take k).sum + f.sizes.getD k default) = (f.sizes.take (k + 1)).sum := by rw [wrap_i64 (by omega) (by omega),e]
  refine tt ?_;refine ⟨h1, ?_⟩;try simp only [go_sem,↓reduceIte,reduceEqDiff,reduceAdd,reduceMul,reduceLeDiff,reduceLT,w1,w2]
  exact for_next () (by omega) ⟨rfl,by omega,by omega⟩ rfl
 ·have h1 := of_ndecide h1
  obtain rfl : k = f.sizes.length := by omega
  refine tt ?_;exact pure_ret (by rw [List.take_length]) (.refl _)
def OutE (most idO : Nat) (A : List (List (List Int))) (w : Ob) : Prop := OutG idO A w ∧ most < A.length
theorem foundAll2_ok (B : Nat) (f g : SF) (most : Nat) (hmost : most ≤ 1048576) (idO : Nat) : FoundOk2 B f g 169 [.ref idO 0,.ptr [.int .i64 most]] (OutF most idO) (OutE most idO) := by
 intro p A X q w l H0 H hP hX hFs o
 obtain ⟨⟨Y,pw,rfl,hY⟩,hA⟩ := hFs;refine c169p (by simp) fun _ => ?_;unfold s169p;refine tt ?_
 have hgO : H.get idO = some (.cells 1 [Y] 0) := o.get (idO,.cells 1 [Y] 0) (by simp);refine rd_get hgO (by simp) ?_;refine tt ?_;refine New.lentQ owLL (clonesN B p) rfl (fun i hi => ?_) fun H' hs => ⟨hs, ?_⟩
 ·obtain rfl : i = 0 := by simp only [List.length_cons,List.length_nil] at hi; omega
  exact owLL.arg hX o fun x hx => List.mem_append_left _ hx
 have o := o.ext hs
 have oY : Owns H0 H' (pw ++ ((idO,.cells 1 [Y] 0) :: (q ++ l))) := o.pm;refine tt ?_;refine (LsO.mk oY hY).app p rfl (by simp only [maxL]; omega) fun idn H o => tt ?_;refine sw o.swap fun H o => tt ?_;refine rd_cells o (by simp) ?_;refine tt ?_
 have hg : OutG idO (A ++ [p]) [(idO,.cells 1 [.buf idn (A ++ [p]).length] 0),(idn,.cells 1 ((A ++ [p]).map iLL) 0)] := ⟨_,_,rfl,.inr ⟨idn,rfl,rfl⟩⟩;refine ⟨H,.refl H,_,_,rfl,fun hb => ⟨hg, ?_⟩,fun hb => ⟨hg, ?_⟩,o.pm⟩
 ·exact of_decide_eq_true hb
 ·exact Nat.lt_of_not_le (of_decide_eq_false hb)
theorem setMaps2_ok (B : Nat) {f g : SF} (hf : f.Is) (hg : g.Is) (sh : f.shape = g.shape) {F : FuncId} {ca : List AV} {Fs Es : List (List (List Int)) → Ob → Prop} (hF : FoundOk2 B f g F ca Fs Es) (A : List (List (List Int))) (w l : Ob) (H0 H : Heap) (hFs : Fs A w) (o : Owns H0 H (w ++ l)) :
  CallH Tryz.prog B 168 [.ptr f.cells,.ptr g.cells,.bool false,.fn (.func F) ca] H fun r H' => ∃ (b : Bool) (w' : Ob) (M : List (List (List Int))),r = .bool b ∧ Owns H0 H' (w' ++ l) ∧ M <+: allMp f g (blankT f) ∧
   (b = true → Fs (A ++ M) w' ∧ M = allMp f g (blankT f)) ∧ (b = false → Es (A ++ M) w') := by
 refine c168p (by simp) fun _ => ?_
 have hob := hf.1.is.1.o
 have hsl := hf.1.sl
 have hz0 : ∀ x,x < f.sizes.length → 0 ≤ f.sizes.getD x default ∧ f.sizes.getD x default < 17 := fun x hx => hf.1.sz _ (mem_getD.mpr ⟨x,hx,rfl⟩);unfold s168p
 have hfc : (AV.fn (.func F) ca).cells = [.fn (.func F) ca] := rfl;try simp only [go_sem,↓reduceIte,reduceEqDiff,reduceAdd,reduceMul,reduceLeDiff,reduceLT,hfc,wr_cons,wr_nil,List.set_cons_zero,List.set_cons_succ]
 refine newRef_own o fun idS H o => tt ?_
 refine awp_for [9,21,22] (G := AV × Ob) (fun k _ => [(23,some (.int .i64 (k : Int)))])
  (fun k G H => OLL G.2 G.1 ((blankT f).take k) ∧ Owns H0 H ((idS,srO f g G.1 (.fn (.func F) ca)) :: (G.2 ++ (w ++ l)))) f.sizes.length (.nilsl,[]) ⟨.inl ⟨rfl,rfl,rfl⟩,o⟩ rfl ?_
 clear o
 rintro k ⟨X,q⟩ H hk ⟨hX,o⟩;dsimp only at hX o;refine tt ?_;apply bk <;> intro h1
 ·have h1p := of_decide h1
  have w1 := wsucc (k := k) (by omega)
  have hzk := hz0 k h1p
  obtain ⟨n,hn⟩ : ∃ n : Nat,f.sizes.getD k default = n := ⟨_,(Int.toNat_of_nonneg hzk.1).symm⟩;rw [hn] at hzk;refine tt ?_;refine ⟨h1p, ?_⟩;refine rd_cells o (by simp) ?_;rw [hn];refine tt ?_;refine (repeated_own B (-1) n (by omega) H H [] (.nil H)).mono ?_
  rintro r H2 ⟨idr,R,rfl,or,rfl⟩;refine ⟨or.sub, ?_⟩
  have o := o.trans or
  have o2 : Owns H0 H2 ([(idr,.cells 1 ((List.replicate n (-1 : Int)).map iI) 0)] ++ (q ++ ((idS,srO f g X (.fn (.func F) ca)) :: (w ++ l)))) := o.pm;refine tt ?_;refine hX.appT (O := OL) (p := [(idr,.cells 1 ((List.replicate n (-1 : Int)).map iI) 0)]) (a := List.replicate n (-1)) (.inr ⟨idr,_,[],rfl,by simp,rowsIT _⟩) ⟨rfl,rfl⟩ o2 (by rw [List.length_take]; simp only [maxL]; omega) fun X' q' H hX1 hX' o => ?_
  have o3 : Owns H0 H ((idS,srO f g X (.fn (.func F) ca)) :: (q' ++ (w ++ l))) := o.pm;rw [← blank_take f h1p hn] at hX';try simp only [go_sem,↓reduceIte,reduceEqDiff,reduceAdd,reduceMul,reduceLeDiff,reduceLT,AV.cells_one hX1]
  refine st_cells o3 (by simp) rfl (by simp only [memcons,memnil]; exact ⟨hX1,trivial⟩) fun H o => ?_;simp only [wr_cons,wr_nil,List.set_cons_zero,List.set_cons_succ] at o;refine tw w1 ?_;exact for_next (X',q') (by omega) ⟨hX',o⟩ rfl
 ·have h1p := of_ndecide h1
  have hkk : k = f.sizes.length := by omega
  rw [hkk,List.take_of_length_le (by simp [blankT])] at hX;refine tt ?_;refine (run2_ok B hf hg sh hF idS X _ (blankT f) rfl (blank_pt hf.1) A q w l H0 H hX hFs o).mono ?_
  rintro r H' ⟨b,q',w',M,rfl,hX',o,hpre,hb⟩;refine tt ?_;exact ⟨H',.refl _,b,w',M,rfl,o.subl ((List.sublist_append_right _ _).trans (List.sublist_cons_self _ _)),hpre,hb⟩
def Maps2Q (f g : SF) (most : Nat) (r : AV) : Prop := ∃ (L : List (List (List Int))) (b : Bool),r = .tup [iLLL L,.bool b] ∧ (b = true → L = allMp f g (blankT f) ∧ L.length ≤ most) ∧ (b = false → most < (allMp f g (blankT f)).length)
theorem allSetMaps2P_ok (B : Nat) {f g : SF} (hf : f.Is) (hg : g.Is) (sh : f.shape = g.shape) (most : Nat) (hmost : most ≤ 1048576) : Rets B 74 [.ptr f.cells,.ptr g.cells,.int .i64 most] (Maps2Q f g most) := by
 intro H0;refine c74p (by simp) fun _ => ?_;unfold s74p
 have o : Owns H0 H0 [] := .nil _;refine tt ?_;refine newBuf_own o fun idE H o => tt ?_;refine newRef_own o fun idO H o => tt ?_;refine sw o fun H o => tt ?_
 have hFs : OutF most idO [] [(idO,.cells 1 [.buf idE 0] 0),(idE,.cells 1 [] 0)] := ⟨⟨.buf idE 0,[(idE,.cells 1 [] 0)],rfl,.inr ⟨idE,rfl,rfl⟩⟩,Nat.zero_le _⟩;refine (setMaps2_ok B hf hg sh (foundAll2_ok B f g most hmost idO) [] _ [] H0 H hFs o).mono ?_;clear o hFs
 rintro r H ⟨b,w,L,rfl,o,hpre,hb1,hb2⟩;rw [List.nil_append] at hb1 hb2
 have hq : (b = true → L = allMp f g (blankT f) ∧ L.length ≤ most) ∧ (b = false → most < (allMp f g (blankT f)).length) := ⟨fun h => ⟨(hb1 h).2,(hb1 h).1.2⟩,fun h => Nat.lt_of_lt_of_le (hb2 h).2 hpre.length_le⟩
 obtain ⟨Y,p,rfl,hY⟩ : OutG idO L w := by
  cases b
  ·exact (hb2 rfl).1
  ·exact (hb1 rfl).1.1
 clear hb1 hb2;refine tt ?_;refine rd_cells (show Owns H0 H ((idO,.cells 1 [Y] 0) :: (p ++ [])) from o) (by simp) ?_;refine tt ?_
 have ob := o.sub
 rcases hY with ⟨rfl,rfl,rfl⟩ | ⟨idn,rfl,rfl⟩
 ·refine tt ?_;exact rets_ret ⟨[],b,rfl,hq⟩ ob
 ·refine fz_own (f := iLL) (show Owns H0 H ((idn,.cells 1 (L.map iLL) 0) :: [(idO,.cells 1 [.buf idn L.length] 0)]) from o.swap) rfl fun H o => tt ?_;exact rets_ret ⟨L,b,rfl,hq⟩ o.sub
def AllM2Q (f g : SF) (r : AV) : Prop := ∃ (L : List (List (List Int))) (k : Int),r = .tup [iLLL L,iI k] ∧ ((k = 0 ∧ L = allMp f g (blankT f) ∧ L.length ≤ 200 ∧ f.sizes.sum ≤ 12) ∨ (k = 3 ∧ L = [] ∧ (12 < f.sizes.sum ∨ 200 < (allMp f g (blankT f)).length)))
theorem allSetMaps2_ok (B : Nat) {f g : SF} (hf : f.Is) (hg : g.Is) (sh : f.shape = g.shape) : Rets B 17 [.agg f.cells,.agg g.cells] (AllM2Q f g) := by
 intro H0;refine c17 (by simp) fun _ => ?_
 have hob := hf.1.is.1.o
 have hsl := hf.1.sl;unfold s17;refine tt ?_;refine (setsCode_ok B hf hg sh).go fun _ => ?_;refine td ?_;refine (elems_ok B f (by omega) fun y hy => hf.1.sz y hy).go fun _ => tt ?_;apply bk <;> intro h1
 ·have h1p := of_decide h1;refine tt ?_;exact rets_ret ⟨[],3,rfl,.inr ⟨rfl,rfl,.inl (by omega)⟩⟩ (.refl _)
 have hsum : f.sizes.sum ≤ 12 := by have := of_ndecide h1; omega
 refine tt ?_;refine (allSetMaps2P_ok B hf hg sh 200 (by omega)).go fun r _ ⟨L,b,e,hb1,hb2⟩ => ?_;subst e;refine tt ?_
 cases b
 ·refine tt ?_;exact rets_ret ⟨[],3,rfl,.inr ⟨rfl,rfl,.inr (hb2 rfl)⟩⟩ (.refl _)
 ·refine tt ?_;exact rets_ret ⟨L,0,rfl,.inl ⟨rfl,(hb1 rfl).1,(hb1 rfl).2,hsum⟩⟩ (.refl _)
end Go.Proofs.Shf
namespace Go.AW
theorem LsR.rows {Xs : List AV} {T : List (List Int)} {ob : Ob} (h : LsR iI Xs T ob) : RowsG OL Xs T ob := by
 induction h with
 | nil => exact .nil
 | @cons p o X Xs A As h t ih =>
  refine .cons ?_ ih
  rcases h with ⟨rfl,rfl,rfl⟩ | ⟨id,rfl,rfl⟩
  ·exact .inl ⟨rfl,rfl,rfl⟩
  ·exact .inr ⟨id,_,[],rfl,by simp,rowsIT _⟩
theorem RowsG.lsr {Xs : List AV} {T : List (List Int)} {ob : Ob} (h : RowsG OL Xs T ob) : LsR iI Xs T ob := by
 induction h with
 | nil => exact .nil
 | @cons p o X Xs A As h t ih =>
  refine LsR.cons ?_ ih
  rcases h with ⟨rfl,rfl,rfl⟩ | ⟨id,Ys,r,rfl,rfl,hr⟩
  ·exact .inl ⟨rfl,rfl,rfl⟩
  ·obtain ⟨rfl,rfl⟩ := hr.intsT;exact .inr ⟨id,rfl,by simp⟩
theorem wk_tab {F : Env → Heap → Prop} {σ : Env} {H0 H : Heap} {l q : Ob} {id n : Nat} {T : List (List Int)} (h : OLL q (.buf id n) T) (o : Owns H0 H (q ++ l))
  (hk : ∀ H',n = T.length → Owns H0 H' ((id,.cells 1 (T.map iL) 0) :: l) → wkW F σ H') : wkW F σ H := by
 rcases h with ⟨_,h,_⟩ | ⟨id2,Xs,ob,rfl,hX,hr⟩
 ·cases h
 ·obtain ⟨rfl,rfl⟩ := AV.buf.inj hX;exact wk_rows hr.lsr [] H o fun H' o' => hk H' hr.len o'
end Go.AW
namespace Go.Shf
theorem set_getD_any {α : Type} [Inhabited α] (A : List α) (i : Nat) : A.set i (A.getD i default) = A := by
 apply List.ext_getElem?
 intro j
 by_cases e : i = j
 ·subst e
  by_cases h : i < A.length
  ·simp [List.getD_eq_getElem?_getD,h]
  ·rw [List.getElem?_eq_none (by simp; omega),List.getElem?_eq_none (by omega)]
 ·rw [List.getElem?_set_ne e]
theorem setT_same {p : List (List Int)} {y i v : Int} (h : Go.AW.ix (Go.AW.ix p y) i = v) : setT p y i v = p := by
 have e : (Go.AW.ix p y).set i.toNat v = Go.AW.ix p y := by rw [← h]; exact set_getD_any _ _
 rw [setT,e]; exact set_getD_any _ _
end Go.Shf
namespace Go.Proofs.Shf
open Go.AW Go.Proofs Go.Shf
@[go_sem] def sgO (f g : SF) (m : Int) (X : AV) : MObj := .cells 17 [iI f.shape.objs,iL f.shape.frm,iL f.shape.to,iL f.shape.idn,iLL f.shape.comp,iL f.sizes,iLL f.acts,
 iI g.shape.objs,iL g.shape.frm,iL g.shape.to,iL g.shape.idn,iLL g.shape.comp,iL g.sizes,iLL g.acts,.bool false,iI m,X] 0
def SetQ (f g : SF) (p : List (List Int)) (x e d : Int) (r : AV) : Prop := ∃ (ok : Bool) (p' : List (List Int)),r = .tup [iLL p',.bool ok] ∧ (ok = true → ∃ N,SetM f g p x e d (outs f.shape x).length p' N) ∧ (ok = false → ¬ okS f g p x e d)
theorem gset_ok (B : Nat) {f g : SF} {x e d m : Int} (w : At3 f g x e d) {p : List (List Int)} (hP : PT f g p) {idS : Nat} {X : AV} {l : Ob} {H0 H : Heap}
  (o : Owns H0 H ((idS,sgO f g m X) :: l)) :
  CallH Tryz.prog B 280 [.ref idS 0,iLL p,iI x,iI e,iI d] H fun r H' => SetQ f g p x e d r ∧ Owns H0 H' ((idS,sgO f g m X) :: l) := by
 refine c280p (by simp) fun _ => ?_
 have hm := w.hf.1.is.1.m
 have hob := w.hf.1.is.1.o
 have htl := w.hf.1.is.1.tol
 have hal := w.hf.1.al
 have hgal : g.acts.length = f.shape.frm.length := by have := w.hg.1.al; rw [← w.sh] at this; exact this
 unfold s280p;refine tt ?_;refine (l01Own2_own B p H0 H _ o).mono ?_;clear o
 rintro r H ⟨idX,Xs,ob,rfl,hob2,o⟩
 have hX0 : OLL ((idX,.cells 1 Xs 0) :: ob) (.buf idX Xs.length) p := .inr ⟨idX,Xs,ob,rfl,rfl,hob2.rows⟩
 have hlX := hob2.len
 generalize hn0 : Xs.length = nX at *;clear hob2;refine tt ?_
 refine awp_for [0,2,3,4,12] (G := List (List Int) × List (Int × Int) × Ob) (fun a _ => [(13,some (.int .i64 (a : Int)))])
  (fun a G H => OLL G.2.2 (.buf idX nX) G.1 ∧ SetM f g p x e d (outK f.shape x a) G.1 G.2.1 ∧ Owns H0 H ((idS,sgO f g m X) :: (G.2.2 ++ l))) f.shape.frm.length (p,[],(idX,.cells 1 Xs 0) :: ob) ⟨hX0,.zero f g p x e d,o.pm⟩ rfl ?_
 clear o hX0
 rintro a ⟨p',N,q⟩ H ha ⟨hX,hS,o⟩;dsimp only at hX hS o
 have hgS : H.get idS = some (sgO f g m X) := o.h0;refine tt ?_;refine rd_get hgS (by simp) ?_;refine tt ?_;apply bk <;> intro h1
 ·have h1p : a < f.shape.frm.length := by have := of_decide h1; omega
  have w1 := wsucc (k := a) (by omega);refine tt ?_;refine rd_get hgS (by simp) ?_;refine tt ?_;refine ⟨by omega, ?_⟩;apply bk <;> intro h2
  ·have h2p := dd h2
   have hsu : outK f.shape x (a + 1) = outK f.shape x a := by rw [outK_succ,if_neg (by simpa using h2p)]
   refine tw w1 ?_;exact for_next (p',N,q) (by omega) ⟨hX,by rw [hsu]; exact hS,o⟩ rfl
  ·have h2p := dd h2
   have h2q : f.shape.frm.getD a default = x := by simpa using h2p
   have hsu : outK f.shape x (a + 1) = outK f.shape x a + 1 := by rw [outK_succ,if_pos h2q]
   have hfa := filt_at (P := fun i => decide (f.shape.frm.getD i default = x)) h1p (decide_eq_true h2q)
   have hkl : outK f.shape x a < (outs f.shape x).length := by rw [outs,List.length_map]; exact hfa.2
   have ea : (outs f.shape x).getD (outK f.shape x a) default = (a : Int) := by
    rw [outs,show outK f.shape x a = ((List.range a).filter fun i => decide (f.shape.frm.getD i default = x)).length from rfl,map_getD _ hfa.2]; exact congrArg Int.ofNat hfa.1
   have hA := w.arr (b := (a : Int)) (mem_getD.mpr ⟨_,hkl,ea⟩)
   have hin := hP.inT w.hf.1 hA.2.2.1 hA.2.2.2.1
   have hfin := w.hf.1.inAct hA.1 (e := e) (by rw [hA.2.1]; exact w.he)
   have hgin := w.hg.1.inAct (a := (a : Int)) (e := d) (by rw [← w.sh]; exact hA.1) (by rw [← w.sh,hA.2.1]; exact w.hd);simp only [ix_nat] at hA hin hfin hgin
   have hto := hA.2.2.1
   have hac := hA.2.2.2.1
   have hgc := hA.2.2.2.2
   have hp1 : (f.shape.to.getD a default).toNat < p'.length := by rw [hS.len]; exact hin.1.2
   have hp2 : (ix (f.acts.getD a default) e).toNat < (p'.getD (f.shape.to.getD a default).toNat default).length := by rw [hS.row]; exact hin.2.2
   have o1 : Owns H0 H (q ++ ((idS,sgO f g m X) :: l)) := o.pm
   obtain ⟨idX',Xs',idR,hXe,hXl,hgX,hXr,hgR,hset⟩ := tab_cell hX o1 hp1 hp2
   obtain ⟨rfl,hnX⟩ := AV.buf.inj hXe
   have hfin2 := hfin.2
   have hgin2 := hgin.2;refine tt ?_;refine rd_get hgS (by simp) ?_;refine tt ?_;refine ⟨by omega,rd_get hgS (by simp) ?_⟩;refine tt ?_;refine ⟨by omega,tt ?_⟩;refine ⟨hfin,rd_get hgS (by simp) ?_⟩;refine tt ?_;refine ⟨by omega,tt ?_⟩;refine ⟨hgin, ?_⟩
   have eT : ix f.shape.to (a : Int) = f.shape.to.getD a default := by rw [ix_nat]
   have eA : ix f.acts (a : Int) = f.acts.getD a default := by rw [ix_nat]
   have eG : ix g.acts (a : Int) = g.acts.getD a default := by rw [ix_nat]
   have hfr := fun h => hS.fresh w hP hkl ea h
   have hsm := fun h => hS.same hkl ea h
   have hbd := fun h h2 => hS.bad3 w hkl ea h h2;rw [eT,eA,eG] at hfr hsm hbd
   generalize f.shape.to.getD a default = y at *
   generalize ix (f.acts.getD a default) e = i at *
   generalize ix (g.acts.getD a default) d = v at *
   have eV : (p'.getD y.toNat default).getD i.toNat default = ix (ix p' y) i := rfl;refine tt ?_;refine ⟨⟨hto.1,by omega⟩,rd_get hgX (by omega) ?_⟩;rw [hXr];refine tt ?_;refine ⟨⟨hac.1,hp2⟩,rd_inner (f := iI) hgR hp2 ?_⟩;rw [eV];refine tt ?_
   have hst : ∀ (K : Kont),(∀ q' H',OLL q' (.buf idX nX) (setT p' y i v) → Owns H0 H' (q' ++ ((idS,sgO f g m X) :: l)) → K nv H') → st1 (H.get idR) idR i.toNat 1 [iI v] K H := fun K hk => hset v K hk
   by_cases h3 : 0 ≤ ix (ix p' y) i
   ·rw [decide_eq_true h3];refine tt ?_;refine ⟨⟨hto.1,by omega⟩,rd_get hgX (by omega) ?_⟩;rw [hXr];refine tt ?_;refine ⟨⟨hac.1,hp2⟩,rd_inner (f := iI) hgR hp2 ?_⟩;rw [eV];refine tt ?_
    by_cases h4 : ix (ix p' y) i = v
    ·rw [decide_eq_true h4];refine tt ?_;refine rd_get hgS (by simp) ?_;refine tt ?_;refine ⟨⟨hto.1,by omega⟩,rd_get hgX (by omega) ?_⟩;rw [hXr];refine tt ?_;refine ⟨⟨hac.1,hp2⟩,hst _ fun q' H hX' o => ?_⟩;rw [setT_same h4] at hX';refine tw w1 ?_;exact for_next (p',N,q') (by omega) ⟨hX',by rw [hsu]; exact hsm h4,(by simp only [sgO] at o ⊢; exact o.pm)⟩ rfl
    ·rw [decide_eq_false h4];refine tt ?_;exact ⟨H,.refl H,⟨false,[],rfl,(fun h => by cases h),fun _ => hbd h3 h4⟩,(show Owns H0 H ((idS,sgO f g m X) :: l) from o.subl (List.Sublist.cons_cons _ (List.sublist_append_right _ _)))⟩
   ·rw [decide_eq_false h3];refine tt ?_;refine rd_get hgS (by simp) ?_;refine tt ?_;refine ⟨⟨hto.1,by omega⟩,rd_get hgX (by omega) ?_⟩;rw [hXr];refine tt ?_;refine ⟨⟨hac.1,hp2⟩,hst _ fun q' H hX' o => ?_⟩;refine tw w1 ?_;exact for_next (_,N ++ [(y,i)],q') (by omega) ⟨hX',by rw [hsu]; exact hfr h3,(by simp only [sgO] at o ⊢; exact o.pm)⟩ rfl
 ·have h1p := of_ndecide h1
  have eL : f.shape.frm.length = (f.acts.length) := by omega
  have h2p : a = f.shape.frm.length := by omega
  have hfull : outK f.shape x a = (outs f.shape x).length := by rw [h2p,outs,List.length_map]; rfl
  rw [hfull] at hS;refine tt ?_;refine wk_tab hX (o.pm : Owns H0 H (q ++ ((idS,sgO f g m X) :: l))) fun H hl o => wkW_done ?_;refine tt ?_;refine fz_own o hl fun H o => tt ?_;exact ⟨H,.refl H,⟨true,p',rfl,fun _ => ⟨N,hS⟩,fun h => by cases h⟩,o⟩
theorem gcho_ok (B : Nat) {f g : SF} {x e m : Int} (hf : f.Is) (hg : g.Is) (sh : f.shape = g.shape) (hx : 0 ≤ x ∧ x < f.shape.objs) (he : 0 ≤ e ∧ e < ix f.sizes x) {p : List (List Int)} (hP : PT f g p) {idS : Nat} {X : AV} {l : Ob} {H0 H : Heap}
  (o : Owns H0 H ((idS,sgO f g m X) :: l)) :
  CallH Tryz.prog B 279 [.ref idS 0,iLL p,iI x,iI e] H fun r H' => r = iL (choT f g p x e (ix g.sizes x).toNat) ∧ Owns H0 H' ((idS,sgO f g m X) :: l) := by
 refine c279 (by simp) fun _ => ?_
 have hX := hg.1.inX (x := x) (by rw [← sh]; exact hx)
 have h0 := hg.1.sz _ (ix_mem hX.2)
 obtain ⟨n,hn⟩ : ∃ n : Nat,ix g.sizes x = n := ⟨_,(Int.toNat_of_nonneg h0.1).symm⟩;rw [hn] at h0;rw [hn,Int.toNat_natCast];unfold s279;refine tt ?_;refine new_list iI o fun id H o => tt ?_
 refine awp_for [0,1,2,3] (G := Nat × List Int) (fun k g => [(9,some (.buf g.1 g.2.length)),(10,some (.int .i64 (k : Int)))])
  (fun k G H => G.2 = choT f g p x e k ∧ Owns H0 H ((G.1,.cells 1 (G.2.map iI) 0) :: (idS,sgO f g m X) :: l)) n (id,[]) ⟨by simp [choT],o⟩ rfl ?_
 clear o
 rintro k ⟨id,out⟩ H hk ⟨hout,o⟩;dsimp only at hout o
 have hgS : H.get idS = some (sgO f g m X) := o.tl.h0
 have hol := choT_len (f := f) (g := g) (p := p) (x := x) (e := e) k;rw [← hout] at hol;refine tt ?_;refine rd_get hgS (by simp) ?_;refine tt ?_;refine ⟨hX, ?_⟩;rw [hn];refine tt ?_;apply bk <;> intro h1
 ·have h1p : k < n := by have := of_decide h1; omega
  have w1 := wsucc (k := k) (by omega);refine tt ?_;refine (gset_ok B (d := (k : Int)) ⟨hf,hg,sh,hx,he,by omega,by omega⟩ hP o.swap).mono ?_;clear o
  rintro r H ⟨⟨ok,p',rfl,ht,hno⟩,o⟩;refine tt ?_
  cases ok with
  | true =>
   obtain ⟨N,hS⟩ := ht rfl;refine tt ?_;refine app_own (k : Int) o.swap rfl rfl (by simp only [maxL]; omega) fun z H o => ?_;refine tw w1 ?_;exact for_next (z,out ++ [(k : Int)]) h1p ⟨by rw [hout,choT_t ⟨p',N,hS⟩],o⟩ rfl
  | false =>
   refine tw w1 ?_;exact for_next (id,out) h1p ⟨by rw [hout,choT_f (hno rfl)],o.swap⟩ rfl
 ·have h1p : ¬ k < n := by have := of_ndecide h1; omega
  obtain rfl : k = n := by omega
  refine tt ?_;refine fz_own o rfl fun H o => tt ?_;exact ⟨H,.refl H,by rw [hout],o⟩
def GoK (f g : SF) (most : Nat) (idS : Nat) (L : List (List (List Int))) (H0 : Heap) (l : Ob) : Kont := fun r H' => ∃ (X : AV) (w : Ob),r = .tup [] ∧ LsP iLL w X (L.take most) ∧ Owns H0 H' ((idS,sgO f g most X) :: (w ++ l))
theorem ggo_ok (B : Nat) {f g : SF} (hf : f.Is) (hg : g.Is) (sh : f.shape = g.shape) (most : Nat) (hmost : most ≤ 1000) (idS : Nat) :
  ∀ (n : Nat) (p : List (List Int)),unsetT f p = n → PT f g p → ∀ (A : List (List (List Int))) (X : AV) (w l : Ob) (H0 H : Heap),A.length < most → LsP iLL w X A → Owns H0 H ((idS,sgO f g most X) :: (w ++ l)) →
   CallH Tryz.prog B 181 [.ref idS 0,iLL p] H (GoK f g most idS (A ++ allMp f g p) H0 l) := by
 intro n
 induction n using Nat.strongRecOn with
 | _ n ih =>
 intro p hn hP A X w l H0 H hA hX o;refine c181 (by simp) fun _ => ?_
 have hob := hf.1.is.1.o
 have hsl := hf.1.sl
 have hpl := hP.len
 have hz0 : ∀ x,x < f.sizes.length → 0 ≤ f.sizes.getD x default ∧ f.sizes.getD x default < 17 := fun x hx => hf.1.sz _ (mem_getD.mpr ⟨x,hx,rfl⟩)
 have htk : (A ++ ([] : List (List (List Int)))).take most = A := by rw [List.append_nil]; exact List.take_of_length_le (by omega)
 unfold s181
 have w0 : IntKind.i64.wrap ((p.length : Int) - 1) = (p.length : Int) - 1 - ((0 : Nat) : Int) := by rw [wrap_i64 (by omega) (by omega)]; omega
 refine tw w0 ?_
 refine awp_for [0,1] (G := Int × Int) (fun k g => [(4,some (iI g.1)),(5,some (iI g.2)),(6,some (.int .i64 ((p.length : Int) - 1 - (k : Int))))])
  (fun k G H => ScanT f p ((p.length : Int) - k) 0 G.1 G.2 ∧ Owns H0 H ((idS,sgO f g most X) :: (w ++ l))) p.length (-1,-1) ⟨.start (by omega),o⟩ rfl ?_
 clear o
 rintro k ⟨x,e⟩ H hk ⟨hS,o⟩;dsimp only at hS o;refine tt ?_;apply bk <;> intro h1
 ·have h1p : k < p.length := by have := of_decide h1; omega
  have w1 : IntKind.i64.wrap ((p.length : Int) - 1 - (k : Int) - 1) = (p.length : Int) - 1 - ((k + 1 : Nat) : Int) := by rw [wrap_i64 (by omega) (by omega)]; omega
  obtain ⟨y,hy⟩ : ∃ y : Nat,(p.length : Int) - 1 - (k : Int) = y := ⟨p.length - 1 - k,by omega⟩
  have hyl : y < p.length := by omega
  have hzy := hz0 y (by omega)
  have hrow := hP.row y (by omega)
  have w2 : IntKind.i64.wrap (((p.getD y default).length : Int) - 1) = ((p.getD y default).length : Int) - 1 - ((0 : Nat) : Int) := by rw [wrap_i64 (by omega) (by omega)]; omega
  have hS1 : ScanT f p y (((p.getD y default).length : Int) - ((0 : Nat) : Int)) x e := by
   have e1 : (p.length : Int) - k = (y : Int) + 1 := by omega
   rw [e1] at hS;exact hS.row (by rw [ix_nat]; omega)
  rw [hy];refine tt ?_;refine ⟨by omega, ?_⟩;refine tw w2 ?_
  refine awp_for [0,1,6] (G := Int × Int) (fun j g => [(4,some (iI g.1)),(5,some (iI g.2)),(7,some (.int .i64 (((p.getD y default).length : Int) - 1 - (j : Int))))])
   (fun j G H => ScanT f p y (((p.getD y default).length : Int) - j) G.1 G.2 ∧ Owns H0 H ((idS,sgO f g most X) :: (w ++ l))) (p.getD y default).length (x,e) ⟨hS1,o⟩ rfl ?_
  clear o hS hS1
  rintro j ⟨x,e⟩ H hj ⟨hS,o⟩;dsimp only at hS o;refine tt ?_;apply bk <;> intro h2
  ·have h2p : j < (p.getD y default).length := by have := of_decide h2; omega
   obtain ⟨d,hd⟩ : ∃ d : Nat,((p.getD y default).length : Int) - 1 - (j : Int) = d := ⟨(p.getD y default).length - 1 - j,by omega⟩
   have hdl : d < (p.getD y default).length := by omega
   have w3 : IntKind.i64.wrap ((d : Int) - 1) = ((p.getD y default).length : Int) - 1 - ((j + 1 : Nat) : Int) := by rw [wrap_i64 (by omega) (by omega)]; omega
   have e1 : ((p.getD y default).length : Int) - j = (d : Int) + 1 := by omega
   have e2 : ((p.getD y default).length : Int) - ((j + 1 : Nat) : Int) = (d : Int) := by omega
   have hY : (0 : Int) ≤ (y : Int) ∧ (y : Int) < f.shape.objs := by omega
   have hD : (0 : Int) ≤ (d : Int) ∧ (d : Int) < ix f.sizes (y : Int) := by rw [ix_nat]; omega
   have hv := hP.val y d hY hD
   have eV : (p.getD y default).getD d default = ix (ix p (y : Int)) (d : Int) := by rw [ix_nat,ix_nat]
   rw [e1] at hS;rw [hd];refine tt ?_;refine ⟨by omega,hdl, ?_⟩;rw [eV];refine tt ?_;apply bk <;> intro h3
   ·have h3p : ix (ix p (y : Int)) (d : Int) = -1 := by have := of_decide h3; omega
    refine tt ?_;refine (gcho_ok B hf hg sh hY hD hP o).mono ?_;clear o
    rintro r H ⟨rfl,o⟩;refine tt ?_;apply bk <;> intro h4
    ·have h4p : choT f g p y d (ix g.sizes (y : Int)).toNat = [] := List.length_eq_zero_iff.mp (by rw [ix_nat]; have := of_decide h4; omega)
     have hno := allMp_eq hf hg sh hP (cho_none hf hg sh hP hY hD h4p);refine tt ?_;refine ⟨H,.refl H,X,w,rfl, ?_,o⟩;rw [← hno,htk]; exact hX
    ·refine tw w3 ?_;exact for_next ((y : Int),(d : Int)) (by omega) ⟨by rw [e2]; exact hS.hit hY hD h3p,o⟩ rfl
   ·have h3p : ix (ix p (y : Int)) (d : Int) ≠ -1 := by have := of_ndecide h3; omega
    refine tw w3 ?_;exact for_next (x,e) (by omega) ⟨by rw [e2]; exact hS.keep h3p,o⟩ rfl
  ·have h2p : j = (p.getD y default).length := by have := of_ndecide h2; omega
   rw [← hy] at *;refine tw w1 ?_
   exact for_next (x,e) (by omega) ⟨by
    have e1 : (p.length : Int) - ((k + 1 : Nat) : Int) = (p.length : Int) - 1 - k := by omega
    rw [h2p,Int.sub_self] at hS;rw [e1]; exact hS,o⟩ rfl
 ·have h1p : k = p.length := by have := of_ndecide h1; omega
  rw [h1p,Int.sub_self] at hS;refine tt ?_
  have oX : Owns H0 H (w ++ ((idS,sgO f g most X) :: l)) := o.pm;apply bk <;> intro h2
  ·have h2p := of_decide h2
   have hfull := allMp_eq hf hg sh hP (lists_full hf hP (hS.none h2p))
   have hgS : H.get idS = some (sgO f g most X) := o.h0;refine tt ?_;refine rd_get hgS (by simp) ?_;refine tt ?_;refine (LsO.mk oX hX).app p rfl (by simp only [maxL]; omega) fun idn H o => tt ?_;refine sw o.swap fun H o => tt ?_;refine ⟨H,.refl H,.buf idn (A ++ [p]).length,[(idn,.cells 1 ((A ++ [p]).map iLL) 0)],rfl, ?_,o⟩;rw [← hfull,List.take_of_length_le (by simp; omega)];exact .inr ⟨idn,rfl,rfl⟩
  ·have h2p := of_ndecide h2
   have hF := hS.fst h2p
   obtain ⟨hx,he⟩ : _ ∧ _ := ⟨hF.hx,hF.he⟩
   have hgX := hg.1.inX (x := x) (by rw [← sh]; exact hx)
   have h0 := hg.1.sz _ (ix_mem hgX.2)
   obtain ⟨n,hn2⟩ : ∃ n : Nat,ix g.sizes x = n := ⟨_,(Int.toNat_of_nonneg h0.1).symm⟩
   have hat : ∀ d,0 ≤ d → d < ix g.sizes x → At3 f g x e d := fun d h1 h2 => ⟨hf,hg,sh,hx,he,h1,h2⟩
   have hcl := choT_len (f := f) (g := g) (p := p) (x := x) (e := e) n;refine tt ?_;refine (gcho_ok B hf hg sh hx he hP o).mono ?_;clear o oX
   rintro r H ⟨rfl,o⟩;rw [hn2,Int.toNat_natCast];refine tt ?_
   refine awp_for [0,1,4,5,8] (G := List (List (List Int)) × AV × Ob × Int) (fun i _ => [(9,some (.int .i64 (i : Int)))])
    (fun i G H => ChoI f g p x e n i G.2.2.2 G.1 ∧ LsP iLL G.2.2.1 G.2.1 ((A ++ G.1).take most) ∧ Owns H0 H ((idS,sgO f g most G.2.1) :: (G.2.2.1 ++ l))) (choT f g p x e n).length ([],X,w,0) ⟨.start hx he n,by rw [htk]; exact hX,o⟩ rfl ?_
   clear o hX
   rintro i ⟨M,X,w,b⟩ H hi ⟨hC,hX,o⟩;dsimp only at hC hX o
   have hgS : H.get idS = some (sgO f g most X) := o.h0
   have hlX := hX.lenE;refine tt ?_
   by_cases h3 : i < (choT f g p x e n).length
   rotate_left 1
   ·rw [decide_eq_false (by omega)]
    obtain rfl : i = (choT f g p x e n).length := by omega
    refine tt ?_;refine ⟨H,.refl H,X,w,rfl, ?_,o⟩;rw [← allMp_eq hf hg sh hP (hC.done hat hF hP hn2.symm)]; exact hX
   ·rw [decide_eq_true (by omega)];refine tt ?_;refine rd_get hgS (by simp) ?_;refine tw hlX ?_;refine rd_get hgS (by simp) ?_;refine tt ?_;apply bk <;> intro h4
    rotate_left 1
    ·have h4p := of_ndecide h4
     have hle : most ≤ (A ++ M).length := by rw [List.length_take] at h4p; omega
     refine tt ?_;refine ⟨H,.refl H,X,w,rfl, ?_,o⟩
     obtain ⟨R,hR⟩ := hC.acc.pre hF hP hsl (allMp_is hf hg sh hP);rw [← hR,← List.append_assoc,List.take_append_of_le_length hle]; exact hX
    ·have h4p := of_decide h4
     have hlt : (A ++ M).length < most := by rw [List.length_take] at h4p; omega
     have etk : (A ++ M).take most = A ++ M := List.take_of_length_le (by omega);rw [etk] at hX
     have w1 := wsucc (k := i) (by omega)
     obtain ⟨c,hc⟩ : ∃ c,(choT f g p x e n).getD i default = c := ⟨_,rfl⟩
     have hmc := mem_choT.mp (mem_getD.mpr ⟨i,h3,hc⟩)
     have hatc := hat c hmc.1.1 (by omega);refine tt ?_;refine ⟨h3, ?_⟩;rw [hc];refine (gset_ok B hatc hP o).mono ?_;clear o
     rintro r H ⟨⟨ok,p',rfl,ht,hno⟩,o⟩
     cases ok with
     | false => exact absurd hmc.2 (hno rfl)
     | true =>
     obtain ⟨N,hSM⟩ := ht rfl;refine tt ?_;refine (ih (unsetT f p') (by rw [← hn]; exact hSM.less hatc hP hF.un) p' rfl (hSM.pt hatc hP) (A ++ M) X w l H0 H hlt hX o).mono ?_;clear o hX
     rintro r H ⟨X,w,rfl,hX,o⟩;refine tw w1 ?_;refine for_next (M ++ allMp f g p',X,w,c + 1) (by omega) ⟨?_, ?_,o⟩ rfl
     ·exact hC.step hat hF hP hsl hn2.symm h3 hc (allMp_is hf hg sh (hSM.pt hatc hP)) fun t => hSM.ext hatc hP t
     ·rw [← List.append_assoc]; exact hX
end Go.Proofs.Shf
