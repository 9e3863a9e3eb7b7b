/- A part of a proof. -/
import Derived.Test.YtadpkiiglobmpaaGreatF6
import Derived.Test.YtadpkiiglobmpaaGreatProg
import Derived.Tactics
import Derived.Tactics2
import Derived.Defers
import Derived.Laws.Pointers
import Derived.Laws.LoneSync
import Derived.RegionTactic
import Derived.RegionCalls
import Derived.ChangeAlike
set_option linter.unusedVariables false
set_option linter.unusedSimpArgs false
set_option linter.unusedSectionVars false
open Nat (reduceEqDiff reduceAdd reduceMul reduceLeDiff reduceLT)
namespace Go.AW
open Go.RowKit
theorem Owns.base {H0 H : Heap} {l : Ob} (o : Owns H0 H l) : Owns H0 (l ++ H0) l := by
 refine ⟨fun i x hx => ?_,fun x hx => ?_,o.nd,o.out⟩
 ·rw [Heap.get_append]
  cases e1 : Heap.get l i with
  | some o1 => have := o.out _ (Heap.get_mem e1); simp only at this; rw [this] at hx; cases hx
  | none => simpa using hx
 ·rw [Heap.get_append,Heap.mem_get o.nd hx]; rfl
theorem Owns.base_sub {H0 H : Heap} {l : Ob} (o : Owns H0 H l) : Heap.sub (l ++ H0) H := by
 intro i x e;rw [Heap.get_append] at e
 cases e1 : Heap.get l i with
 | some o1 =>
  rw [e1] at e
  have := o.get _ (Heap.get_mem e1);simp only at this;rw [this]; exact e
 | none => rw [e1,Option.none_or] at e; exact o.sub _ _ e
theorem wk_cov {F : Env → Heap → Prop} {σ : Env} {H0 H : Heap} {l q : Ob} {cs cc : List AV} {id ic : Nat} {X : AV} {n : Int} {M : List (List Bool)} (t : Nat) (hX : OBLL q X M)
  (o : Owns H0 H (Go.Proofs.Shf.covO cs cc id ic X n q l)) (ht : σ.get t = some (.ref id 0))
  (hk : ∀ H',Owns H0 H' l → wkW F ((t,some (.ptr [.ptr cs,.ptr cc,mL (mL AV.bool) M,.ref ic 0])) :: σ) H') : wkW F σ H := by
 have ol : Owns H0 H l := by
  have := o.perm (Go.Proofs.Shf.covO_perm cs cc id ic X n q l)
  have o2 : Owns H0 H ((id,.cells 4 [.ptr cs,.ptr cc,X,.ref ic 0] 0) :: (ic,.cells 1 [iI n] 0) :: (l ++ q)) := o.perm (List.Perm.cons _ (List.Perm.cons _ List.perm_append_comm));exact ⟨o2.sub,fun x hx => o2.get x (by simp [hx]),(List.nodup_append.mp (by simpa using o2.tl.tl.nd)).1,fun x hx => o2.out x (by simp [hx])⟩
 have h1 : H.get id = some (.cells 4 [.ptr cs,.ptr cc,X,.ref ic 0] 0) := o.h0;refine wkW_step (σ1 := (t,some (.ptr [.ptr cs,.ptr cc,mL (mL AV.bool) M,.ref ic 0])) :: σ) ?_ (hk _ ol.base)
 intro g B w tm hW hE
 obtain ⟨q1,q2⟩ := hE t _ ht
 generalize hu : tm.getD t undef = u at q2
 cases q2 with
 | ref _ _ b cap hio =>
  obtain ⟨c,el,h5,hb,hf,hm,h6,h7,h8⟩ := hW.obj hio h1
  obtain ⟨g1,H1,r1,r2,r3,r4⟩ := owBLL.fz _ _ _ hX g B H0 H _ w hW (o.perm (Go.Proofs.Shf.covO_perm cs cc id ic X n q l))
  have h1' : H1.get id = some (.cells 4 [.ptr cs,.ptr cc,X,.ref ic 0] 0) := r3.h0
  obtain ⟨c2,g2,s1,s2,s3,s4,s5,s6⟩ := r2.give id b cap 4 _ 0 h1' (r1.io _ _ hio)
  have hc : ∀ i,i < 4 → c2.getD i undef = c.getD i undef := by
   intro i hi
   have := s2.fz _ _ _ (s5 i hi);rw [cell_of_row w b i c el (0,0) h5] at this
   have hi' : i < c.size := by simp at h7; omega
   rw [Array.getElem?_eq_getElem hi'] at this;rw [← Option.some.inj this]; simp [Array.getD,hi']
  have o3 := (r3.put (.cells 4 [.ptr cs,.ptr cc,X,.ref ic 0] [AV.ptr cs,.ptr cc,X,.ref ic 0].length)).tl.tl;refine ⟨g2,r1.trans s1,s2.sub o3.base_sub,fun s x e => ?_⟩;simp only [Env.get] at e
  split at e
  ·rename_i hs; cases e; subst hs
   refine ⟨q1, ?_⟩;rw [hu];refine .ptr _ b 0 (fun k => c2.getD k undef) (fun i hi => by rw [Nat.zero_add]; exact s5 i (by simpa using hi)) (fun i hi => ?_)
   have hi4 : i < 4 := by simpa using hi
   by_cases e2 : i = 2
   ·subst e2;rw [hc 2 (by omega)]
    have := h8 2 (by simp);exact (r4 _ (by simpa using this)).mono s1
   ·have := s6 i (by simpa using hi4)
    obtain rfl | rfl | rfl : i = 0 ∨ i = 1 ∨ i = 3 := by omega
    all_goals simpa using this
  ·obtain ⟨z1,z2⟩ := hE s x e; exact ⟨z1,z2.mono (r1.trans s1)⟩
end Go.AW
namespace Go.Shf
open Go.AW Go.Proofs.Shf
noncomputable def covV (j : Top) : Cov := ⟨j.shape,lensOf (listsOf j.shape),pullsOf j.shape (listsOf j.shape),listsOf j.shape,marksOf (listsOf j.shape) j.covers⟩
def mk2 (M : List (List Bool)) (x s : Nat) : Bool := (M.getD x default).getD s default
def P1 (c : Cat) (L : List (List (List Int))) (M : List (List Bool)) (k : Nat) : Prop := ∀ x,x < k → mg M x ((topsOf c L).getD x default) = true
def P2i (c : Cat) (L : List (List (List Int))) (M : List (List Bool)) (a i : Nat) : Prop := ∀ s,s < i → mk2 M (c.frm.getD a default).toNat s = true → mg M (c.to.getD a default) (((pullsOf c L).getD a default).getD s default) = true
def P2 (c : Cat) (L : List (List (List Int))) (M : List (List Bool)) (k : Nat) : Prop := ∀ a,a < k → P2i c L M a (M.getD (c.frm.getD a default).toNat default).length
def P3s (v : Cov) (x t i : Nat) : Prop := ∀ s,s < i → mk2 v.marks x s = true → mk2 v.marks x t = false → locP v ((v.sieves.getD x default).getD t default) ((v.sieves.getD x default).getD s default) → mk2 v.marks x t = true
def P3t (v : Cov) (x k : Nat) : Prop := ∀ t,t < k → P3s v x t (v.marks.getD x default).length
def P3 (v : Cov) (k : Nat) : Prop := ∀ x,x < k → P3t v x (v.sieves.getD x default).length
theorem all_succ {p : Nat → Prop} {k : Nat} : (∀ i,i < k + 1 → p i) ↔ (∀ i,i < k → p i) ∧ p k :=
 ⟨fun h => ⟨fun i hi => h i (by omega),h k (by omega)⟩,fun ⟨h,hk⟩ => lt_succ_all h hk⟩
theorem locP_iff {j : Top} (tab : TabOk j.shape (listsOf j.shape)) {x s t : Nat} (hx : x < (listsOf j.shape).length) (hs : s < ((listsOf j.shape).getD x default).length) (ht : t < ((listsOf j.shape).getD x default).length) :
  locP (covV j) (((listsOf j.shape).getD x default).getD t default) (((listsOf j.shape).getD x default).getD s default) ↔ LocP j.shape (listsOf j.shape) (covV j).marks x s t := by
 have hsv := tab.sv hx hs;rw [locP,LocP,all_getD];refine forall_congr' fun i => imp_congr_right fun hi => ?_
 have ha := hsv.arr (mem_getD.mpr ⟨i,hi,rfl⟩)
 generalize hav : (((listsOf j.shape).getD x default).getD s default).getD i default = a at *
 have hto := tab.to ha.1
 have e : (ix (pullsOf j.shape (listsOf j.shape)) a).getD t default = indexOf (ix (listsOf j.shape) (ix j.shape.to a)) (pullS j.shape a (((listsOf j.shape).getD x default).getD t default)) := by
  rw [pulls_get ha.1,ha.2,ix_nat,map_getD _ ht]
 rw [e]; rfl
theorem cov_top {j : Top} (hF : j.Form) (hf : AllFew j.shape) (hM : (covV j).marks.length = (listsOf j.shape).length) :
  (P1 j.shape (listsOf j.shape) (covV j).marks (listsOf j.shape).length ∧ P2 j.shape (listsOf j.shape) (covV j).marks j.shape.frm.length ∧ P3 (covV j) (listsOf j.shape).length) ↔ TopIs j.shape j.covers := by
 have tab := tabOk hF.is hf
 have hcv := form_covers hF hf
 have hmk : MarkOk (listsOf j.shape) (covV j).marks := markOk;rw [← topM_iff (L := listsOf j.shape) tab fun x hx s hs => (hcv.2 x hx s hs).1]
 have hms : marksOf (listsOf j.shape) j.covers = (covV j).marks := rfl
 have hsv : (covV j).sieves = listsOf j.shape := rfl;rw [hms]
 constructor
 ·rintro ⟨h1,h2,h3⟩ x hx
  have hxL : x < (listsOf j.shape).length := by omega
  refine ⟨h1 x hxL,fun s hs hsm => ⟨fun a ha e => ?_,fun k hk => ?_⟩⟩
  ·have hx2 : (j.shape.frm.getD a default).toNat = x := by rw [e]; simp
   refine h2 a ha s (by rw [hx2]; exact hs) ?_;rw [hx2]; exact hsm
  ·rw [hmk.row x hxL] at hs hk
   by_cases hl : LocP j.shape (listsOf j.shape) (covV j).marks x s k
   ·left
    cases hb : mk2 (covV j).marks x k with
    | true => exact hb
    | false =>
     have := h3 x hxL k (by rw [hsv]; exact hk) s (by rw [hmk.row x hxL]; exact hs) hsm hb (by rw [hsv]; exact (locP_iff tab hxL hs hk).mpr hl);rw [hb] at this; cases this
   ·exact .inr hl
 ·intro h;refine ⟨fun x hx => (h x (by omega)).1,fun a ha s hs hsm => ?_,fun x hx t ht s hs hsm htm hl => ?_⟩
  ·have haa : 0 ≤ (a : Int) ∧ (a : Int).toNat < j.shape.frm.length := ⟨by omega,by simpa using ha⟩
   have hfr := tab.frm haa;rw [ix_nat] at hfr;exact ((h _ (by rw [hM]; exact hfr.2)).2 s hs hsm).1 a ha (by rw [Int.toNat_of_nonneg hfr.1])
  ·rw [hsv] at ht hl;rw [hmk.row x hx] at hs
   rcases ((h x (by rw [hM]; exact hx)).2 s (by rw [hmk.row x hx]; exact hs) hsm).2 t (by rw [hmk.row x hx]; exact ht) with h4 | h4
   ·exact h4
   ·exact absurd ((locP_iff tab hx hs ht).mp hl) h4
end Go.Shf
namespace Go.Proofs.Shf
open Go.AW Go.Proofs Go.Shf
theorem visit_own (B : Nat) (v : Cov) (cnt : AV) {H0 H : Heap} {l : Ob} {gid : Nat} {b : Bool} {K : Kont} {x s : Int} (o : Owns H0 H ((gid,.cells 1 [.bool b] 0) :: l)) (hx : 0 ≤ x ∧ x.toNat < v.marks.length) (hs : 0 ≤ s ∧ s.toNat < (ix v.marks x).length)
  (hk : ∀ H',Owns H0 H' ((gid,.cells 1 [.bool (b && mg v.marks x s)] 0) :: l) → K (.tup []) H') : CallH Tryz.prog B 377 [.int .i64 x,.int .i64 s,.ref gid 0,.ptr [.ptr (v.cells cnt)]] H K := by
 refine c377 (by simp) fun _ => ?_;unfold s377
 have hg : H.get gid = some (.cells 1 [.bool b] 0) := o.h0;refine tt ?_;refine rd_get hg (by simp) ?_
 have e : (ix v.marks x).getD s.toNat default = mg v.marks x s := rfl
 cases b with
 | false =>
  refine tt ?_;refine sw o fun H o => tt ?_;exact ⟨H,.refl H,hk H o⟩
 | true =>
  refine tt ?_;refine ⟨hx,hs, ?_⟩;refine sw o fun H o => tt ?_;refine ⟨H,.refl H,hk H ?_⟩;rw [Bool.true_and,← e]; exact o
theorem follows_own (B : Nat) (j : Top) (hF : j.Form) (hf : AllFew j.shape) (cnt : AV) {H0 H : Heap} {l : Ob} {gid : Nat} {K : Kont} (o : Owns H0 H ((gid,.cells 1 [.bool true] 0) :: l))
  (hk : ∀ b H',(b = true ↔ TopIs j.shape j.covers) → Owns H0 H' ((gid,.cells 1 [.bool b] 0) :: l) → K (.tup []) H') :
  CallH Tryz.prog B 376 [.ptr ((covV j).cells cnt),.fn (.func 377) [.ref gid 0,.ptr [.ptr ((covV j).cells cnt)]]] H K := by
 have tab := tabOk hF.is hf
 have hc := hF.is
 have hob := hc.1.o
 have hm := hc.1.m
 have htl := hc.1.tol
 have hL := tab.len
 have hcv := form_covers hF hf
 have hmk : MarkOk (listsOf j.shape) (covV j).marks := markOk
 have hfin := cov_top hF hf hmk.len
 have hsv : (covV j).sieves = listsOf j.shape := rfl
 have hsh : (covV j).shape = j.shape := rfl
 have hcells : (covV j).cells cnt = [.ptr (clsCells j.shape (listsOf j.shape) (iL (lensOf (listsOf j.shape))) (iLL (pullsOf j.shape (listsOf j.shape)))),.ptr j.shape.cells,mL (mL AV.bool) (covV j).marks,cnt] := rfl
 have htops := tops_ok B j.shape (listsOf j.shape) tab (iL (lensOf (listsOf j.shape))) (iLL (pullsOf j.shape (listsOf j.shape)))
 have hvis := fun (H0 H : Heap) (l : Ob) (gid : Nat) (b : Bool) (K : Kont) (x s : Int) => visit_own B (covV j) cnt (H0 := H0) (H := H) (l := l) (gid := gid) (b := b) (K := K) (x := x) (s := s)
 have hloc : ∀ x s t : Nat,x < (listsOf j.shape).length → s < ((listsOf j.shape).getD x default).length → t < ((listsOf j.shape).getD x default).length →
   Pur Tryz.prog B 392 [.ptr ((covV j).cells cnt),iL (((listsOf j.shape).getD x default).getD t default),iL (((listsOf j.shape).getD x default).getD s default)] (.bool (dec (locP (covV j) (((listsOf j.shape).getD x default).getD t default) (((listsOf j.shape).getD x default).getD s default)))) := by
  intro x s t hx hs ht;refine locally_ok B (covV j) hc cnt _ _ x (tab.sv hx ht) (fun a ha => ?_) hL hmk.len (fun y hy => ⟨?_,fun s hs => ?_⟩) ?_
  ·have := (tab.sv hx hs).arr ha; exact ⟨this.1.1,this.1.2,this.2⟩
  ·have hy2 : 0 ≤ y ∧ y < j.shape.objs := hy
   have := hmk.row y.toNat (by omega); exact this
  ·have hy2 : 0 ≤ y ∧ y < j.shape.objs := hy;exact ((tab.at hy2.1 (by omega)).mem s).mpr hs
  ·have := (tab.sv hx hs).len; omega
 rw [hcells] at hvis hloc ⊢;refine c376p (by simp) fun _ => ?_;unfold s376p
 have hml := hmk.len
 have hrow := hmk.row
 have hfew := tab.few
 have htop : ∀ x : Nat,x < (listsOf j.shape).length → 0 ≤ (topsOf j.shape (listsOf j.shape)).getD x default ∧ ((topsOf j.shape (listsOf j.shape)).getD x default).toNat < ((listsOf j.shape).getD x default).length := fun x hx => (tab.top hx).1
 have htlen : (topsOf j.shape (listsOf j.shape)).length = (listsOf j.shape).length := tops_len
 have hfr : ∀ a : Nat,a < j.shape.frm.length → 0 ≤ j.shape.frm.getD a default ∧ (j.shape.frm.getD a default).toNat < (listsOf j.shape).length := fun a ha => by
  have := tab.frm (a := a) ⟨by omega,by simpa using ha⟩
  rwa [ix_nat] at this
 have hto : ∀ a : Nat,a < j.shape.frm.length → 0 ≤ j.shape.to.getD a default ∧ (j.shape.to.getD a default).toNat < (listsOf j.shape).length := fun a ha => by
  have := tab.to (a := a) ⟨by omega,by simpa using ha⟩
  rwa [ix_nat] at this
 have hpl : ∀ a s : Nat,a < j.shape.frm.length → s < ((listsOf j.shape).getD (j.shape.frm.getD a default).toNat default).length → (s < ((pullsOf j.shape (listsOf j.shape)).getD a default).length) ∧
   0 ≤ ((pullsOf j.shape (listsOf j.shape)).getD a default).getD s default ∧ (((pullsOf j.shape (listsOf j.shape)).getD a default).getD s default).toNat < ((listsOf j.shape).getD (j.shape.to.getD a default).toNat default).length := fun a s ha hs => by
  have haa : 0 ≤ (a : Int) ∧ (a : Int).toNat < j.shape.frm.length := ⟨by omega,by simpa using ha⟩
  have h1 := tab.pull haa (k := s) (by rw [ix_nat]; exact hs)
  have h2 := pulls_row (L := listsOf j.shape) haa;simp only [ix_nat] at h1 h2;refine ⟨?_,h1.1⟩;rw [h2]; exact hs
 have hpll : (pullsOf j.shape (listsOf j.shape)).length = j.shape.frm.length := pulls_len
 have hmgs : ∀ x s : Nat,mk2 (covV j).marks x s = ((covV j).marks.getD x default).getD s default := fun _ _ => rfl
 generalize hLv : listsOf j.shape = L at *
 have hP3 : ∀ x t i,P3s (covV j) x t i ↔ ∀ s,s < i → mk2 (covV j).marks x s = true → mk2 (covV j).marks x t = false → locP (covV j) ((L.getD x default).getD t default) ((L.getD x default).getD s default) → mk2 (covV j).marks x t = true := fun x t i => by
  rw [P3s,hsv]
 have hP3f : ∀ x k,P3t (covV j) x k ↔ ∀ t,t < k → P3s (covV j) x t ((covV j).marks.getD x default).length := fun _ _ => Iff.rfl
 have hP3x : ∀ k,P3 (covV j) k ↔ ∀ x,x < k → P3t (covV j) x (L.getD x default).length := fun k => by rw [P3,hsv]
 generalize hMv : (covV j).marks = M at *;refine tt ?_;refine htops.go fun _ => tt ?_
 refine awp_for [0,1,18,19] (G := Bool) (fun k g => [(20,some (.int .i64 (k : Int)))])
  (fun k b H => (b = true ↔ P1 j.shape L M k) ∧ Owns H0 H ((gid,.cells 1 [.bool b] 0) :: l)) (topsOf j.shape L).length true ⟨by simp [P1],o⟩ rfl ?_
 clear o
 rintro x b H hx ⟨hb,o⟩
 replace o : Owns H0 H ((gid,.cells 1 [.bool b] 0) :: l) := o;refine tt ?_;apply bk <;> intro h1
 ·have h1p := of_decide h1
  have w := wsucc (k := x) (by omega)
  have h2 := htop x (by omega);refine tt ?_;refine ⟨h1p, ?_⟩;refine hvis H0 H l gid b _ x _ o ⟨by omega,by simpa using (by omega : x < M.length)⟩ ⟨h2.1,by rw [ix_nat,hrow x (by omega)]; exact h2.2⟩ fun H o => ?_;refine tw w ?_;refine for_next (b && mg M x ((topsOf j.shape L).getD x default)) h1p ⟨?_,o⟩ rfl;rw [P1,all_succ,Bool.and_eq_true,hb,P1]
 have h1p := of_ndecide h1
 obtain rfl : x = (topsOf j.shape L).length := by omega
 rw [htlen] at hb;refine tt ?_
 refine awp_for [0,1,37] (G := Bool) (fun k g => [(38,some (.int .i64 (k : Int)))])
  (fun k b H => (b = true ↔ P1 j.shape L M L.length ∧ P2 j.shape L M k) ∧ Owns H0 H ((gid,.cells 1 [.bool b] 0) :: l)) j.shape.frm.length b ⟨by rw [hb,P2]; simp,o⟩ rfl ?_
 clear o hb h1 b hx H h1p
 rintro a b H ha ⟨hb,o⟩
 replace o : Owns H0 H ((gid,.cells 1 [.bool b] 0) :: l) := o;refine tt ?_;apply bk <;> intro h1
 ·have h1p := of_decide h1
  have w := wsucc (k := a) (by omega)
  have hfa := hfr a h1p
  have hta := hto a h1p;refine tt ?_;refine ⟨h1p,⟨hfa.1,by omega⟩,_,(cloneB_ok B (M.getD (j.shape.frm.getD a default).toNat default)).run, ?_⟩
  have hrl := hrow _ hfa.2
  have hfw := hfew _ hfa.2;refine tt ?_
  refine awp_for [0,1,6,37,38,57,58] (G := Bool) (fun k g => [(59,some (.int .i64 (k : Int)))])
   (fun i b H => (b = true ↔ P1 j.shape L M L.length ∧ P2 j.shape L M a ∧ P2i j.shape L M a i) ∧ Owns H0 H ((gid,.cells 1 [.bool b] 0) :: l)) (M.getD (j.shape.frm.getD a default).toNat default).length b ⟨by rw [hb,P2i]; simp,o⟩ rfl ?_
  clear o hb b H
  rintro s b H hs ⟨hb,o⟩
  replace o : Owns H0 H ((gid,.cells 1 [.bool b] 0) :: l) := o;refine tt ?_;apply bk <;> intro h2
  ·have h2p := of_decide h2
   have w2 := wsucc (k := s) (by omega)
   have hp := hpl a s h1p (by omega);refine tt ?_;refine ⟨h2p, ?_⟩
   cases hms : mk2 M (j.shape.frm.getD a default).toNat s with
   | false =>
    have hms2 := hms;rw [hmgs] at hms2;refine tw hms2 ?_;refine tw w2 ?_;refine for_next b h2p ⟨?_,o⟩ rfl
    have : P2i j.shape L M a (s + 1) ↔ P2i j.shape L M a s := by
     rw [P2i,all_succ,P2i,hms]; simp
    rw [this]; exact hb
   | true =>
    have hms2 := hms;rw [hmgs] at hms2;refine tw hms2 ?_;refine ⟨by omega,by omega,hp.1, ?_⟩;refine hvis H0 H l gid b _ _ _ o ⟨hta.1,by omega⟩ ⟨hp.2.1,by rw [ix,hrow _ hta.2]; exact hp.2.2⟩ fun H o => ?_;refine tw w2 ?_;refine for_next (b && mg M (j.shape.to.getD a default) (((pullsOf j.shape L).getD a default).getD s default)) h2p ⟨?_,o⟩ rfl
    have : P2i j.shape L M a (s + 1) ↔ P2i j.shape L M a s ∧ mg M (j.shape.to.getD a default) (((pullsOf j.shape L).getD a default).getD s default) = true := by
     rw [P2i,all_succ,P2i,hms]; simp
    rw [this,Bool.and_eq_true,hb,and_assoc,and_assoc]
  ·have h2p := of_ndecide h2
   obtain rfl : s = (M.getD (j.shape.frm.getD a default).toNat default).length := by omega
   refine tw w ?_;refine for_next b h1p ⟨?_,o⟩ rfl
   have : P2 j.shape L M (a + 1) ↔ P2 j.shape L M a ∧ P2i j.shape L M a (M.getD (j.shape.frm.getD a default).toNat default).length := by rw [P2,all_succ,P2]
   rw [this]; exact hb
 have h1p := of_ndecide h1
 obtain rfl : a = j.shape.frm.length := by omega
 refine tt ?_
 refine awp_for [0,1,99,100] (G := Bool) (fun k g => [(101,some (.int .i64 (k : Int)))])
  (fun k b H => (b = true ↔ P1 j.shape L M L.length ∧ P2 j.shape L M j.shape.frm.length ∧ P3 (covV j) k) ∧ Owns H0 H ((gid,.cells 1 [.bool b] 0) :: l)) L.length b ⟨by rw [hb,hP3x]; simp,o⟩ rfl ?_
 clear o hb h1 b ha H h1p
 rintro x b H hx ⟨hb,o⟩
 replace o : Owns H0 H ((gid,.cells 1 [.bool b] 0) :: l) := o;refine tt ?_;apply bk <;> intro h1
 ·have h1p := of_decide h1
  have w := wsucc (k := x) (by omega)
  have hrl := hrow x h1p
  have hfw := hfew x h1p;refine tt ?_;refine ⟨h1p, ?_⟩
  refine awp_for [0,1,9,10,99,100,101,107] (G := Bool) (fun k g => [(108,some (.int .i64 (k : Int)))])
   (fun t b H => (b = true ↔ (P1 j.shape L M L.length ∧ P2 j.shape L M j.shape.frm.length ∧ P3 (covV j) x) ∧ P3t (covV j) x t) ∧ Owns H0 H ((gid,.cells 1 [.bool b] 0) :: l)) (L.getD x default).length b ⟨by rw [hb,hP3f]; simp,o⟩ rfl ?_
  clear o hb b H
  rintro t b H ht ⟨hb,o⟩
  replace o : Owns H0 H ((gid,.cells 1 [.bool b] 0) :: l) := o;refine tt ?_;apply bk <;> intro h2
  ·have h2p := of_decide h2
   have w2 := wsucc (k := t) (by omega);refine tt ?_;refine ⟨by omega, ?_⟩;refine (cloneB_ok B (M.getD x default)).go fun _ => tt ?_
   refine awp_for [0,1,9,10,11,99,100,101,107,108,118,119] (G := Bool) (fun k g => [(120,some (.int .i64 (k : Int)))])
    (fun i b H => (b = true ↔ ((P1 j.shape L M L.length ∧ P2 j.shape L M j.shape.frm.length ∧ P3 (covV j) x) ∧ P3t (covV j) x t) ∧ P3s (covV j) x t i) ∧ Owns H0 H ((gid,.cells 1 [.bool b] 0) :: l)) (M.getD x default).length b ⟨by rw [hb,hP3]; simp,o⟩ rfl ?_
   clear o hb b H
   rintro s b H hs ⟨hb,o⟩
   replace o : Owns H0 H ((gid,.cells 1 [.bool b] 0) :: l) := o;refine tt ?_;apply bk <;> intro h3
   ·have h3p := of_decide h3
    have w3 := wsucc (k := s) (by omega)
    have hlo := hloc x s t h1p (by omega) h2p;refine tt ?_;refine ⟨h3p, ?_⟩
    have hstep : P3s (covV j) x t (s + 1) ↔ P3s (covV j) x t s ∧ (mk2 M x s = true → mk2 M x t = false → locP (covV j) ((L.getD x default).getD t default) ((L.getD x default).getD s default) → mk2 M x t = true) := by
     rw [hP3,all_succ,hP3]
    cases hms : mk2 M x s with
    | false =>
     have hms2 := hms;rw [hmgs] at hms2;refine tw hms2 ?_;refine tw w3 ?_;refine for_next b h3p ⟨?_,o⟩ rfl;rw [hstep,hms]
     simpa using hb
    | true =>
     have hms2 := hms;rw [hmgs] at hms2
     cases hmt : mk2 M x t with
     | true =>
      have hmt2 := hmt;rw [hmgs] at hmt2;refine tw hms2 ?_;try simp only [go_sem,↓reduceIte,reduceEqDiff,reduceAdd,reduceMul,reduceLeDiff,reduceLT,hms2,hmt2]
      refine ⟨by omega,by omega, ?_⟩;refine tw w3 ?_;refine for_next b h3p ⟨?_,o⟩ rfl;rw [hstep,hmt]
      simpa using hb
     | false =>
      have hmt2 := hmt;rw [hmgs] at hmt2;refine tw hms2 ?_;try simp only [go_sem,↓reduceIte,reduceEqDiff,reduceAdd,reduceMul,reduceLeDiff,reduceLT,hms2,hmt2]
      refine ⟨by omega,by omega,h2p,by omega,_,hlo.run, ?_⟩
      by_cases hl : locP (covV j) ((L.getD x default).getD t default) ((L.getD x default).getD s default)
      ·rw [dec_t hl];refine tt ?_;refine hvis H0 H l gid b _ x t o ⟨by omega,by simpa using (by omega : x < M.length)⟩ ⟨by omega,by rw [ix_nat]; simpa using (by omega : t < (M.getD x default).length)⟩ fun H o => ?_
       have hmg : mg M (x : Int) (t : Int) = false := by
        rw [mg,ix_nat,ix_nat]; exact hmt2
       rw [hmg,Bool.and_false] at o;refine tw w3 ?_;refine for_next false h3p ⟨?_,o⟩ rfl;rw [hstep];refine ⟨fun e => (by cases e),fun e => ?_⟩
       have := e.2.2 hms hmt hl;rw [hmt] at this; cases this
      ·rw [dec_f hl];refine tw w3 ?_;refine for_next b h3p ⟨?_,o⟩ rfl;rw [hstep,hb];exact ⟨fun e => ⟨e.1,e.2,fun _ _ h => absurd h hl⟩,fun e => ⟨e.1,e.2.1⟩⟩
   ·have h3p := of_ndecide h3
    obtain rfl : s = (M.getD x default).length := by omega
    refine tw w2 ?_;refine for_next b h2p ⟨?_,o⟩ rfl
    have : P3t (covV j) x (t + 1) ↔ P3t (covV j) x t ∧ P3s (covV j) x t (M.getD x default).length := by rw [hP3f,all_succ,hP3f]
    rw [this,← and_assoc]; exact hb
  ·have h2p := of_ndecide h2
   obtain rfl : t = (L.getD x default).length := by omega
   refine tw w ?_;refine for_next b h1p ⟨?_,o⟩ rfl
   have : P3 (covV j) (x + 1) ↔ P3 (covV j) x ∧ P3t (covV j) x (L.getD x default).length := by rw [hP3x,all_succ,hP3x]
   rw [this,hb]
   constructor
   ·rintro ⟨⟨a1,a2,a3⟩,a4⟩; exact ⟨a1,a2,a3,a4⟩
   ·rintro ⟨a1,a2,a3,a4⟩; exact ⟨⟨a1,a2,a3⟩,a4⟩
 ·have h1p := of_ndecide h1
  obtain rfl : x = L.length := by omega
  refine tt ?_;exact ⟨H,.refl H,hk b H (by rw [hb]; exact hfin) o⟩
theorem isTopology_ok (B : Nat) (j : Top) (hF : j.Form) (hf : AllFew j.shape) (cnt : AV) : Pur Tryz.prog B 343 [.ptr ((covV j).cells cnt)] (.bool (dec (TopIs j.shape j.covers))) := by
 have hfol := fun (H0 H : Heap) (l : Ob) (gid : Nat) (K : Kont) => follows_own B j hF hf cnt (H0 := H0) (H := H) (l := l) (gid := gid) (K := K)
 generalize (covV j).cells cnt = cv at *;refine ⟨fun H0 => c343 (by simp) fun _ => ?_⟩;unfold s343;refine tt ?_;refine newRef_own (.nil _) fun gid H o => tt ?_;refine sw o fun H o => tt ?_;refine hfol H0 H [] gid _ o fun b H hb o => tt ?_;refine rd_cells o (by simp) ?_;refine tt ?_;refine pure_ret ?_ o.sub
 cases b with
 | true => rw [dec_t (hb.mp rfl)]
 | false => rw [dec_f (fun e => by have := hb.mpr e; cases this)]
def CovK (j : Top) (code : Int) (H0 : Heap) : Kont := fun r H' => H' = H0 ∧ ∃ X,r = .tup [X,.int .i64 code] ∧ (code = 0 → ∃ cnt,X = .ptr ((covV j).cells cnt))
theorem cov_ret {j : Top} {code n : Int} {H0 H : Heap} {X : AV} (hs : H0.sub H) (hn : n = code) (h : code = 0 → ∃ cnt,X = .ptr ((covV j).cells cnt)) : subW (CovK j code H0) (.tup [X,.int .i64 n]) H :=
 ⟨H0,hs,rfl,X,by rw [hn],h⟩
theorem limitCode_ok (B : Nat) (j : Top) (hF : j.Form) (H0 : Heap) : CallH Tryz.prog B 306 [.ptr j.cells] H0 (CovK j (codeT j) H0) := by
 refine c306p (by simp) fun _ => ?_;unfold s306p;refine tt ?_;refine coverage_own B j hF (.nil H0) (fun hf X => ?_) fun hf id ic X n q H hX o => ?_
 ·have e : codeT j = 3 := by rw [codeT,if_neg (fun e => e hF),if_pos hf]
  refine tt ?_;exact cov_ret (.refl _) e.symm (fun e2 => by rw [e] at e2; cases e2)
 ·refine tt ?_;refine wk_cov 4 hX o rfl fun H o => wkW_done ?_
  have hcv : [AV.ptr (clsV j.shape),.ptr j.shape.cells,mL (mL AV.bool) (marksOf (listsOf j.shape) j.covers),.ref ic 0] = (covV j).cells (.ref ic 0) := rfl
  have htop := isTopology_ok B j hF hf (.ref ic 0);rw [hcv]
  generalize hcc : (covV j).cells (.ref ic 0) = cv at *;refine tt ?_;refine htop.go fun _ => ?_
  by_cases ht : TopIs j.shape j.covers
  ·have e : codeT j = 0 := by rw [codeT,if_neg (fun e => e hF),if_neg (fun e => e hf),if_pos ht]
   rw [dec_t ht];refine tt ?_;exact cov_ret o.sub e.symm fun _ => ⟨_,by rw [hcc]⟩
  ·have e : codeT j = 5 := by rw [codeT,if_neg (fun e => e hF),if_neg (fun e => e hf),if_neg ht]
   rw [dec_f ht];refine tt ?_;exact cov_ret o.sub e.symm (fun e2 => by rw [e] at e2; cases e2)
open Classical in
noncomputable def codeO (j : Top) (f : SF) : Int := if codeT j = 0 ∧ ¬ j.shape = f.shape then 5 else codeT j
open Classical in
theorem onCode_ok (B : Nat) (j : Top) (f : SF) (hF : j.Form) (H0 : Heap) : CallH Tryz.prog B 258 [.ptr j.cells,mL sfP [f]] H0 (CovK j (codeO j f) H0) := by
 refine c258 (by simp) fun _ => ?_;unfold s258;refine tt ?_;refine (limitCode_ok B j hF H0).mono ?_
 rintro r H ⟨rfl,X,rfl,hX⟩
 by_cases h0 : codeT j = 0
 ·obtain ⟨cnt,rfl⟩ := hX h0
  have e0 : codeO j f = if j.shape = f.shape then 0 else 5 := by
   rw [codeO]
   by_cases h : j.shape = f.shape
   ·rw [if_neg (fun e => e.2 h),if_pos h,h0]
   ·rw [if_pos ⟨h0,h⟩,if_neg h]
  rw [h0]
  generalize hcc : (covV j).cells cnt = cv at *;refine tt ?_;refine ⟨fun e => (by simp at e),fun _ => At.mk ?_⟩;refine tt ?_;refine awp_for [0,6,18,19] (G := Unit) (fun k _ => [(20,some (.int .i64 (k : Int)))]) (fun k _ H' => H' = H ∧ (0 < k → j.shape = f.shape)) 1 () ⟨rfl,by simp⟩ rfl ?_
  rintro k _ H' hk ⟨rfl,hall⟩;refine tt ?_;apply bk <;> intro h1
  ·have h1p := of_decide h1
   obtain rfl : k = 0 := by simp at h1p; omega
   have w := wsucc (k := 0) (by omega);refine tt ?_;refine ⟨_,(sameCategory_ok B j.shape f.shape).run, ?_⟩
   by_cases h : j.shape = f.shape
   ·rw [dec_t h];refine tw w ?_;exact for_next () (by omega) ⟨rfl,fun _ => h⟩ rfl
   ·rw [dec_f h];refine tt ?_;rw [if_neg h] at e0;exact cov_ret (.refl _) e0.symm (fun e2 => by rw [e0] at e2; cases e2)
  ·have h1p := of_ndecide h1
   have hk1 : 0 < k := by simp at h1p; omega
   rw [if_pos (hall hk1)] at e0;refine tt ?_;exact cov_ret (.refl _) e0.symm fun _ => ⟨_,by rw [hcc]⟩
 ·have e0 : codeO j f = codeT j := by rw [codeO,if_neg (fun e => h0 e.1)]
  refine tt ?_;refine ⟨fun _ => At.mk ?_,fun e => ?_⟩;rotate_left
  ·exact absurd (by simpa using e) h0
  refine tt ?_;exact cov_ret (.refl _) e0.symm (fun e2 => absurd (e0.symm.trans e2) h0)
end Go.Proofs.Shf
namespace Go.Shf
open Go.AW
end Go.Shf
namespace Go.Proofs.Shf
open Go.AW Go.Proofs Go.Shf
theorem dTrue {p : Decidable True} : @decide True p = true := @decide_eq_true True p trivial
end Go.Proofs.Shf
namespace Go.Proofs.Shf
open Go.AW Go.Proofs Go.RowKit
end Go.Proofs.Shf
namespace Go.Shf
open Go.AW
end Go.Shf
namespace Go.Proofs.Shf
open Go.AW Go.Proofs Go.Shf
end Go.Proofs.Shf
namespace Go.AW
open Go.Proofs Go.Shf Go.Proofs.Shf
theorem LsO.at {α : Type} {f : α → AV} {H0 H : Heap} {l : List (Nat × MObj)} {X : AV} {A : List α} {id : Nat} {a : MObj} (o : LsO f H0 H ((id,a) :: l) X A) :
  H.get id = some a ∧ ∀ b,LsO f H0 (H.set id b) ((id,b) :: l) X A := by
 rcases o with ⟨h1,h2,o⟩ | ⟨id2,h1,o⟩
 ·exact ⟨o.h0,fun b => .inl ⟨h1,h2,o.put b⟩⟩
 ·exact ⟨o.tl.h0,fun b => .inr ⟨id2,h1,(o.swap.put b).swap⟩⟩
end Go.AW
namespace Go.Proofs.Shf
open Go.AW Go.Proofs Go.Shf
theorem rd_at {H : Heap} {K : Kont} {id sz fr off : Nat} {cs : List AV} (h : H.get id = some (.cells sz cs fr)) (h1 : off < cs.length) (hk : K (cs.getD off nv) H) : rd1 (H.get id) none off K H := by
 rw [h,rd1_1]; exact ⟨h1,hk⟩
end Go.Proofs.Shf
namespace Go.AW
end Go.AW
namespace Go.Proofs.Shf
open Go.AW Go.Proofs Go.Shf
theorem holds_ok (B : Nat) (p : List (List Int)) (x e : Int) (hx : 0 ≤ x ∧ x.toNat < p.length) : Pur Tryz.prog B 265 [.agg [iLL p],iI x,iI e] (.bool (dec (e ∈ ix p x))) := by
 refine ⟨fun H0 => c265p (by simp) fun _ => ?_⟩;unfold s265p;refine tt ?_;refine ⟨hx,(has_ok ..).go fun _ => ?_⟩;refine tt ?_;exact pure_ret rfl (.refl _)
def partE (f : SF) (q : Nat → Nat → Bool) (x : Nat) : List Int := nats (q x) (f.sizes.getD x default).toNat
def partN (f : SF) (q : Nat → Nat → Bool) (n : Nat) : List (List Int) := (List.range n).map (partE f q)
theorem partN_succ (f : SF) (q : Nat → Nat → Bool) (n : Nat) : partN f q (n + 1) = partN f q n ++ [partE f q n] := by simp [partN,List.range_succ]
theorem partN_len (f : SF) (q : Nat → Nat → Bool) (n : Nat) : (partN f q n).length = n := by simp [partN]
theorem partOf_ok (B : Nat) (f : SF) (hl : f.sizes.length ≤ 8) (hz : ∀ y,y ∈ f.sizes → 0 ≤ y ∧ y < 17) (F : FuncId) (ca : List AV) (q : Nat → Nat → Bool) (H0 : Heap)
  (hq : ∀ x e : Nat,x < f.sizes.length → (e : Int) < f.sizes.getD x default → ∀ H,H0.sub H → CallH Tryz.prog B F ([iI x,iI e] ++ ca) H fun r H' => r = .bool (q x e) ∧ H' = H) :
  CallH Tryz.prog B 136 [.ptr f.cells,.fn (.func F) ca] H0 fun r H' => r = .agg [iLL (partF f q)] ∧ H' = H0 := by
 refine c136p (by simp) fun _ => ?_;unfold s136p
 have o : Owns H0 H0 [] := .nil _;refine tt ?_;refine newRef_own o fun id4 H o => tt ?_;refine newRef_own o fun id5 H o => tt ?_;refine sw o fun H o => tt ?_;refine awp_for [1,4,5,14,15] (G := AV) (fun k X => [(16,some (.int .i64 (k : Int)))]) (fun k X H => LsO iL H0 H [(id5,.cells 1 [X] 0),(id4,.cells 1 [.nilsl] 0)] X (partN f q k)) f.sizes.length .nilsl (.inl ⟨rfl,rfl,o⟩) rfl ?_;clear o
 rintro k X H hk o;refine tt ?_;apply bk <;> intro h1
 ·have h1 := of_decide h1
  have w1 := wsucc (k := k) (by omega)
  have hsz := hz _ (mem_getD.mpr ⟨k,h1,rfl⟩)
  obtain ⟨n,hn⟩ : ∃ n : Nat,f.sizes.getD k default = n := ⟨_,(Int.toNat_of_nonneg hsz.1).symm⟩;rw [hn] at hsz;refine tt ?_;refine ⟨h1, ?_⟩;rw [hn];refine tt ?_
  obtain ⟨p,o,hp⟩ := o.split;refine new_list iI o fun id8 H o => tt ?_
  refine awp_for [1,4,5,6,14,15,16,22] (G := Nat × List Int) (fun e g => [(8,some (.buf g.1 g.2.length)),(23,some (.int .i64 (e : Int)))])
   (fun e g H => g.2 = nats (q k) e ∧ Owns H0 H ((g.1,.cells 1 (g.2.map iI) 0) :: (p ++ [(id5,.cells 1 [X] 0),(id4,.cells 1 [.nilsl] 0)]))) n (id8,[]) ⟨by simp,o⟩ rfl ?_
  clear o
  rintro e ⟨id8,out⟩ H he ⟨hout,o⟩;dsimp only at hout o
  have hol : out.length ≤ e := by rw [hout]; exact nats_len _ _
  refine tt ?_;apply bk <;> intro h2
  ·have h2 := of_decide h2
   have w2 := wsucc (k := e) (by omega);refine tt ?_;refine (hq k e h1 (by rw [hn]; omega) H o.sub).mono fun r H' ⟨e1,e2⟩ => ?_;subst e1;subst e2;refine tt ?_;apply bk <;> intro h3
   ·refine tt ?_;refine app_own (e : Int) o rfl rfl (by simp only [maxL]; omega) fun id8 H o => ?_;refine tw w2 ?_;exact for_next (_,_) (by omega) ⟨by rw [hout,nats_t h3],o⟩ rfl
   ·refine tw w2 ?_;exact for_next (_,_) (by omega) ⟨by rw [hout,nats_f h3],o⟩ rfl
  ·have h2 := of_ndecide h2
   obtain rfl : e = n := by omega
   refine tt ?_;refine fz_own o rfl fun H o => ?_
   have eo : out = partE f q k := by rw [hout,partE,hn]; rfl
   rw [eo]
   have o := LsO.mk o hp;refine tt ?_;refine rd_at o.at.1 (by simp) ?_;refine tt ?_;refine o.app (partE f q k) rfl (by rw [partN_len]; simp only [maxL]; omega) fun id2 H o => tt ?_;refine sw o.swap fun H o => ?_;refine tw w1 ?_;refine for_next (.buf id2 (partN f q k ++ [partE f q k]).length) (by omega) (.inr ⟨id2, ?_, ?_⟩) rfl
   ·rw [partN_succ]
   ·rw [partN_succ]; exact o.swap
 ·have h1 := of_ndecide h1
  obtain rfl : k = f.sizes.length := by omega
  refine tt ?_;refine wk_ls 0 o rfl fun H o => wkW_done ?_;simp only [wr_cons,wr_nil,List.set_cons_zero,List.set_cons_succ] at o;refine tt ?_;refine rd_celln o (by simp) ?_;refine tt ?_;refine sw o.swap fun H o => tt ?_
  have hr2 := o.rc 1 0 (by simp);simp only [List.drop_zero] at hr2;rw [hr2];refine tt ?_;exact rets_ret rfl o.sub
theorem l25Part_ok (B : Nat) (f : SF) (hf : f.Is) (p : List (List Int)) : Pur Tryz.prog B 150 [.agg f.cells,iLL p] (.bool (dec (f.Part p))) := by
 refine ⟨fun H0 => c150 (by simp) fun ⟨_,hfp,_⟩ => ?_⟩
 have hm := hf.1.is.1.m
 have hob := hf.1.is.1.o
 have htl := hf.1.is.1.tol
 have hsl := hf.1.sl
 have hal := hf.1.al;unfold s150;refine tt ?_;apply bk <;> intro h0
 ·have h0p : ¬ p.length = f.sizes.length := by simpa using h0
  refine tt ?_;exact pure_ret (by rw [dec_f fun e => h0p e.len]) (.refl _)
 have hpl : p.length = f.sizes.length := by simpa using h0
 refine tt ?_;refine awp_for [1,2] (fun k _ => [(5,some (.int .i64 (k : Int)))]) (fun k _ H => H = H0 ∧ ∀ i,i < k → Rising (p.getD i default) ∧ ∀ y,y ∈ p.getD i default → 0 ≤ y ∧ y < f.sizes.getD i default) p.length () ⟨rfl,by simp⟩ rfl ?_
 rintro k _ H hk ⟨rfl,hall⟩;refine tt ?_;apply bk <;> intro h1
 ·have h1p := of_decide h1
  have w1 := wsucc (k := k) (by omega);refine tt ?_;refine ⟨h1p, ?_⟩;refine ⟨_,(l02Rises_ok B (p.getD k default)).run, ?_⟩
  by_cases h2 : Rising (p.getD k default)
  rotate_left 1
  ·rw [dec_f h2];refine tt ?_;exact pure_ret (by rw [dec_f fun e => h2 (e.ris k (by omega))]) (.refl _)
  rw [dec_t h2];refine tt ?_;refine ⟨by omega,h1p, ?_⟩;refine ⟨_,(l01Map_ok B (p.getD k default) (f.sizes.getD k default)).run, ?_⟩
  by_cases h3 : ∀ y,y ∈ p.getD k default → 0 ≤ y ∧ y < f.sizes.getD k default
  rotate_left 1
  ·rw [dec_f h3];refine tt ?_;exact pure_ret (by rw [dec_f fun e => h3 (e.ran k (by omega))]) (.refl _)
  rw [dec_t h3];refine tw w1 ?_;exact for_next () (by omega) ⟨rfl,lt_succ_all hall ⟨h2,h3⟩⟩ rfl
 have h1p := of_ndecide h1
 obtain rfl : k = p.length := by omega
 refine tt ?_
 refine awp_for [1,2] (G := Unit) (fun a _ => [(6,some (.int .i64 (a : Int)))])
  (fun a _ H' => H' = H ∧ ∀ i,i < a → ∀ e,e ∈ ix p (f.shape.frm.getD i default) → ix (f.acts.getD i default) e ∈ ix p (f.shape.to.getD i default)) f.acts.length () ⟨rfl,by simp⟩ rfl ?_
 rintro a _ H' ha ⟨rfl,hcl⟩;refine tt ?_;apply bk <;> intro h4
 ·have h4p := of_decide h4
  have w2 := wsucc (k := a) (by omega)
  have hfr := hf.1.is.1.frmObj (f := (a : Int)) (by simp; omega)
  have hto := hf.1.is.1.toObj (f := (a : Int)) (by simp; omega);rw [ix_nat] at hfr hto
  have hacl := hf.1.actLen (a := (a : Int)) (by simp; omega);rw [ix_nat,ix_nat] at hacl
  have hran := (hall (f.shape.frm.getD a default).toNat (by omega)).2
  have hixf : ix p (f.shape.frm.getD a default) = p.getD (f.shape.frm.getD a default).toNat default := rfl
  have hzx : ix f.sizes (f.shape.frm.getD a default) = f.sizes.getD (f.shape.frm.getD a default).toNat default := rfl;rw [← hixf,← hzx] at hran
  have hfl := fine_mL_le (fine_mL_ix hfp (i := f.shape.frm.getD a default) (by omega));simp only [maxL] at hfl;refine tt ?_;refine ⟨by omega,by omega, ?_⟩
  refine awp_for [1,2,6,7,8] (G := Unit) (fun e _ => [(9,some (.int .i64 (e : Int)))])
   (fun e _ H => H = H' ∧ ∀ i,i < e → ix (f.acts.getD a default) ((ix p (f.shape.frm.getD a default)).getD i default) ∈ ix p (f.shape.to.getD a default)) (ix p (f.shape.frm.getD a default)).length () ⟨rfl,by simp⟩ rfl ?_
  rintro e _ H he ⟨rfl,hin⟩;refine tt ?_;refine ⟨⟨hfr.1,by omega⟩, ?_⟩;apply bk <;> intro h5
  ·have h5p := of_decide h5
   have w3 := wsucc (k := e) (by omega)
   have hr := hran _ (mem_getD.mpr ⟨e,h5p,rfl⟩);refine tt ?_;refine ⟨⟨hto.1,by omega⟩,by omega,⟨hfr.1,by omega⟩,h5p,⟨hr.1,by omega⟩, ?_⟩;refine ⟨_,(l01Has_ok B (ix p (f.shape.to.getD a default)) (ix (f.acts.getD a default) ((ix p (f.shape.frm.getD a default)).getD e default))).run, ?_⟩
   by_cases h6 : ix (f.acts.getD a default) ((ix p (f.shape.frm.getD a default)).getD e default) ∈ ix p (f.shape.to.getD a default)
   ·rw [dec_t h6];refine tw w3 ?_;exact for_next () (by omega) ⟨rfl,lt_succ_all hin h6⟩ rfl
   ·rw [dec_f h6];refine tt ?_;refine pure_ret ?_ (.refl _);rw [dec_f fun q => h6 ?_]
    have := q.cls (a : Int) ⟨by omega,by simp; omega⟩ ((ix p (f.shape.frm.getD a default)).getD e default) (by rw [ix_nat]; exact mem_getD.mpr ⟨e,h5p,rfl⟩);rw [ix_nat,ix_nat] at this;exact this
  ·have h5p := of_ndecide h5
   obtain rfl : e = (ix p (f.shape.frm.getD a default)).length := by omega
   refine tw w2 ?_;refine for_next () (by omega) ⟨rfl,lt_succ_all hcl fun y hy => ?_⟩ rfl
   obtain ⟨i,hi,rfl⟩ := mem_getD.mp hy;exact hin i hi
 ·have h4p := of_ndecide h4
  obtain rfl : a = f.acts.length := by omega
  refine tt ?_;refine pure_ret ?_ (.refl _);rw [dec_t];refine ⟨hpl,fun x hx => (hall x (by omega)).1,fun x hx => (hall x (by omega)).2,fun a ha e he => ?_⟩
  have := hcl a.toNat (by omega);exact this e he
theorem specIsPart_ok (B : Nat) (f : SF) (p : List (List Int)) : Pur Tryz.prog B 128 [.agg f.cells,.agg [iLL p]] (.bool (dec (f.Is ∧ f.Part p))) := by
 refine ⟨fun H0 => c128 (by simp) fun _ => ?_⟩;unfold s128;refine tt ?_;refine (l19Is_ok B f).go fun _ => ?_
 by_cases hf : f.Is
 ·rw [dec_t hf];refine tt ?_;refine (l25Part_ok B f hf p).go fun _ => tt ?_;exact pure_ret (by congr 1; exact dec_congr ⟨fun h => ⟨hf,h⟩,fun h => h.2⟩) (.refl _)
 ·rw [dec_f hf];refine tt ?_;exact pure_ret (by rw [dec_f fun h => hf h.1]) (.refl _)
theorem isPart_ok (B : Nat) (f : SF) (hf : f.Is) (p : List (List Int)) : Pur Tryz.prog B 147 [.ptr f.cells,.agg [iLL p]] (.bool (dec (f.Part p))) := by
 refine ⟨fun H0 => c147 (by simp) fun ⟨_,hfp0,_⟩ => ?_⟩
 have hfp := hfp0.agg (c := iLL p) (by simp)
 have hm := hf.1.is.1.m
 have hob := hf.1.is.1.o
 have htl := hf.1.is.1.tol
 have hsl := hf.1.sl
 have hal := hf.1.al
 have hz0 : ∀ x,x < f.sizes.length → 0 ≤ f.sizes.getD x default ∧ f.sizes.getD x default < 17 := fun x hx => hf.1.sz _ (mem_getD.mpr ⟨x,hx,rfl⟩);unfold s147;refine tt ?_;apply bk <;> intro h0
 ·have h0p : ¬ p.length = f.sizes.length := by simpa using h0
  refine tt ?_;exact pure_ret (by rw [dec_f fun e => h0p e.len]) (.refl _)
 have hpl : p.length = f.sizes.length := by simpa using h0
 refine tt ?_;refine awp_for [0,3,21,22] (fun k _ => [(23,some (.int .i64 (k : Int)))]) (fun k _ H => H = H0 ∧ ∀ i,i < k → Rising (p.getD i default) ∧ ∀ y,y ∈ p.getD i default → 0 ≤ y ∧ y < f.sizes.getD i default) p.length () ⟨rfl,by simp⟩ rfl ?_
 rintro k _ H hk ⟨rfl,hall⟩;refine tt ?_;apply bk <;> intro h1
 ·have h1p := of_decide h1
  have w1 := wsucc (k := k) (by omega)
  have hzk := hz0 k (by omega);refine tt ?_;refine ⟨h1p, ?_⟩;refine (rising_ok B (p.getD k default)).go fun _ => ?_
  by_cases h2 : Rising (p.getD k default)
  rotate_left 1
  ·rw [dec_f h2];refine tt ?_;exact pure_ret (by rw [dec_f fun e => h2 (e.ris k (by omega))]) (.refl _)
  rw [dec_t h2];refine tt ?_;refine ⟨by omega, ?_⟩;refine (within_ok B (p.getD k default) (f.sizes.getD k default) (by omega)).go fun _ => ?_
  by_cases h3 : ∀ y,y ∈ p.getD k default → 0 ≤ y ∧ y < f.sizes.getD k default
  rotate_left 1
  ·rw [dec_f h3];refine tt ?_;exact pure_ret (by rw [dec_f fun e => h3 (e.ran k (by omega))]) (.refl _)
  rw [dec_t h3];refine tw w1 ?_;exact for_next () (by omega) ⟨rfl,lt_succ_all hall ⟨h2,h3⟩⟩ rfl
 have h1p := of_ndecide h1
 obtain rfl : k = p.length := by omega
 refine tt ?_
 refine awp_for [0,3,47,48] (G := Unit) (fun a _ => [(49,some (.int .i64 (a : Int)))])
  (fun a _ H' => H' = H ∧ ∀ i,i < a → ∀ e,e ∈ ix p (f.shape.frm.getD i default) → ix (f.acts.getD i default) e ∈ ix p (f.shape.to.getD i default)) f.acts.length () ⟨rfl,by simp⟩ rfl ?_
 rintro a _ H' ha ⟨rfl,hcl⟩;refine tt ?_;apply bk <;> intro h4
 ·have h4p := of_decide h4
  have w2 := wsucc (k := a) (by omega)
  have hfr := hf.1.is.1.frmObj (f := (a : Int)) (by simp; omega)
  have hto := hf.1.is.1.toObj (f := (a : Int)) (by simp; omega);rw [ix_nat] at hfr hto
  have hacl := hf.1.actLen (a := (a : Int)) (by simp; omega);rw [ix_nat,ix_nat] at hacl
  have hran := (hall (f.shape.frm.getD a default).toNat (by omega)).2
  have hixf : ix p (f.shape.frm.getD a default) = p.getD (f.shape.frm.getD a default).toNat default := rfl
  have hzx : ix f.sizes (f.shape.frm.getD a default) = f.sizes.getD (f.shape.frm.getD a default).toNat default := rfl;rw [← hixf,← hzx] at hran
  have hfl := fine_mL_le (fine_mL_ix hfp (i := f.shape.frm.getD a default) (by omega));simp only [maxL] at hfl;refine tt ?_;refine ⟨h4p, ?_⟩;refine ⟨by omega,⟨hfr.1,by omega⟩, ?_⟩
  refine awp_for [0,3,7,8,47,48,49,65,66] (G := Unit) (fun e _ => [(67,some (.int .i64 (e : Int)))])
   (fun e _ H => H = H' ∧ ∀ i,i < e → ix (f.acts.getD a default) ((ix p (f.shape.frm.getD a default)).getD i default) ∈ ix p (f.shape.to.getD a default)) (ix p (f.shape.frm.getD a default)).length () ⟨rfl,by simp⟩ rfl ?_
  rintro e _ H he ⟨rfl,hin⟩;refine tt ?_;apply bk <;> intro h5
  ·have h5p := of_decide h5
   have w3 := wsucc (k := e) (by omega)
   have hr := hran _ (mem_getD.mpr ⟨e,h5p,rfl⟩);refine tt ?_;refine ⟨h5p,by omega,⟨hto.1,by omega⟩,⟨hr.1,by omega⟩, ?_⟩;refine ⟨_,(has_ok B (ix p (f.shape.to.getD a default)) (ix (f.acts.getD a default) ((ix p (f.shape.frm.getD a default)).getD e default))).run, ?_⟩
   by_cases h6 : ix (f.acts.getD a default) ((ix p (f.shape.frm.getD a default)).getD e default) ∈ ix p (f.shape.to.getD a default)
   ·rw [dec_t h6];refine tw w3 ?_;exact for_next () (by omega) ⟨rfl,lt_succ_all hin h6⟩ rfl
   ·rw [dec_f h6];refine tt ?_;refine pure_ret ?_ (.refl _);rw [dec_f fun q => h6 ?_]
    have := q.cls (a : Int) ⟨by omega,by simp; omega⟩ ((ix p (f.shape.frm.getD a default)).getD e default) (by rw [ix_nat]; exact mem_getD.mpr ⟨e,h5p,rfl⟩);rw [ix_nat,ix_nat] at this;exact this
  ·have h5p := of_ndecide h5
   obtain rfl : e = (ix p (f.shape.frm.getD a default)).length := by omega
   refine tw w2 ?_;refine for_next () (by omega) ⟨rfl,lt_succ_all hcl fun y hy => ?_⟩ rfl
   obtain ⟨i,hi,rfl⟩ := mem_getD.mp hy;exact hin i hi
 ·have h4p := of_ndecide h4
  obtain rfl : a = f.acts.length := by omega
  refine tt ?_;refine pure_ret ?_ (.refl _);rw [dec_t];refine ⟨hpl,fun x hx => (hall x (by omega)).1,fun x hx => (hall x (by omega)).2,fun a ha e he => ?_⟩
  have := hcl a.toNat (by omega);exact this e he
theorem areParts_ok (B : Nat) (f : SF) (p : List (List Int)) : Pur Tryz.prog B 123 [.ptr f.cells,.sl [.agg [iLL p]]] (.bool (dec (f.Is ∧ f.Part p))) := by
 refine ⟨fun H0 => c123 (by simp) fun _ => ?_⟩;unfold s123
 have o : Owns H0 H0 [] := .nil _;refine tt ?_;refine (isSetFunctor_ok B f).go fun _ => ?_
 by_cases hf : f.Is
 rotate_left 1
 ·rw [dec_f hf];refine tt ?_;exact pure_ret (by rw [dec_f fun h => hf h.1]) (.refl _)
 rw [dec_t hf];refine tt ?_;refine awp_for [0,10,11] (G := Unit) (fun k _ => [(12,some (.int .i64 (k : Int)))]) (fun k _ H => Owns H0 H [] ∧ (0 < k → f.Part p)) 1 () ⟨o,by simp⟩ rfl ?_;clear o
 rintro k _ H hk ⟨o,hall⟩;refine tt ?_;apply bk <;> intro h1
 ·have h1p : k < 1 := of_decide h1
  obtain rfl : k = 0 := by omega
  have w1 := wsucc (k := 0) (by omega);refine tt ?_;refine newRef_own o fun id6 H o => tt ?_;refine sw o fun H o => tt ?_;refine rd_celln o (by simp) ?_;refine tt ?_;refine (isPart_ok B f hf p).go fun _ => ?_
  by_cases h2 : f.Part p
  ·rw [dec_t h2];refine tw w1 ?_;exact for_next () (by omega) ⟨o.tl,fun _ => h2⟩ rfl
  ·rw [dec_f h2];refine tt ?_;exact pure_ret (by rw [dec_f fun h => h2 h.2]) o.sub
 ·have h1p : ¬ k < 1 := of_ndecide h1;refine tt ?_;exact pure_ret (by rw [dec_t ⟨hf,hall (by omega)⟩]) o.sub
theorem holding_ok (B : Nat) (f : SF) (hf : f.Is) (p : List (List Int)) (hp : p.length = f.sizes.length) (x e : Int) (hx : 0 ≤ x ∧ x < f.shape.objs) (he : 0 ≤ e ∧ e < ix f.sizes x) :
  Pur Tryz.prog B 126 [.ptr f.cells,.agg [iLL p],iI x,iI e] (iL (valS f p x e)) := by
 refine ⟨fun H0 => c126 (by simp) fun _ => ?_⟩
 have hm := hf.1.is.1.m
 have hob := hf.1.is.1.o
 have htl := hf.1.is.1.tol
 have hsl := hf.1.sl
 have hal := hf.1.al;unfold s126
 have o : Owns H0 H0 [] := .nil _;refine tt ?_;refine new_list iI o fun id9 H o => tt ?_;refine (outOf_ok B f.shape x).go fun _ => ?_
 have hout : ∀ a,a ∈ outs f.shape x → (0 ≤ a ∧ a.toNat < f.shape.frm.length) ∧ ix f.shape.frm a = x := fun a ha => by have := mem_outs.mp ha; exact ⟨⟨this.1,this.2.1⟩,this.2.2⟩
 have hol : (outs f.shape x).length ≤ 40 := by
  rw [outs,List.length_map];refine Nat.le_trans (List.length_filter_le _ _) ?_;rw [List.length_range]; omega
 have hval : (outs f.shape x).filter (fun a => decide (ix (ix f.acts a) e ∈ ix p (ix f.shape.to a))) = valS f p x e := by
  refine rising_ext (rising_pw.mpr ((rising_pw.mp (outs_nats f.shape x ▸ nats_rising _ _)).filter _)) (nats_rising _ _) fun y => ?_;rw [List.mem_filter,mem_outs,mem_valS,decide_eq_true_eq]
  constructor
  ·rintro ⟨⟨h1,h2,h3⟩,h4⟩; exact ⟨⟨h1,h2⟩,h3,h4⟩
  ·rintro ⟨⟨h1,h2⟩,h3,h4⟩; exact ⟨⟨h1,h2,h3⟩,h4⟩
 rw [← hval]
 generalize outs f.shape x = L at *;refine tt ?_
 refine awp_for [0,3,5,17,18] (G := Nat × List Int) (fun k g => [(9,some (.buf g.1 g.2.length)),(19,some (.int .i64 (k : Int)))])
  (fun k g H => g.2 = (L.take k).filter (fun a => decide (ix (ix f.acts a) e ∈ ix p (ix f.shape.to a))) ∧ Owns H0 H [(g.1,.cells 1 (g.2.map iI) 0)]) L.length (id9,[]) ⟨rfl,o⟩ rfl ?_
 clear o
 rintro k ⟨id9,out⟩ H hk ⟨hout2,o⟩;dsimp only at hout2 o
 have hol2 : out.length ≤ k := by rw [hout2]; exact Nat.le_trans (List.length_filter_le _ _) (by rw [List.length_take]; omega)
 refine tt ?_;apply bk <;> intro h1
 ·have h1p := of_decide h1
  have w1 := wsucc (k := k) (by omega)
  have ha := hout _ (mem_getD.mpr ⟨k,h1p,rfl⟩)
  have hto := hf.1.is.1.toObj ha.1.2
  have hin := hf.1.inAct ha.1 (e := e) (by rw [ha.2]; exact he)
  have hstep : ∀ b : Bool,decide (ix (ix f.acts (L.getD k default)) e ∈ ix p (ix f.shape.to (L.getD k default))) = b → (L.take (k + 1)).filter (fun a => decide (ix (ix f.acts a) e ∈ ix p (ix f.shape.to a))) = out ++ (if b then [L.getD k default] else []) := by
   intro b hb;rw [take_one L h1p,List.filter_append,← hout2]
   congr 1
   simp only [List.filter_cons,List.filter_nil,hb]
  refine tt ?_;refine ⟨h1p, ?_⟩
  generalize L.getD k default = a at *;refine tt ?_;refine ⟨⟨ha.1.1,by omega⟩,⟨hto.1,by omega⟩,⟨ha.1.1,by omega⟩,hin, ?_⟩;refine ⟨_,(has_ok B (ix p (ix f.shape.to a)) (ix (ix f.acts a) e)).run, ?_⟩
  by_cases h2 : ix (ix f.acts a) e ∈ ix p (ix f.shape.to a)
  ·rw [dec_t h2];refine tt ?_;refine app_own a o rfl rfl (by simp only [maxL]; omega) fun id9 H o => ?_;refine tw w1 ?_;exact for_next (_,_) (by omega) ⟨(hstep true (decide_eq_true h2)).symm,o⟩ rfl
  ·rw [dec_f h2];refine tw w1 ?_;exact for_next (id9,out) (by omega) ⟨by rw [hstep false (decide_eq_false h2)]; simp,o⟩ rfl
 ·have h1p := of_ndecide h1
  obtain rfl : k = L.length := by omega
  rw [List.take_length] at hout2;refine tt ?_;refine fz_own o rfl fun H o => tt ?_;exact pure_ret (by rw [hout2]) o.sub
theorem l25Value_ok (B : Nat) (f : SF) (hf : f.Is) (p : List (List Int)) (hp : p.length = f.sizes.length) (x e : Int) (hx : 0 ≤ x ∧ x < f.shape.objs) (he : 0 ≤ e ∧ e < ix f.sizes x) :
  Pur Tryz.prog B 130 [.agg f.cells,iLL p,iI x,iI e] (iL (valS f p x e)) := by
 refine ⟨fun H0 => c130 (by simp) fun _ => ?_⟩
 have hm := hf.1.is.1.m
 have hob := hf.1.is.1.o
 have htl := hf.1.is.1.tol
 have hsl := hf.1.sl
 have hal := hf.1.al;unfold s130
 have o : Owns H0 H0 [] := .nil _;refine tt ?_;refine new_list iI o fun id9 H o => tt ?_
 refine awp_for [1,2,3,4] (G := Nat × List Int) (fun k g => [(9,some (.buf g.1 g.2.length)),(10,some (.int .i64 (k : Int)))])
  (fun k g H => g.2 = nats (valP f p x e) k ∧ Owns H0 H [(g.1,.cells 1 (g.2.map iI) 0)]) f.acts.length (id9,[]) ⟨rfl,o⟩ rfl ?_
 clear o
 rintro k ⟨id9,out⟩ H hk ⟨hout,o⟩;dsimp only at hout o
 have hol : out.length ≤ k := by rw [hout]; exact nats_len _ _
 refine tt ?_;apply bk <;> intro h1
 ·have h1p := of_decide h1
  have w1 := wsucc (k := k) (by omega)
  have ha' : 0 ≤ (k : Int) ∧ (k : Int).toNat < f.shape.frm.length := ⟨by omega,by simp; omega⟩
  have hto := hf.1.is.1.toObj ha'.2;rw [ix_nat] at hto;refine tt ?_;refine ⟨by omega, ?_⟩;apply bk <;> intro h2
  ·have h2p : f.shape.frm.getD k default = x := of_decide h2
   have hin := hf.1.inAct ha' (e := e) (by rw [ix_nat,h2p]; exact he);rw [ix_nat] at hin;refine tw h2 ?_;refine ⟨by omega,⟨hto.1,by omega⟩,h1p,hin, ?_⟩;refine ⟨_,(l01Has_ok B (ix p (f.shape.to.getD k default)) (ix (f.acts.getD k default) e)).run, ?_⟩
   by_cases h3 : ix (f.acts.getD k default) e ∈ ix p (f.shape.to.getD k default)
   ·rw [dec_t h3];refine tt ?_;refine app_own (k : Int) o rfl rfl (by simp only [maxL]; omega) fun id9 H o => ?_;refine tw w1 ?_;exact for_next (_,_) (by omega) ⟨by rw [hout,nats_t (by simp only [valP,h2p,h3,decide_true,Bool.and_true])],o⟩ rfl
   ·rw [dec_f h3];refine tw w1 ?_;exact for_next (id9,out) (by omega) ⟨by rw [nats_f (by simp only [valP,h3,decide_false,Bool.and_false])]; exact hout,o⟩ rfl
  ·have h2p : ¬ f.shape.frm.getD k default = x := of_ndecide h2;try simp only [go_sem,↓reduceIte,reduceEqDiff,reduceAdd,reduceMul,reduceLeDiff,reduceLT,h2,w1]
   exact for_next (id9,out) (by omega) ⟨by rw [nats_f (by simp only [valP,h2p,decide_false,Bool.false_and])]; exact hout,o⟩ rfl
 ·have h1p := of_ndecide h1
  have hkk : k = f.shape.frm.length := by omega
  refine tt ?_;refine fz_own o rfl fun H o => tt ?_;exact pure_ret (by rw [hout,hkk]; rfl) o.sub
end Go.Proofs.Shf
namespace Go.Shf
open Go.AW
def PartAt (f g : SF) (p : List (List Int)) (x : Nat) : Prop := ((p.getD x default).length : Int) = f.sizes.getD x default ∧ ∀ y,y ∈ p.getD x default → 0 ≤ y ∧ y < g.sizes.getD x default
def PartsOk (f g : SF) (p : List (List Int)) : Prop := p.length = f.sizes.length ∧ ∀ x,x < p.length → PartAt f g p x
def NatAt (f g : SF) (p : List (List Int)) (a e : Nat) : Prop := ix (ix p (f.shape.to.getD a default)) ((f.acts.getD a default).getD e default) = ix (g.acts.getD a default) ((ix p (f.shape.frm.getD a default)).getD e default)
def NatOk (f g : SF) (p : List (List Int)) : Prop := ∀ a,a < f.acts.length → ∀ e : Nat,e < (f.acts.getD a default).length → NatAt f g p a e
structure SM.Is (m : SM) : Prop where
 s : m.src.Is
 t : m.tgt.Is
 eq : m.src.shape = m.tgt.shape
 p : PartsOk m.src m.tgt m.parts
 n : NatOk m.src m.tgt m.parts
structure MapD (f g : SF) (p : List (List Int)) : Prop where
 sf : f.Shape
 sg : g.Shape
 eq : f.shape = g.shape
 po : PartsOk f g p
structure SM.Shape (m : SM) : Prop where
 s : m.src.Is
 t : m.tgt.Is
 eq : m.src.shape = m.tgt.shape
 p : PartsOk m.src m.tgt m.parts
theorem SF.Shape.sl' {f g : SF} (hf : f.Shape) (hg : g.Shape) (e : f.shape = g.shape) : g.sizes.length = f.sizes.length := by
 have := hf.sl; have := hg.sl; rw [← e] at this; omega
theorem SM.Shape.d {m : SM} (h : m.Shape) : MapD m.src m.tgt m.parts := ⟨h.s.1,h.t.1,h.eq,h.p⟩
theorem SM.is_iff {m : SM} : m.Is ↔ m.Shape ∧ NatOk m.src m.tgt m.parts := ⟨fun h => ⟨⟨h.s,h.t,h.eq,h.p⟩,h.n⟩,fun ⟨h,n⟩ => ⟨h.s,h.t,h.eq,h.p,n⟩⟩
theorem MapD.at {f g : SF} {p : List (List Int)} (h : MapD f g p) {a e : Nat} (ha : a < f.acts.length) (he : e < (f.acts.getD a default).length) :
  (0 ≤ f.shape.frm.getD a default ∧ (f.shape.frm.getD a default).toNat < p.length) ∧ (0 ≤ f.shape.to.getD a default ∧ (f.shape.to.getD a default).toNat < p.length) ∧ a < g.acts.length ∧
  e < (ix p (f.shape.frm.getD a default)).length ∧ (0 ≤ (f.acts.getD a default).getD e default ∧ ((f.acts.getD a default).getD e default).toNat < (ix p (f.shape.to.getD a default)).length) ∧
  (0 ≤ (ix p (f.shape.frm.getD a default)).getD e default ∧ ((ix p (f.shape.frm.getD a default)).getD e default).toNat < (g.acts.getD a default).length) := by
 have hal := h.sf.al
 have hag := h.sg.al
 have f1 := h.sf.is.1.frm' (f := a) (by omega)
 have f2 := h.sf.is.1.to' (f := a) (by omega)
 have hil := h.sf.is.1.il
 have hsl := h.sf.sl
 have hp := h.po.1
 have p1 := h.po.2 _ (show (f.shape.frm.getD a default).toNat < p.length by omega)
 have p2 := h.po.2 _ (show (f.shape.to.getD a default).toNat < p.length by omega)
 have a1 := h.sf.act a ha
 have a2 := h.sg.act a (by rw [hag,← h.eq]; omega)
 have a3 := a1.2 _ (mem_getD.mpr ⟨e,he,rfl⟩);rw [← h.eq] at a2;simp only [PartAt] at p1 p2;simp only [ix] at *
 have p3 := p1.2 ((p.getD (f.shape.frm.getD a default).toNat default).getD e default) (mem_getD.mpr ⟨e,by omega,rfl⟩);refine ⟨⟨f1.1,by omega⟩,⟨f2.1,by omega⟩,by rw [hag,← h.eq]; omega,by omega,⟨a3.1,by omega⟩,p3.1,by omega⟩
end Go.Shf
namespace Go.Proofs.Shf
open Go.AW Go.Proofs Go.Shf
theorem l19Parts_ok (B : Nat) (f g : SF) (p : List (List Int)) (hg : g.sizes.length = f.sizes.length) : Pur Tryz.prog B 269 [.agg f.cells,.agg g.cells,iLL p] (.bool (dec (PartsOk f g p))) := by
 refine ⟨fun H0 => c269 (by simp) fun ⟨_,_,hp,_⟩ => ?_⟩
 have hl := fine_mL_le hp;simp only [maxL] at hl;unfold s269;refine tt ?_;apply bk <;> intro h0
 ·refine tt ?_
  have h0p := dd h0;exact pure_ret (by rw [dec_f]; intro h; exact h0p (by rw [h.1])) (.refl _)
 have h0p := dd h0
 have h0q : p.length = f.sizes.length := by omega
 refine tt ?_;refine awp_for [2,3,4] (fun k _ => [(7,some (.int .i64 (k : Int)))]) (fun k _ H => H = H0 ∧ ∀ i,i < k → PartAt f g p i) p.length () ⟨rfl,by simp⟩ rfl ?_
 rintro k _ H hk ⟨rfl,hall⟩;refine tt ?_;apply bk <;> intro h1
 ·have h1p := dd h1
  have w1 := wsucc (k := k) (by omega);refine tt ?_;refine ⟨h1p,by omega, ?_⟩;apply bn <;> intro h2
  rotate_left
  ·refine tw h2 ?_
   have h2p := dd h2;exact pure_ret (by rw [dec_f]; intro h; exact h2p (h.2 k h1p).1) (.refl _)
  ·refine tw h2 ?_
   have h2p := dd h2;refine ⟨by omega,h1p,_,(l01Map_ok B (p.getD k default) (g.sizes.getD k default)).run,tt ?_⟩;apply bk <;> intro h3
   ·refine tt ?_
    have h3p := dd h3;exact pure_ret (by rw [dec_f]; intro h; exact h3p (h.2 k h1p).2) (.refl _)
   ·refine tw w1 ?_
    have h3p := dd h3;exact for_next () (by omega) ⟨rfl,lt_succ_all hall ⟨h2p,h3p⟩⟩ rfl
 ·refine tt ?_
  have h1p := dd h1;exact pure_ret (by rw [dec_t]; exact ⟨h0q,fun x hx => hall x (by omega)⟩) (.refl _)
theorem fits_ok (B : Nat) (m : SM) (hg : m.tgt.sizes.length = m.src.sizes.length) (hz : ∀ y,y ∈ m.tgt.sizes → 0 ≤ y ∧ y < 17) : Pur Tryz.prog B 304 [.ptr m.cells] (.bool (dec (PartsOk m.src m.tgt m.parts))) := by
 refine ⟨fun H0 => c304 (by simp) fun ⟨hp,_⟩ => ?_⟩
 have hl := fine_mL_le (hp.ptr (c := iLL m.parts) (by simp [SM.cells]));simp only [maxL] at hl;unfold s304;refine tt ?_;apply bk <;> intro h0
 ·refine tt ?_
  have h0p := dd h0;exact pure_ret (by rw [dec_f]; intro h; exact h0p (by rw [h.1])) (.refl _)
 have h0p := dd h0
 have h0q : m.parts.length = m.src.sizes.length := by omega
 refine tt ?_;refine awp_for [0,20,21] (fun k _ => [(22,some (.int .i64 (k : Int)))]) (fun k _ H => H = H0 ∧ ∀ i,i < k → PartAt m.src m.tgt m.parts i) m.parts.length () ⟨rfl,by simp⟩ rfl ?_
 rintro k _ H hk ⟨rfl,hall⟩;refine tt ?_;apply bk <;> intro h1
 ·have h1p := dd h1
  have w1 := wsucc (k := k) (by omega);refine tt ?_
  have hzk := hz _ (mem_getD.mpr ⟨k,by omega,rfl⟩);refine ⟨h1p,by omega,by omega,_,(isMapOf_ok B (m.parts.getD k default) (m.src.sizes.getD k default) (m.tgt.sizes.getD k default) (by omega)).run,tt ?_⟩;apply bk <;> intro h3
  ·refine tt ?_
   have h3p := dd h3;exact pure_ret (by rw [dec_f]; intro h; exact h3p (h.2 k h1p)) (.refl _)
  ·refine tw w1 ?_
   have h3p := dd h3;exact for_next () (by omega) ⟨rfl,lt_succ_all hall h3p⟩ rfl
 ·refine tt ?_
  have h1p := dd h1;exact pure_ret (by rw [dec_t]; exact ⟨h0q,fun x hx => hall x (by omega)⟩) (.refl _)
def natK (P : Prop) (H0 : Heap) : Kont := fun r H' => H' = H0 ∧ ∃ a e : Int,r = .tup [.int .i64 a,.int .i64 e] ∧ (a < 0 ↔ P)
theorem nat_ret {P : Prop} {H0 H : Heap} {a e : Int} (h : a < 0 ↔ P) (hs : H0.sub H) : subW (natK P H0) (.tup [.int .i64 a,.int .i64 e]) H := ⟨H0,hs,rfl,a,e,rfl,h⟩
theorem l19Unnatural_ok (B : Nat) (f g : SF) (p : List (List Int)) (h : MapD f g p) (H0 : Heap) : CallH Tryz.prog B 270 [.agg f.cells,.agg g.cells,iLL p] H0 (natK (NatOk f g p) H0) := by
 refine c270 (by simp) fun ⟨_,_,hp,_⟩ => ?_
 have hl := fine_mL_le hp;simp only [maxL] at hl
 have hm := h.sf.is.1.m
 have hal := h.sf.al
 have htl := h.sf.is.1.tol;unfold s270;refine tt ?_;refine awp_for [2,3,4] (fun k _ => [(8,some (.int .i64 (k : Int)))]) (fun k _ H => H = H0 ∧ ∀ a,a < k → ∀ e : Nat,e < (f.acts.getD a default).length → NatAt f g p a e) f.acts.length () ⟨rfl,by simp⟩ rfl ?_
 rintro a _ H ha ⟨rfl,hall⟩;refine tt ?_;apply bk <;> intro h1
 ·have h1p := dd h1
  have w1 := wsucc (k := a) (by omega)
  have f1 := h.sf.is.1.frm' (f := a) (by omega)
  have hil := h.sf.is.1.il
  have hsl := h.sf.sl
  have a1 := (h.sf.act a h1p).1
  have hz := h.sf.sz _ (ix_mem (l := f.sizes) (i := f.shape.frm.getD a default) (by omega));refine tt ?_;refine ⟨by omega,by omega, ?_⟩;refine awp_for [2,3,4,8,9,10] (fun k _ => [(11,some (.int .i64 (k : Int)))]) (fun k _ H' => H' = H ∧ ∀ e : Nat,e < k → NatAt f g p a e) (f.acts.getD a default).length () ⟨rfl,by simp⟩ rfl ?_
  rintro e _ H he ⟨rfl,hall2⟩;refine tt ?_;refine ⟨by omega, ?_⟩;apply bk <;> intro h2
  ·have h2p := dd h2
   have w2 := wsucc (k := e) (by omega)
   have hat := h.at (a := a) (e := e) h1p (by omega);refine tt ?_;refine ⟨by omega,by omega,by omega,by omega,by omega,by omega,by omega,by omega, ?_⟩;apply bk <;> intro h3
   ·refine tt ?_
    have h3p := dd h3;exact nat_ret ⟨fun e => by omega,fun hn => absurd (hn a h1p e (by omega)) h3p⟩ (.refl _)
   ·refine tw w2 ?_
    have h3p := dd h3;exact for_next () (by omega) ⟨rfl,lt_succ_all hall2 h3p⟩ rfl
  ·refine tw w1 ?_
   have h2p := dd h2;exact for_next () (by omega) ⟨rfl,lt_succ_all hall fun e he => hall2 e (by omega)⟩ rfl
 ·refine tt ?_
  have h1p := dd h1;exact nat_ret ⟨fun _ a ha e he => hall a (by omega) e he,fun _ => by omega⟩ (.refl _)
theorem unnatural_ok (B : Nat) (m : SM) (h : MapD m.src m.tgt m.parts) (H0 : Heap) : CallH Tryz.prog B 253 [.ptr m.cells] H0 (natK (NatOk m.src m.tgt m.parts) H0) := by
 refine c253 (by simp) fun ⟨hp,_⟩ => ?_
 have hl := fine_mL_le (hp.ptr (c := iLL m.parts) (by simp [SM.cells]));simp only [maxL] at hl
 have hm := h.sf.is.1.m
 have hal := h.sf.al
 have htl := h.sf.is.1.tol;unfold s253;refine tt ?_;refine awp_for [0,4,16] (fun k _ => [(17,some (.int .i64 (k : Int)))]) (fun k _ H => H = H0 ∧ ∀ a,a < k → ∀ e : Nat,e < (m.src.acts.getD a default).length → NatAt m.src m.tgt m.parts a e) m.src.acts.length () ⟨rfl,by simp⟩ rfl ?_
 rintro a _ H ha ⟨rfl,hall⟩;refine tt ?_;apply bk <;> intro h1
 ·have h1p := dd h1
  have w1 := wsucc (k := a) (by omega)
  have a1 := (h.sf.act a (by omega)).1
  have f1 := h.sf.is.1.frm' (f := a) (by omega)
  have hil := h.sf.is.1.il
  have hsl := h.sf.sl
  have hz := h.sf.sz _ (ix_mem (l := m.src.sizes) (i := m.src.shape.frm.getD a default) (by omega));refine tt ?_;refine ⟨by omega, ?_⟩;refine awp_for [0,4,5,16,17,27,28] (fun k _ => [(29,some (.int .i64 (k : Int)))]) (fun k _ H' => H' = H ∧ ∀ e : Nat,e < k → NatAt m.src m.tgt m.parts a e) (m.src.acts.getD a default).length () ⟨rfl,by simp⟩ rfl ?_
  rintro e _ H he ⟨rfl,hall2⟩;refine tt ?_;apply bk <;> intro h2
  ·have h2p := dd h2
   have w2 := wsucc (k := e) (by omega)
   have hat := h.at (a := a) (e := e) (by omega) (by omega);refine tt ?_;refine ⟨by omega, ?_⟩;refine ⟨by omega,by omega,by omega,by omega,by omega,by omega,by omega,by omega, ?_⟩;apply bk <;> intro h3
   ·refine tt ?_
    have h3p := dd h3;exact nat_ret ⟨fun e => by omega,fun hn => absurd (hn a (by omega) e (by omega)) h3p⟩ (.refl _)
   ·refine tw w2 ?_
    have h3p := dd h3;exact for_next () (by omega) ⟨rfl,lt_succ_all hall2 h3p⟩ rfl
  ·refine tw w1 ?_
   have h2p := dd h2;exact for_next () (by omega) ⟨rfl,lt_succ_all hall fun e he => hall2 e (by omega)⟩ rfl
 ·refine tt ?_
  have h1p := dd h1;exact nat_ret ⟨fun _ a ha e he => hall a (by omega) e he,fun _ => by omega⟩ (.refl _)
theorem l19Between_ok (B : Nat) (f g : SF) : Pur Tryz.prog B 268 [.agg f.cells,.agg g.cells] (.bool (dec (f.Is ∧ g.Is ∧ f.shape = g.shape))) := by
 refine ⟨fun H0 => c268 (by simp) fun _ => ?_⟩;unfold s268;refine tt ?_;refine (l19Is_ok B f).go fun _ => ?_
 by_cases hf : f.Is
 ·rw [dec_t hf];refine tt ?_;refine (l19Is_ok B g).go fun _ => ?_
  by_cases hg : g.Is
  ·rw [dec_t hg];refine tt ?_;refine (l02Same_ok B f.shape g.shape).go fun _ => tt ?_;exact pure_ret (by congr 1; exact dec_congr ⟨fun h => ⟨hf,hg,h⟩,fun h => h.2.2⟩) (.refl _)
  ·rw [dec_f hg];refine tt ?_;exact pure_ret (by rw [dec_f]; exact fun h => hg h.2.1) (.refl _)
 ·rw [dec_f hf];refine tt ?_;exact pure_ret (by rw [dec_f]; exact fun h => hf h.1) (.refl _)
theorem isShapeM_ok (B : Nat) (m : SM) : Pur Tryz.prog B 252 [.ptr m.cells] (.bool (dec m.Shape)) := by
 refine ⟨fun H0 => c252 (by simp) fun _ => ?_⟩;unfold s252;refine tt ?_;refine ⟨_,(areSetFunctors_ok B [m.src,m.tgt]).run, ?_⟩
 by_cases hf : m.src.Is ∧ m.tgt.Is
 ·rw [dec_t (by simpa using hf)];refine tt ?_;refine ⟨_,(sameCategory_ok B m.src.shape m.tgt.shape).run, ?_⟩
  by_cases he : m.src.shape = m.tgt.shape
  ·rw [dec_t he];refine tt ?_;refine ⟨_,(fits_ok B m (hf.1.1.sl' hf.2.1 he) hf.2.1.sz).run,tt ?_⟩;exact pure_ret (by congr 1; exact dec_congr ⟨fun h => ⟨hf.1,hf.2,he,h⟩,fun h => h.p⟩) (.refl _)
  ·rw [dec_f he];refine tt ?_;exact pure_ret (by rw [dec_f]; exact fun h => he h.eq) (.refl _)
 ·rw [dec_f (by simpa using hf)];refine tt ?_;exact pure_ret (by rw [dec_f]; exact fun h => hf ⟨h.s,h.t⟩) (.refl _)
theorem isNatural_ok (B : Nat) (m : SM) : Pur Tryz.prog B 133 [.ptr m.cells] (.bool (dec m.Is)) := by
 refine ⟨fun H0 => c133 (by simp) fun _ => ?_⟩;unfold s133;refine tt ?_;refine (isShapeM_ok B m).go fun _ => ?_
 by_cases h : m.Shape
 ·rw [dec_t h];try simp only [go_sem,↓reduceIte,reduceEqDiff,reduceAdd,reduceMul,reduceLeDiff,reduceLT,Bool.not_true]
  refine (unnatural_ok B m h.d H0).mono' ?_
  rintro _ _ _ ⟨rfl,a,e,rfl,hk⟩;refine tt ?_;exact pure_ret (by rw [decide_dec]; congr 1; exact dec_congr ⟨fun q => SM.is_iff.mpr ⟨h,hk.mp q⟩,fun q => hk.mpr q.n⟩) (.refl _)
 ·rw [dec_f h];try simp only [go_sem,↓reduceIte,reduceEqDiff,reduceAdd,reduceMul,reduceLeDiff,reduceLT,Bool.not_false]
  exact pure_ret (by rw [dec_f]; exact fun q => h (SM.is_iff.mp q).1) (.refl _)
theorem l19IsMap_ok (B : Nat) (m : SM) : Pur Tryz.prog B 149 [.agg m.cells] (.bool (dec m.Is)) := by
 refine ⟨fun H0 => c149 (by simp) fun _ => ?_⟩;unfold s149;refine tt ?_;refine (l19Between_ok B m.src m.tgt).go fun _ => ?_
 by_cases hf : m.src.Is ∧ m.tgt.Is ∧ m.src.shape = m.tgt.shape
 ·rw [dec_t hf]
  obtain ⟨h1,h2,he⟩ := hf;try simp only [go_sem,↓reduceIte,reduceEqDiff,reduceAdd,reduceMul,reduceLeDiff,reduceLT,Bool.not_true]
  refine (l19Parts_ok B m.src m.tgt m.parts (h1.1.sl' h2.1 he)).go fun _ => ?_
  by_cases h : PartsOk m.src m.tgt m.parts
  ·rw [dec_t h]
   have hs : m.Shape := ⟨h1,h2,he,h⟩;try simp only [go_sem,↓reduceIte,reduceEqDiff,reduceAdd,reduceMul,reduceLeDiff,reduceLT,Bool.not_true]
   refine (l19Unnatural_ok B m.src m.tgt m.parts hs.d H0).mono' ?_
   rintro _ _ _ ⟨rfl,a,e,rfl,hk⟩;refine tt ?_;exact pure_ret (by rw [decide_dec]; congr 1; exact dec_congr ⟨fun q => SM.is_iff.mpr ⟨hs,hk.mp q⟩,fun q => hk.mpr q.n⟩) (.refl _)
  ·rw [dec_f h];try simp only [go_sem,↓reduceIte,reduceEqDiff,reduceAdd,reduceMul,reduceLeDiff,reduceLT,Bool.not_false]
   exact pure_ret (by rw [dec_f]; exact fun q => h q.p) (.refl _)
 ·rw [dec_f hf];try simp only [go_sem,↓reduceIte,reduceEqDiff,reduceAdd,reduceMul,reduceLeDiff,reduceLT,Bool.not_false]
  exact pure_ret (by rw [dec_f]; exact fun q => hf ⟨q.s,q.t,q.eq⟩) (.refl _)
end Go.Proofs.Shf
namespace Go.AW
end Go.AW
namespace Go.Shf
open Go.AW Go.Proofs.Shf
theorem mapL_is {f g : SF} {p : List (List Int)} (hf : f.Is) (hg : g.Is) (e : f.shape = g.shape) (h : MapL f g p) : SM.Is ⟨f,g,p⟩ := by
 have hsl := hf.1.sl
 have hl := h.len;refine ⟨hf,hg,e,⟨by show p.length = f.sizes.length; omega,fun x hx => ?_⟩,fun a ha e he => ?_⟩
 ·have hx' : x < p.length := hx
  have := h.pl x (by omega);simp only [ix_nat] at this;refine ⟨this.1,fun y hy => ?_⟩
  obtain ⟨i,hi,rfl⟩ := mem_getD.mp hy
  have h2 := this.2 i (by have : i < (p.getD x default).length := hi; omega);rw [ix_nat] at h2;exact h2
 ·have ha' : a < f.acts.length := ha
  have he' : e < (f.acts.getD a default).length := he
  have hal := hf.1.al
  have hac := hf.1.actLen (a := (a : Int)) (by simp; omega)
  have := h.nl a ⟨by omega,by simp; omega⟩ e (by rw [ix_nat] at hac; omega);simp only [ix_nat] at this;exact this
end Go.Shf
namespace Go.Proofs.Shf
open Go.AW Go.Proofs Go.Shf
theorem mark_cov {j : Top} (hF : j.Form) (hA : AllFew j.shape) {x : Int} (hx : 0 ≤ x ∧ x < j.shape.objs) {s : List Int} (hs : j.shape.Sieve x s) :
  x.toNat < (listsOf j.shape).length ∧ x.toNat < (covV j).marks.length ∧ s ∈ ix (listsOf j.shape) x ∧ (ix (covV j).marks x).length = (ix (listsOf j.shape) x).length ∧ (covV j).mark x s = decide (s ∈ j.covers.getD x.toNat default) := by
 have tab := tabOk hF.is hA
 have hmk : MarkOk (listsOf j.shape) (covV j).marks := markOk
 have hL := tab.len
 have hxL : x.toNat < (listsOf j.shape).length := by omega
 have hin : s ∈ (listsOf j.shape).getD x.toNat default := ((tab.all x.toNat hxL).mem s).mpr (by rw [Int.toNat_of_nonneg hx.1]; exact hs)
 obtain ⟨h1,h2,h3⟩ := indexOf_in hin;refine ⟨hxL,by rw [hmk.len]; exact hxL,hin,hmk.row _ hxL, ?_⟩
 have := marks_at (C := j.covers) hxL h2;rw [show ((listsOf j.shape).getD x.toNat default).getD (indexOf ((listsOf j.shape).getD x.toNat default) s).toNat default = s from h3] at this;exact this
theorem closureF_ok (B : Nat) (j : Top) (f : SF) (p : List (List Int)) (hF : j.Form) (hA : AllFew j.shape) (es : j.shape = f.shape) (hf : f.Is) (hp : f.Part p) (cnt : AV) (x e : Nat) (hx : x < f.sizes.length) (he : (e : Int) < f.sizes.getD x default) :
  Pur Tryz.prog B 259 [iI x,iI e,.ptr [.ptr ((covV j).cells cnt)],.ptr [.ptr f.cells],.ptr [iLL p]] (.bool (decide (valS f p x e ∈ j.covers.getD x default))) := by
 have hob := hf.1.is.1.o
 have hsl := hf.1.sl
 have hxo : 0 ≤ (x : Int) ∧ (x : Int) < f.shape.objs := by omega
 have hee : 0 ≤ (e : Int) ∧ (e : Int) < ix f.sizes x := by rw [ix_nat]; omega
 have hsv := val_sieve hf hp hee
 obtain ⟨h1,h2,h3,h4,h5⟩ := mark_cov hF hA (x := x) (by rw [es]; exact hxo) (by rw [es]; exact hsv)
 have hm := isM_ok B (covV j) cnt (x : Int) (valS f p x e) ⟨hxo.1,h1⟩ h2 h3 h4;rw [h5] at hm
 have hh := holding_ok B f hf p hp.len x e hxo hee
 generalize (covV j).cells cnt = cv at *;refine ⟨fun H0 => c259 (by simp) fun _ => ?_⟩;unfold s259;refine tt ?_;refine ⟨_,hh.run,tt ?_⟩;refine ⟨_,hm.run,tt ?_⟩;exact pure_ret rfl (.refl _)
theorem closurePart_ok (B : Nat) (j : Top) (f : SF) (p : List (List Int)) (hF : j.Form) (hA : AllFew j.shape) (es : j.shape = f.shape) (hf : f.Is) (hp : f.Part p) (cnt : AV) :
  Pur Tryz.prog B 141 [.ptr ((covV j).cells cnt),.ptr f.cells,.agg [iLL p]] (.agg [iLL (clF j f p)]) := by
 have hob := hf.1.is.1.o
 have hsl := hf.1.sl
 have hcl := fun x e hx he => closureF_ok B j f p hF hA es hf hp cnt x e hx he
 generalize (covV j).cells cnt = cv at *;refine ⟨fun H0 => c141 (by simp) fun _ => ?_⟩;unfold s141
 have o : Owns H0 H0 [] := .nil _;refine tt ?_;refine newRef_own o fun id6 H o => tt ?_;refine (partOf_ok B f (by omega) (fun y hy => hf.1.sz y hy) 259 [.ptr [.ptr cv],.ptr [.ptr f.cells],.ptr [iLL p]] (fun x e => decide (valS f p (x : Int) (e : Int) ∈ j.covers.getD x default)) H fun x e hx he H1 _ => (hcl x e hx he).1 H1).mono ?_
 rintro r H1 ⟨rfl,rfl⟩;refine tt ?_;refine sw o fun H o => tt ?_
 have hr := o.rc 1 0 (by simp);simp only [List.drop_zero] at hr;rw [hr];exact pure_ret rfl o.sub
open Classical in
/-- The code of a topology with a part. -/
noncomputable def closeT (j : Top) (f : SF) (p : List (List Int)) : Int := if j.Form ∧ f.Is ∧ f.Part p then codeO j f else 1
theorem closeT_no {j : Top} {f : SF} {p : List (List Int)} (h : ¬ (j.Form ∧ f.Is ∧ f.Part p)) : closeT j f p = 1 := by rw [closeT,if_neg h]
theorem closeT_yes {j : Top} {f : SF} {p : List (List Int)} (h : j.Form ∧ f.Is ∧ f.Part p) : closeT j f p = codeO j f := by rw [closeT,if_pos h]
structure CloseOk (j : Top) (f : SF) (p : List (List Int)) : Prop where
 form : j.Form
 is : f.Is
 part : f.Part p
 few : AllFew j.shape
 top : TopIs j.shape j.covers
 sh : j.shape = f.shape
theorem codeO_zero {j : Top} {f : SF} (hF : j.Form) (h : codeO j f = 0) : AllFew j.shape ∧ TopIs j.shape j.covers ∧ j.shape = f.shape := by
 rw [codeO] at h
 by_cases h0 : codeT j = 0 ∧ ¬ j.shape = f.shape
 ·rw [if_pos h0] at h; cases h
 rw [if_neg h0] at h
 have hs : j.shape = f.shape := by
  by_cases e : j.shape = f.shape
  ·exact e
  ·exact absurd ⟨h,e⟩ h0
 rw [codeT,if_neg (fun e => e hF)] at h
 by_cases h1 : AllFew j.shape
 ·rw [if_neg (fun e => e h1)] at h
  by_cases h2 : TopIs j.shape j.covers
  ·exact ⟨h1,h2,hs⟩
  ·rw [if_neg h2] at h; cases h
 ·rw [if_pos h1] at h; cases h
theorem closeT_zero {j : Top} {f : SF} {p : List (List Int)} (h : closeT j f p = 0) : CloseOk j f p := by
 by_cases h1 : j.Form ∧ f.Is ∧ f.Part p
 ·rw [closeT_yes h1] at h
  obtain ⟨h2,h3,h4⟩ := codeO_zero h1.1 h;exact ⟨h1.1,h1.2.1,h1.2.2,h2,h3,h4⟩
 ·rw [closeT_no h1] at h; cases h
theorem CloseOk.code {j : Top} {f : SF} {p : List (List Int)} (h : CloseOk j f p) : closeT j f p = 0 := by
 rw [closeT_yes ⟨h.form,h.is,h.part⟩,codeO,if_neg (fun e => e.2 h.sh),codeT,if_neg (fun e => e h.form),if_neg (fun e => e h.few),if_pos h.top]
theorem partCode_ok (B : Nat) (j : Top) (f : SF) (p : List (List Int)) (H0 : Heap) : CallH Tryz.prog B 140 [.ptr j.cells,.ptr f.cells,.agg [iLL p]] H0 (CovK j (closeT j f p) H0) := by
 refine c140 (by simp) fun _ => ?_;unfold s140;refine tt ?_;refine (hasForm_ok B j).go fun _ => ?_
 by_cases h1 : j.Form
 rotate_left 1
 ·rw [dec_f h1];refine tt ?_;exact cov_ret (.refl _) (closeT_no fun e => h1 e.1).symm fun e => by rw [closeT_no fun e => h1 e.1] at e; cases e
 rw [dec_t h1];refine tt ?_;refine (areParts_ok B f p).go fun _ => ?_
 by_cases h2 : f.Is ∧ f.Part p
 rotate_left 1
 ·rw [dec_f h2];refine tt ?_;exact cov_ret (.refl _) (closeT_no fun e => h2 e.2).symm fun e => by rw [closeT_no fun e => h2 e.2] at e; cases e
 rw [dec_t h2];refine tt ?_;refine (onCode_ok B j f h1 _).mono ?_
 rintro r H ⟨rfl,X,rfl,hX⟩;refine tt ?_;exact cov_ret (.refl _) (closeT_yes ⟨h1,h2⟩).symm fun e => hX (by rw [← closeT_yes ⟨h1,h2⟩]; exact e)
noncomputable def closeR (j : Top) (f : SF) (p : List (List Int)) : AV := .tup [.agg [if closeT j f p = 0 then iLL (clF j f p) else .nilsl],iI (closeT j f p)]
theorem closeR_no {j : Top} {f : SF} {p : List (List Int)} (h : closeT j f p ≠ 0) : closeR j f p = .tup [.agg [.nilsl],iI (closeT j f p)] := by
 rw [closeR,if_neg h]
theorem closeR_yes {j : Top} {f : SF} {p : List (List Int)} (h : closeT j f p = 0) : closeR j f p = .tup [.agg [iLL (clF j f p)],iI 0] := by
 rw [closeR,if_pos h,h]
theorem implClose_ok (B : Nat) (j : Top) (f : SF) (p : List (List Int)) : Pur Tryz.prog B 55 [.agg j.cells,.agg f.cells,.agg [iLL p]] (closeR j f p) := by
 refine ⟨fun H0 => c55 (by simp) fun _ => ?_⟩;unfold s55
 have o : Owns H0 H0 [] := .nil _;refine tt ?_;refine newRef_own o fun id6 H o => tt ?_;refine (partCode_ok B j f p _).mono ?_
 rintro r H1 ⟨rfl,X,rfl,hX⟩;refine tt ?_
 by_cases h0 : closeT j f p = 0
 rotate_left 1
 ·refine ⟨fun _ => At.mk ?_,fun e => absurd (by simpa using e) h0⟩;refine tt ?_;refine sw o fun H o => tt ?_
  have hr := o.rc 1 0 (by simp);simp only [List.drop_zero] at hr;rw [hr];exact pure_ret (closeR_no h0).symm o.sub
 refine ⟨fun e => absurd h0 (by simpa using e),fun _ => At.mk ?_⟩
 obtain ⟨cnt,rfl⟩ := hX h0
 have hk := closeT_zero h0
 have hcp := closurePart_ok B j f p hk.form hk.few hk.sh hk.is hk.part cnt
 generalize (covV j).cells cnt = cv at *;refine tt ?_;refine hcp.go fun _ => tt ?_;refine sw o fun H o => tt ?_
 have hr := o.rc 1 0 (by simp);simp only [List.drop_zero] at hr;rw [hr];exact pure_ret (closeR_yes h0).symm o.sub
end Go.Proofs.Shf
