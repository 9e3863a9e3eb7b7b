/- A part of a proof. -/
import Derived.Test.YtphikjciekmijaaGreatF10
import Derived.Test.YtphikjciekmijaaGreatProg
import Derived.Recover
import Derived.Tactics
import Derived.Deep.Slices
import Derived.SizedLaws
set_option linter.unusedVariables false
set_option linter.unusedSimpArgs false
set_option linter.unusedSectionVars false
set_option maxRecDepth 100000
open Nat (reduceEqDiff reduceAdd reduceMul reduceLeDiff reduceLT)
namespace Go.AW
open Go.RowKit
end Go.AW
namespace Go.Proofs.Shf
open Go.AW Go.Proofs
end Go.Proofs.Shf
namespace Go.Proofs.Shf
open Go.AW Go.Proofs Go.Shf
end Go.Proofs.Shf
namespace Go.AW
end Go.AW
namespace Go.Proofs.Shf
open Go.AW Go.Proofs Go.Shf
end Go.Proofs.Shf
namespace Go.Shf
open Go.AW
end Go.Shf
namespace Go.Proofs.Shf
open Go.AW Go.Proofs Go.Shf
def WkV (a b : AV) : Prop:=∀ g v,VRel g a v→VRel g b v
end Go.Proofs.Shf
namespace Go.Shf
open Go.AW
end Go.Shf
namespace Go.Proofs.Shf
open Go.AW Go.Proofs Go.Shf
end Go.Proofs.Shf
namespace Go.Shf
open Go.AW
end Go.Shf
namespace Go.Proofs.Shf
open Go.AW Go.Proofs Go.Shf
theorem maps_any (f g : SF) : ∃ (p : PF) (cd : Int),(cd=0→f.Is∧g.Is∧FewP f g∧p=mapsP f g) ∧
  (∀ (B : Nat) (H0 : Heap),CallH Tryz.prog B 9 [.agg f.cells,.agg g.cells] H0 fun r H'=>H'=H0∧r=.tup [.agg p.cells,iI cd]) ∧
  ∀ (B : Nat) (H0 : Heap),CallH Tryz.prog B 10 [.agg f.cells,.agg g.cells] H0 fun r H'=>H'=H0∧r=.tup [.agg p.cells,iI cd]:=by
 by_cases h : f.Is∧g.Is
 ·by_cases few : FewP f g
  ·refine ⟨mapsP f g,0,fun _=>⟨h.1,h.2,few,rfl⟩,fun B H0=>?_,fun B H0=>?_⟩
   ·rw [← mpR_yes few]; exact mapsI_ok B h.1 h.2 H0
   ·rw [← mpR_yes few]; exact mapsS_ok B h.1 h.2 H0
  ·refine ⟨pf0,3,fun e=>by omega,fun B H0=>?_,fun B H0=>?_⟩
   ·rw [← mpR_no few]; exact mapsI_ok B h.1 h.2 H0
   ·rw [← mpR_no few]; exact mapsS_ok B h.1 h.2 H0
 ·exact ⟨pf0,1,fun e=>by omega,fun B H0=>mapsI_bad B h H0,fun B H0=>mapsS_bad B h H0⟩
theorem fnMapsEnds_ok (B : Nat) (code : List UInt8) : Pur Tryz.prog B 3 [mL Go.AW.iB code] (.bool true):=by
 refine ⟨fun H0=>c3 (by simp) fun _=>?_⟩;unfold s3
 have o : Owns H0 H0 []:=.nil _;refine tt ?_;refine (big_ok B code).go fun _=>tt ?_;apply bk <;> intro g0
 ·refine tt ?_;exact pure_ret rfl (.refl _)
 refine tt ?_;refine (drawMP_ok B code).go fun r _ ⟨f,g,e⟩=>?_;subst e;refine tt ?_;refine nb o fun id3 H o=>tt ?_;refine nb o fun id4 H o=>tt ?_;refine sw o.swap fun H o=>tt ?_;refine sw o.swap fun H o=>tt ?_
 have o : Owns H0 H [(id4,.cells 7 g.cells 0),(id3,.cells 7 f.cells 0)]:=o;refine rd_celln o.tl (by simp [SF.cells]) ?_;refine tt ?_;refine rd_celln o (by simp [SF.cells]) ?_;refine tt ?_
 obtain ⟨p,cd,hcd,hI,hS⟩:=maps_any f g;refine (hI B H).mono ?_
 rintro r H' ⟨rfl,rfl⟩;refine tt ?_;refine nb o fun id5 H o=>tt ?_;refine sw o fun H o=>tt ?_
 have o : Owns H0 H [(id5,.cells 13 p.cells 0),(id4,.cells 7 g.cells 0),(id3,.cells 7 f.cells 0)]:=o;refine rd_celln o.tl.tl (by simp [SF.cells]) ?_;refine tt ?_;refine rd_celln o.tl (by simp [SF.cells]) ?_;refine tt ?_;refine (hS B H).mono ?_
 rintro r H' ⟨rfl,rfl⟩;refine tt ?_;refine nb o fun id7 H o=>tt ?_;refine sw o fun H o=>?_;refine td ?_
 have o : Owns H0 H [(id7,.cells 13 p.cells 0),(id5,.cells 13 p.cells 0),(id4,.cells 7 g.cells 0),(id3,.cells 7 f.cells 0)]:=o;refine rd_celln o.tl (by simp [PF.cells]) ?_;refine tt ?_;refine rd_celln o (by simp [PF.cells]) ?_;refine tt ?_;refine (lkProf5_ok B p).go fun _=>?_;refine td ?_
 by_cases h0 : cd=0
 rotate_left
 ·rw [decide_eq_false h0];refine tt ?_;exact pure_ret rfl o.sub
 obtain ⟨hf,hg,few,rfl⟩:=hcd h0;subst h0
 have hp:=mapsP_is hf hg few;refine td ?_;refine rd_celln o (by simp [PF.cells]) ?_;refine tt ?_;refine (endOfI_ok B _ hp).go fun _=>?_
 obtain ⟨E,c1,e1,h1⟩ : ∃ (E : List (List Int)) (c1 : Int),pendR (mapsP f g)=.tup [iLL E,iI c1]∧(c1=0→f.shape=g.shape∧E=endL (mapsP f g)):=by
  by_cases sh : (mapsP f g).tgt=(mapsP f g).src
  ·by_cases hl : (endL (mapsP f g)).length≤200
   ·exact ⟨_,0,by rw [pendR,if_pos sh,if_pos hl],fun _=>⟨sh.symm,rfl⟩⟩
   ·exact ⟨[],3,by rw [pendR,if_pos sh,if_neg hl],fun h=>by omega⟩
  ·exact ⟨[],5,by rw [pendR,if_neg sh],fun h=>by omega⟩
 rw [e1];refine tt ?_;refine rd_celln o (by simp [PF.cells]) ?_;refine tt ?_;refine (endOfS_ok B _ hp).go fun _=>?_;rw [e1];refine td ?_;refine (lkRows5_ok B E).go fun _=>tt ?_;refine rd_celln o (by simp [PF.cells]) ?_;refine tt ?_;refine (isProfunctor_ok B _ hp).go fun _=>tt ?_;refine rd_celln o.tl.tl.tl (by simp [SF.cells]) ?_;refine tt ?_;refine rd_celln o.tl.tl (by simp [SF.cells]) ?_;refine tt ?_;refine (implMapsE_ok B hf hg).go fun r _ e=>?_
 obtain ⟨M,c2,e2,h2⟩ : ∃ (M : List (List (List Int))) (c2 : Int),AllME f g=.tup [iLLL M,iI c2]∧(c2=0→M=allMp f g (blankT f)):=by
  by_cases sh : f.shape=g.shape
  ·by_cases hl : 12<f.sizes.sum∨200<(allMp f g (blankT f)).length
   ·exact ⟨[],3,by rw [AllME,if_pos sh,AllMR,if_pos hl],fun h=>by omega⟩
   ·exact ⟨_,0,by rw [AllME,if_pos sh,AllMR,if_neg hl],fun _=>rfl⟩
  ·exact ⟨[],5,by rw [AllME,if_neg sh],fun h=>by omega⟩
 rw [e2] at e;subst e;refine tt ?_;refine rd_celln o.tl.tl.tl (by simp [SF.cells]) ?_;refine tt ?_;refine rd_celln o.tl.tl (by simp [SF.cells]) ?_;refine tt ?_;refine (specMapsE_ok B hf hg).go fun _=>?_;rw [e2];refine td ?_;refine (lkCubes5_ok B M).go fun _=>?_;refine td ?_
 by_cases z1 : c1=0
 rotate_left
 ·rw [decide_eq_false z1];refine tt ?_;exact pure_ret rfl o.sub
 subst z1;refine td ?_
 by_cases z2 : c2=0
 rotate_left
 ·rw [decide_eq_false z2];refine tt ?_;exact pure_ret rfl o.sub
 subst z2
 obtain ⟨sh,rfl⟩:=h1 rfl
 obtain rfl:=h2 rfl
 have hc:=end_count hf hg sh few;try simp only [go_sem,↓reduceIte,reduceEqDiff,reduceAdd,reduceMul,reduceLeDiff,reduceLT,dT5,hc]
 exact pure_ret rfl o.sub
end Go.Proofs.Shf
namespace Go.AW
def WN (P : AV→Prop) (a : AV) : Prop:=(∃ al : List AV,a=.sl al∧∀ x,x∈al→P x)∨∃ n,1048576<n∧n≤140737488355328∧a=.big n
def WB (a : AV) : Prop:=(∃ l : List UInt8,a=mL iB l)∨∃ n,1048576<n∧n≤140737488355328∧a=.big n
end Go.AW
namespace Go.Proofs.Shf
open Go.AW Go.Proofs Go.Shf
open Go.Deep
def gh0 (W : World) : Gh:=⟨fun b o=>W.cell? ⟨b,o,none⟩,fun _=>none,fun _=>none⟩
theorem wrel0 (W : World) : WRel (gh0 W) W.heap.size [] W where
 fz b o v h:=h
 fm b es h:=by cases h
 ob i o h:=by simp [Heap.get] at h
 inj i j b c c' n h:=by simp [Heap.get] at h
 injm i j b n h:=by simp [Heap.get] at h
 base:=Nat.le_refl _
 fin:=⟨0,fun i _=>rfl⟩
section
variable {H : Type} {enc : TypeId × Value→H} {W : World}
def RdV (enc : TypeId × Value→H) (W : World) (t : TypeId) (Q : AV→Prop) : Prop :=
 ∀ fuel v d ps,DataW.trod enc Tryz.prog W 0 (fun _=>true) true fuel t [v]=some (d,ps)→(∀ n,n∈d.weights Tryz.prog t→n≤reachBytes)→∃ a,Q a∧VRel (gh0 W) a v
theorem rd_byte : RdV enc W 5 fun a=>∃ b : UInt8,a=Go.AW.iB b:=by
 intro fuel v d ps h _
 cases fuel with
 | zero=>simp [DataW.trod] at h
 | succ fuel =>
  cases v <;> simp only [DataW.trod,Tryz.underlying5] at h <;> try (cases h; done)
  rename_i k n
  split at h
  ·rename_i hk
   obtain ⟨rfl,hf⟩:=hk
   have hr : 0≤n∧n≤255:=by
    simp only [Lit.wf,Bool.and_eq_true,decide_eq_true_eq] at hf;exact ⟨hf.1,hf.2⟩
   refine ⟨_,⟨UInt8.ofNat n.toNat,rfl⟩, ?_⟩
   have e : Go.AW.iB (UInt8.ofNat n.toNat)=.int .u8 n:=by
    have h1 : (UInt8.ofNat n.toNat).toNat=n.toNat:=by rw [UInt8.toNat_ofNat']; omega
    rw [Go.AW.iB,h1,Int.toNat_of_nonneg hr.1]
   rw [e];exact .int _ n
  ·cases h
theorem weightsAll_mem {P : Program} {e : TypeId} {l : List (DataW H)} {x : DataW H} (hx : x∈l) {n : Nat} (hn : n∈x.weights P e) : n∈DataW.weightsAll P e l:=by
 induction l with
 | nil=>simp at hx
 | cons y r ih =>
  simp only [DataW.weightsAll,List.mem_append]
  rcases List.mem_cons.mp hx with rfl | hx
  ·exact .inl hn
  ·exact .inr (ih hx)
theorem rd_slice {t e : TypeId} {Q : AV→Prop} (ht : Tryz.prog.underlying t=some (.slice e)) (hc : Tryz.prog.cellsOf e=1) (hb : 1≤Tryz.prog.bytesOf e) (hQ : ∀ a,Q a→a.cells=[a]) (h : RdV enc W e Q) : RdV enc W t (WN Q):=by
 intro fuel v d ps htr hw
 rcases open_slice1 ht hc htr with ⟨hv,hx⟩ | ⟨a,len,cap,m,n,V,D,Pl,hv,_,hl,hm,hmm,hx,hel⟩
 ·injection hv with hv
  subst hv;exact ⟨.sl [],.inl ⟨[],rfl,by simp⟩,.slnil none 0⟩
 ·injection hv with hv
  subst hv;simp only [if_true] at hmm;subst hmm;simp only [Prod.mk.injEq] at hx
  obtain ⟨rfl,rfl⟩:=hx
  have hw0 : (((List.range len).map D).length+((List.range (m - len)).map fun j=>D (len+j)).length)*Tryz.prog.bytesOf e≤reachBytes:=hw _ (by simp [DataW.weights,ht])
  have hlen : len≤140737488355328:=by
   simp only [List.length_map,List.length_range] at hw0
   have h1 : len*1≤(len+(m - len))*Tryz.prog.bytesOf e:=Nat.mul_le_mul (by omega) hb
   have h2 : reachBytes≤140737488355328:=by decide
   omega
  by_cases hbig : 1099511627776<len
  ·exact ⟨.big len,.inr ⟨len,by omega,hlen,rfl⟩,.big _ _ _ hlen⟩
  ·have hall : ∀ i,∃ x,i<len→Q x∧VRel (gh0 W) x (V i):=by
    intro i
    by_cases hi : i<len
    ·obtain ⟨x,q1,q2⟩:=h n (V i) (D i) (Pl i) (hel i (by omega)).2 fun k hk=>hw k (by
      simp only [DataW.weights,ht,List.mem_cons,List.mem_append];exact .inr (.inl (weightsAll_mem (List.mem_map.mpr ⟨i,List.mem_range.mpr hi,rfl⟩) hk)))
     exact ⟨x,fun _=>⟨q1,q2⟩⟩
    ·exact ⟨.nilp,fun h=>absurd h hi⟩
   obtain ⟨A,hA⟩:=Classical.axiomOfChoice hall
   have hget : ∀ i,i<len→((List.range len).map A).getD i nv=A i:=fun i hi=>getD_map_range A nv hi;refine ⟨.sl ((List.range len).map A),.inl ⟨_,rfl,fun x hx=>?_⟩, ?_⟩
   ·obtain ⟨i,hi,rfl⟩:=List.mem_map.mp hx;exact (hA i (List.mem_range.mp hi)).1
   ·by_cases h0 : len=0
    ·subst h0; exact .slnil _ _
    ·have hsp : a=⟨a.block,a.off,none⟩:=by
      have:=(hel 0 (by omega)).1
      obtain ⟨b,o,s⟩:=a
      cases s with
      | none=>rfl
      | some s=>exfalso; simp [Addr.add,World.cell?] at this; split at this <;> simp at this
     have hadd : ∀ i,a.add i=⟨a.block,a.off+i,none⟩:=by
      intro i;rw [hsp];unfold Addr.add
      split
      ·rename_i e; simp [e]
      ·rfl
     have key : VRel (gh0 W) (.sl ((List.range len).map A)) (.slice (some ⟨a.block,a.off,none⟩) ((List.range len).map A).length m):=by
      refine .sl _ a.block a.off 1 m V (by simp [maxL]; omega) (by simp; omega) (fun i hi=>?_) (fun i j hi hj=>?_) (fun i j hi hj=>?_)
      ·rw [hget i (by simpa using hi),hQ _ (hA i (by simpa using hi)).1]; rfl
      ·have hi' : i<len:=by simpa using hi
       have:=(hel i (by omega)).1;rw [hadd] at this
       have e : i*1+j=i:=by omega
       rw [e]; exact this
      ·have hi' : i<len:=by simpa using hi
       have e : i*1+j=i:=by omega
       obtain rfl : j=0:=by omega
       rw [e,hget i hi',hQ _ (hA i hi').1];exact (hA i hi').2
     rw [List.length_map,List.length_range,← hsp] at key;exact key
theorem WB.of {a : AV} (h : WN (fun a=>∃ b : UInt8,a=Go.AW.iB b) a) : WB a:=by
 rcases h with ⟨l,rfl,hl⟩ | h
 ·refine .inl ⟨l.map fun x=>match x with | .int _ n=>UInt8.ofNat n.toNat | _=>0, ?_⟩
  rw [mL,List.map_map]
  congr 1
  have : ∀ x,x∈l→(Go.AW.iB ∘ fun x : AV=>match x with | .int _ n=>UInt8.ofNat n.toNat | _=>0) x=x:=fun x hx=>by
   obtain ⟨n,rfl⟩:=hl x hx
   simp [Go.AW.iB]
  exact ((List.map_congr_left this).trans (by simp)).symm
 ·exact .inr h
theorem rd_bytes : ∀ fuel v d ps,DataW.trod enc Tryz.prog W 0 (fun _=>true) true fuel 22 [v]=some (d,ps)→(∀ n,n∈d.weights Tryz.prog 22→n≤reachBytes)→∃ a,WB a∧VRel (gh0 W) a v:=fun fuel v d ps k w=>by
 obtain ⟨a,q1,q2⟩:=rd_slice Tryz.underlying22 (by kernel_rfl) (of_decide_eq_true (by kernel_rfl)) (fun a ⟨n,e⟩=>by rw [e]; rfl) rd_byte fuel v d ps k w;exact ⟨a,WB.of q1,q2⟩
end
theorem big_big (B n : Nat) (hn : 1048576<n) : Pur Tryz.prog B 7 [.big n] (.bool true):=by
 refine ⟨fun H0=>c7 (by simp) fun hf=>?_⟩;unfold s7;refine tt ?_;exact pure_ret (by congr 1; simp; omega) (.refl _)
end Go.Proofs.Shf
