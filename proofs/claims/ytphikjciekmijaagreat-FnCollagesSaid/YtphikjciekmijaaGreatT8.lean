/- A part of a proof. -/
import Derived.Test.YtphikjciekmijaaGreatT7
import Derived.Test.YtphikjciekmijaaGreatProg
import Derived.Tactics
import Derived.Tactics2
import Derived.Defers
import Derived.Laws.Pointers
import Derived.Laws.LoneSync
import Derived.RegionTactic
import Derived.RegionCalls
import Derived.ChangeAlike
set_option linter.unusedVariables false
set_option linter.unusedSimpArgs false
set_option linter.unusedSectionVars false
set_option maxRecDepth 100000
open Nat (reduceEqDiff reduceAdd reduceMul reduceLeDiff reduceLT)
namespace Go.Proofs.Shf
open Go.AW Go.Proofs Go.Shf
theorem rH {c : Ax} {x y : Int} {i : Nat} (h1 : c.AB.getD i default=x) (h2 : c.to.getD i default=y) : NY c x y i=true:=by
 simp only [NY,Bool.and_eq_true,decide_eq_true_eq]; exact ⟨h1,h2⟩
theorem cO {c : Ax} {x y : Int} {i : Nat} (h : ¬ (c.AB.getD i default=x∧c.to.getD i default=y)) : NY c x y i=false:=by
 simp only [NY,Bool.and_eq_false_iff,decide_eq_false_iff_not]
 by_cases h1 : c.AB.getD i default=x
 ·exact .inr fun h2=>h ⟨h1,h2⟩
 ·exact .inl h1
theorem N3 (B : Nat) (c : Ax) (hs : c.Shape) (x y : Int) : PB B 122 [.ptr c.cells,iI x,iI y] (iL (sC c x y)):=by
 refine ⟨fun H0=>xC.go fun _=>?_⟩
 have hm:=hs.m
 have Jc:=hs.L5;refine tt ?_;refine Az iI (.nil _) fun id H o=>tt ?_;refine AD [0,1,2,14] (G:=Nat × List (Int)) (fun k g=>[(7,some (.buf g.1 g.2.length)),(15,some (.int .i64 (k : Int)))]) (fun k g H=>g.2=(GI (NY c x y) k)∧A9 H0 H [(g.1,.cells 1 (g.2.map iI) 0)]) c.AB.length (id,[]) ⟨by simp,o⟩ rfl ?_
 rintro k ⟨id,out⟩ H hk ⟨B2,o⟩;dsimp only at B2;refine tt ?_;apply bk <;> intro h1
 ·have h1:=A6 h1
  have w1:=ws k
  have hlen : out.length≤k:=by rw [B2]; exact IA _ _
  refine tt ?_;refine ⟨h1, ?_⟩;apply bk <;> intro h2
  ·refine tw h2 ?_
   have Aq:=dd h2;refine ⟨by omega, ?_⟩;apply bk <;> intro h3
   ·refine tw h3 ?_
    have BH:=dd h3;refine Ae (k : Int) o rfl rfl (by simp only [AN]; omega) fun id H o=>?_;refine tw w1 ?_;exact A4 (_,_) (by omega) ⟨by rw [B2,YP (rH Aq BH)],o⟩ rfl
   ·refine t2 h3 w1 ?_
    have BH:=dd h3;exact A4 (_,_) (by omega) ⟨by rw [B2,UI (cO fun e=>BH e.2)],o⟩ rfl
  ·refine t2 h2 w1 ?_
   have Aq:=dd h2;exact A4 (_,_) (by omega) ⟨by rw [B2,UI (cO fun e=>Aq e.1)],o⟩ rfl
 ·refine tt ?_
  have h1:=A7 h1;refine Am o rfl fun H o=>tt ?_;exact A5 (by rw [B2,show k=c.AB.length by omega]; rfl) o.sub
end Go.Proofs.Shf
namespace Go.Shf
open Go.AW
def Ax.th (c : Ax) (f g : Int) : Int:=ix (ix c.comp f) g
def Bs (c : Ax) (L : List Int) : List Int:=GI (fun f=>decide (c.AB.getD f default∈L) && decide (c.to.getD f default∈L)) c.AB.length
theorem EJ {c : Ax} {L : List Int} {f : Int} : f∈Bs c L↔(0≤f∧f.toNat<c.AB.length)∧ix c.AB f∈L∧ix c.to f∈L:=by
 simp only [Bs,SQ,Bool.and_eq_true,decide_eq_true_eq,and_assoc]; exact Iff.rfl
theorem Lt {c : Ax} {L : List Int} : (Bs c L).Nodup:=(L4.mp (LJ _ _)).imp fun {a b} h=>by omega
def part (c : Ax) (L : List Int) : Ax:=⟨L.length,(Bs c L).map fun a=>indexOf L (ix c.AB a),(Bs c L).map fun a=>indexOf L (ix c.to a),L.map fun x=>indexOf (Bs c L) (ix c.Ac x),
 (Bs c L).map fun a=>(Bs c L).map fun b=>indexOf (Bs c L) (c.th a b)⟩
structure pr (c : Ax) (L : List Int) : Prop where
 nd : L.Nodup
 Nt : ∀ x,x∈L→0≤x∧x<c.AF
section
variable {c : Ax} {L : List Int}
theorem YW : (Bs c L).length≤c.AB.length:=by
 have:=List.Nodup.length_le_of_subset (l₁:=Bs c L) (l₂:=(List.range c.AB.length).map Int.ofNat) Lt fun x hx=>by
  have:=(EJ.mp hx).1;exact List.mem_map.mpr ⟨x.toNat,List.mem_range.mpr (by omega),Int.toNat_of_nonneg this.1⟩
 simpa using this
theorem M5 {l : List Int} {x : Int} (h : x ∉ l) : indexOf l x=-1:=Dk fun i hi e=>h (AE.mpr ⟨i,hi,e⟩)
end
end Go.Shf
