/- A part of a proof. -/
import Derived.Test.YtphikjciekmijaaGreatDoorF10
import Derived.WalkSmall
import Derived.Test.YtphikjciekmijaaGreatDoorProg
import Derived.Recover
import Derived.Tactics
set_option linter.unusedVariables false
set_option linter.unusedSimpArgs false
set_option linter.unusedSectionVars false
set_option maxRecDepth 100000
open Nat (reduceEqDiff reduceAdd reduceMul reduceLeDiff reduceLT)
namespace Go.Proofs.Shf
open Go.AW Go.Proofs Go.Shf
end Go.Proofs.Shf
namespace Go.Shf
open Go.AW Go.Proofs.Shf
end Go.Shf
namespace Go.Proofs.Shf
open Go.AW Go.Proofs Go.Shf
end Go.Proofs.Shf
namespace Go.AW
open Go.RowKit
def FinP (g : Gh) (B : Nat) (w : World) (X : Heap→Prop) (w' : World) : Prop:=∃ g' H',g.le g'∧X H'∧WRel g' B H' w'∧Below B w w'
def Chn (ch : List PanicEntry) : Prop:=∃ t v,ch=[{ v:=.iface t v,recovered:=false }]
def CallX (P : Program) (B : Nat) (f : FuncId) (args : List AV) (H : Heap) (K : Kont) (X : Heap→Prop) : Prop :=
 Enters P f∧∀ g w vs,WRel g B H w→VRels g args vs→Calls P f vs w fun e w'=>(∃ v,e=.returned v∧FinV g B w K v w')∨∃ ch,e=.panicked ch∧Chn ch∧FinP g B w X w'
def callXW (P : Program) (B : Nat) : Option AV→Option (List AV)→Kont→(Heap→Prop)→Heap→Prop
 | some (.fn (.func f) ca),some ais,K,X,H=>CallX P B f (ais++ca) H K X
 | _,_,_,_,_=>False
@[go_sem] theorem callXW_fn {P : Program} {B : Nat} {H : Heap} (f : FuncId) (ca ais : List AV) (K : Kont) (X : Heap→Prop) : callXW P B (some (.fn (.func f) ca)) (some ais) K X H=CallX P B f (ais++ca) H K X:=rfl
inductive XC where
 | sc (s : SC)
 | seq (a b : XC)
 | cond (x : X) (a b : XC)
 | block (id : Nat) (c : XC)
 | loop (l : List Nat) (c : XC)
 | keep (l : List Nat) (c : XC)
 | callx (pre : List SOp) (d : Option Nat) (f : X) (xs : List X)
 | pnc (pre : List SOp) (x : X)
def isI : Option AV→Prop
 | some (.ifc _ _)=>True
 | _=>False
@[go_sem] theorem isI_ifc (t : TypeId) (v : AV) : isI (some (.ifc t v))=True:=rfl
def pncW (x : X) (X0 : Heap→Prop) (σ : Env) (H : Heap) : Prop:=isI (val σ x)∧X0 H
def clxW (P : Program) (B : Nat) (d : Option Nat) (f : X) (xs : List X) (F : Env→Heap→Prop) (X0 : Heap→Prop) (σ : Env) (H : Heap) : Prop :=
 callXW P B (val σ f) (vals σ xs) (putK d F σ) X0 H
def xwp (P : Program) (B : Nat) : XC→AQ→(Heap→Prop)→Env→Heap→Prop
 | .sc s,Q,_,σ,H=>awp P B s Q σ H
 | .seq a b,Q,X0,σ,H=>xwp P B a (seqQ (xwp P B b Q X0) Q) X0 σ H
 | .cond x a b,Q,X0,σ,H=>cndW (val σ x) (xwp P B a Q X0) (xwp P B b Q X0) σ H
 | .block id c,Q,X0,σ,H=>xwp P B c (blkQ id Q) X0 σ H
 | .loop l c,Q,X0,σ,H=>loopW l (fun Q=>xwp P B c Q X0) Q (Env.keep l σ) H
 | .keep l c,Q,X0,σ,H=>xwp P B c Q X0 (Env.keep l σ) H
 | .callx pre d f xs,Q,X0,σ,H=>opsW P B pre (clxW P B d f xs (Q .norm) X0) σ H
 | .pnc pre x,_,X0,σ,H=>opsW P B pre (pncW x X0) σ H
section
variable {P : Program} {B : Nat} {Q : AQ} {X0 : Heap→Prop} {σ : Env} {H : Heap}
@[go_sem] theorem xwp_sc (s : SC) : xwp P B (.sc s) Q X0 σ H=awp P B s Q σ H:=rfl
@[go_sem] theorem xwp_seq (a b : XC) : xwp P B (.seq a b) Q X0 σ H=xwp P B a (seqQ (xwp P B b Q X0) Q) X0 σ H:=rfl
@[go_sem] theorem xwp_cond (x : X) (a b : XC) : xwp P B (.cond x a b) Q X0 σ H=cndW (val σ x) (xwp P B a Q X0) (xwp P B b Q X0) σ H:=rfl
@[go_sem] theorem xwp_block (id : Nat) (c : XC) : xwp P B (.block id c) Q X0 σ H=xwp P B c (blkQ id Q) X0 σ H:=rfl
@[go_sem] theorem xwp_keep (l : List Nat) (c : XC) : xwp P B (.keep l c) Q X0 σ H=xwp P B c Q X0 (Env.keep l σ) H:=rfl
@[go_sem] theorem xwp_callx (pre : List SOp) (d : Option Nat) (f : X) (xs : List X) : xwp P B (.callx pre d f xs) Q X0 σ H=opsW P B pre (clxW P B d f xs (Q .norm) X0) σ H:=rfl
@[go_sem] theorem xwp_pnc (pre : List SOp) (x : X) : xwp P B (.pnc pre x) Q X0 σ H=opsW P B pre (pncW x X0) σ H:=rfl
@[go_sem] theorem clxW_eq (d : Option Nat) (f : X) (xs : List X) (F : Env→Heap→Prop) : clxW P B d f xs F X0 σ H=callXW P B (val σ f) (vals σ xs) (putK d F σ) X0 H:=rfl
@[go_sem] theorem pncW_eq (x : X) : pncW x X0 σ H=(isI (val σ x)∧X0 H):=rfl
end
end Go.AW
namespace Go.AW
open Go.RowKit
end Go.AW
namespace Go.AW
open Go.RowKit
end Go.AW
namespace Go.AW
open Go.RowKit
end Go.AW
namespace Go.Proofs.Shf
open Go.AW Go.Proofs
end Go.Proofs.Shf
namespace Go.Proofs.Shf
open Go.AW Go.Proofs Go.Shf
end Go.Proofs.Shf
namespace Go.AW
end Go.AW
namespace Go.Proofs.Shf
open Go.AW Go.Proofs Go.Shf
end Go.Proofs.Shf
namespace Go.Shf
open Go.AW
end Go.Shf
