/- A part of a proof. -/
import Derived.Test.YtphikjciekmijaaGreatF9
import Derived.WalkSmall
import Derived.Test.YtphikjciekmijaaGreatProg
import Derived.Recover
import Derived.Tactics
set_option linter.unusedVariables false
set_option linter.unusedSimpArgs false
set_option linter.unusedSectionVars false
set_option maxRecDepth 100000
open Nat (reduceEqDiff reduceAdd reduceMul reduceLeDiff reduceLT)
namespace Go.Shf
open Go.AW Go.Proofs.Shf
def zSF : SF:=⟨⟨0,[],[],[],[]⟩,[],[]⟩
def rG : SM:=⟨zSF,zSF,[]⟩
end Go.Shf
namespace Go.AW
open Go.RowKit
def rk (g : Gh) (B : Nat) (w : World) (X : AA→Prop) (w' : World) : Prop:=∃ g' H',g.le g'∧X H'∧Ao g' B H' w'∧Below B w w'
def Chn (ch : List PanicEntry) : Prop:=∃ t v,ch=[{ v:=.iface t v,recovered:=false }]
def fH (P : Program) (B : Nat) (f : FuncId) (args : List AV) (H : AA) (K : Ak) (X : AA→Prop) : Prop :=
 Z5 P f∧∀ g w vs,Ao g B H w→HD g args vs→Calls P f vs w fun e w'=>(∃ v,e=.returned v∧Cz g B w K v w')∨∃ ch,e=.panicked ch∧Chn ch∧rk g B w X w'
def UH (P : Program) (B : Nat) : Option AV→Option (List AV)→Ak→(AA→Prop)→AA→Prop
 | some (.fn (.func f) ca),some ais,K,X,H=>fH P B f (ais++ca) H K X
 | _,_,_,_,_=>False
@[go_sem] theorem oK {P : Program} {B : Nat} {H : AA} (f : FuncId) (ca ais : List AV) (K : Ak) (X : AA→Prop) : UH P B (some (.fn (.func f) ca)) (some ais) K X H=fH P B f (ais++ca) H K X:=rfl
inductive XC where
 | sc (s : SC)
 | seq (a b : XC)
 | cond (x : X) (a b : XC)
 | block (id : Nat) (c : XC)
 | loop (l : List Nat) (c : XC)
 | BF (l : List Nat) (c : XC)
 | gW (pre : List Cq) (d : Option Nat) (f : X) (xs : List X)
 | pnc (pre : List Cq) (x : X)
def qv : Option AV→Prop
 | some (.R4 _ _)=>True
 | _=>False
@[go_sem] theorem fk (t : TypeId) (v : AV) : qv (some (.R4 t v))=True:=rfl
def jN (x : X) (X0 : AA→Prop) (σ : Env) (H : AA) : Prop:=qv (val σ x)∧X0 H
def iH (P : Program) (B : Nat) (d : Option Nat) (f : X) (xs : List X) (F : Env→AA→Prop) (X0 : AA→Prop) (σ : Env) (H : AA) : Prop :=
 UH P B (val σ f) (Cj σ xs) (CR d F σ) X0 H
def PR (P : Program) (B : Nat) : XC→AQ→(AA→Prop)→Env→AA→Prop
 | .sc s,Q,_,σ,H=>Dx P B s Q σ H
 | .seq a b,Q,X0,σ,H=>PR P B a (Qg (PR P B b Q X0) Q) X0 σ H
 | .cond x a b,Q,X0,σ,H=>S1 (val σ x) (PR P B a Q X0) (PR P B b Q X0) σ H
 | .block id c,Q,X0,σ,H=>PR P B c (QU id Q) X0 σ H
 | .loop l c,Q,X0,σ,H=>fA l (fun Q=>PR P B c Q X0) Q (Env.BF l σ) H
 | .BF l c,Q,X0,σ,H=>PR P B c Q X0 (Env.BF l σ) H
 | .gW pre d f xs,Q,X0,σ,H=>Bm P B pre (iH P B d f xs (Q .norm) X0) σ H
 | .pnc pre x,_,X0,σ,H=>Bm P B pre (jN x X0) σ H
section
variable {P : Program} {B : Nat} {Q : AQ} {X0 : AA→Prop} {σ : Env} {H : AA}
@[go_sem] theorem ph (s : SC) : PR P B (.sc s) Q X0 σ H=Dx P B s Q σ H:=rfl
@[go_sem] theorem z5 (a b : XC) : PR P B (.seq a b) Q X0 σ H=PR P B a (Qg (PR P B b Q X0) Q) X0 σ H:=rfl
@[go_sem] theorem vF (x : X) (a b : XC) : PR P B (.cond x a b) Q X0 σ H=S1 (val σ x) (PR P B a Q X0) (PR P B b Q X0) σ H:=rfl
@[go_sem] theorem m8 (id : Nat) (c : XC) : PR P B (.block id c) Q X0 σ H=PR P B c (QU id Q) X0 σ H:=rfl
@[go_sem] theorem vT (l : List Nat) (c : XC) : PR P B (.BF l c) Q X0 σ H=PR P B c Q X0 (Env.BF l σ) H:=rfl
@[go_sem] theorem oD (pre : List Cq) (d : Option Nat) (f : X) (xs : List X) : PR P B (.gW pre d f xs) Q X0 σ H=Bm P B pre (iH P B d f xs (Q .norm) X0) σ H:=rfl
@[go_sem] theorem zT (pre : List Cq) (x : X) : PR P B (.pnc pre x) Q X0 σ H=Bm P B pre (jN x X0) σ H:=rfl
@[go_sem] theorem dy (d : Option Nat) (f : X) (xs : List X) (F : Env→AA→Prop) : iH P B d f xs F X0 σ H=UH P B (val σ f) (Cj σ xs) (CR d F σ) X0 H:=rfl
@[go_sem] theorem zY (x : X) : jN x X0 σ H=(qv (val σ x)∧X0 H):=rfl
end
end Go.AW
