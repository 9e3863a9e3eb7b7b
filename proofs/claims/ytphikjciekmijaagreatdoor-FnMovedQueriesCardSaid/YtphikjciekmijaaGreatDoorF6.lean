/- Contracts, part 6. -/
import Derived.Test.YtphikjciekmijaaGreatDoorF5
import Derived.Sort.Row
import Derived.Sort.Grow
import Derived.Deep.Draws
import Derived.Test.YtphikjciekmijaaGreatDoorProg
import Derived.Tactics
import Derived.Tactics2
import Derived.Defers
import Derived.Laws.Pointers
import Derived.Laws.LoneSync
import Derived.RegionTactic
import Derived.RegionCalls
import Derived.ChangeAlike
set_option linter.unusedVariables false
set_option linter.unusedSimpArgs false
set_option linter.unusedSectionVars false
set_option maxRecDepth 100000
open Nat (reduceEqDiff reduceAdd reduceMul reduceLeDiff reduceLT)
namespace Go.AW
open Go.Proofs Go.Proofs.Shf Go.Shf Go.RowKit
theorem WRel.other {g : Gh} {B : Nat} {H : Heap} {w w' : World} (h : WRel g B H w) (b : Nat) (hfz : ∀ o,g.fz b o=none) (hfm : g.fm b=none) (hk : ∀ k,k≠b→k<w.heap.size→w'.heap[k]? = w.heap[k]?) : WRel g (2*w'.heap.size) [] w':=by
 constructor
 ·intro b' o v e
  have hl:=h.fz_lt e
  have hne : b'≠b:=by rintro rfl; rw [hfz] at e; cases e
  rw [World.cell?_of_block (w:=w) (a:=⟨b',o,none⟩) (hk b' hne hl)]; exact h.fz _ _ _ e
 ·intro b' es e
  have hl:=h.fm_lt e
  have hne : b'≠b:=by rintro rfl; rw [hfm] at e; cases e
  obtain ⟨clk,hc⟩:=h.fm _ _ e;exact ⟨clk,by rw [hk b' hne hl]; exact hc⟩
 ·intro i o e; cases e
 ·intro i j x c c' n e1; cases e1
 ·intro i j x n e1; cases e1
 ·show 2*w'.heap.size / 2≤w'.heap.size; omega
 ·exact h.fin
theorem row_heap {α : Type} [Inhabited α] (enc : α→Value) (w : World) (b off m : Nat) (dk : Array α) (os : Array Obj) : (Sort.grow (Sort.putRow enc (Sort.ahead w m) b off dk) os).heap=(w.heap.modify b (Sort.onCells (Sort.putCells enc off dk)))++os:=rfl
theorem row_other {α : Type} [Inhabited α] (enc : α→Value) (w : World) (b off m : Nat) (dk : Array α) (os : Array Obj) (k : Nat) (hk : k≠b) (hl : k<w.heap.size) : (Sort.grow (Sort.putRow enc (Sort.ahead w m) b off dk) os).heap[k]? = w.heap[k]? := by
 rw [row_heap,Array.getElem?_append_left (by simpa using hl),Array.getElem?_modify,if_neg (by omega)]
theorem below_grow {W w' : World} (h : Below (2*W.heap.size) W w') : ∃ q os',w'=Sort.grow (W.drewN q) os':=by
 refine ⟨w'.drawn - W.drawn,w'.heap.extract W.heap.size w'.heap.size, ?_⟩
 have hh : w'.heap=W.heap++w'.heap.extract W.heap.size w'.heap.size:=by
  apply Array.ext_getElem?
  intro k
  by_cases hk : k<W.heap.size
  ·rw [Array.getElem?_append_left hk]; exact h.block k (by omega)
  ·rw [Array.getElem?_append_right (by omega),Array.getElem?_extract]
   have:=h.size
   by_cases h2 : k<w'.heap.size
   ·rw [if_pos (by omega)]; congr 1; omega
   ·rw [if_neg (by omega),Array.getElem?_eq_none (by omega)]
 have hd:=h.drawn (by omega)
 have h1:=h.os
 have h2:=h.tape
 have h3:=h.output
 have e : ∀ (a b : World),a.heap=b.heap→a.tape=b.tape→a.drawn=b.drawn→a.os=b.os→a.output=b.output→a=b:=by
  intro a b h1 h2 h3 h4 h5
  cases a; cases b;simp only at h1 h2 h3 h4 h5;subst h1 h2 h3 h4 h5; rfl
 refine e _ _ hh h2 ?_ h1 h3
 show w'.drawn=W.drawn+(w'.drawn - W.drawn)
 omega
end Go.AW
namespace Go.AW
open Go.Proofs Go.Proofs.Shf Go.Shf Go.RowKit
theorem WRel.sorted {g : Gh} {B : Nat} {H : Heap} {w : World} (h : WRel g B H w) {id b cap : Nat} {cs cs' : List AV} {c : Array Value} {el : TypeId} {α : Type} [Inhabited α] (enc : α→Value) (dk : Array α)
  (hi : H.get id=some (.cells 1 cs 0)) (hp : g.io id=some (.blk b cap)) (hb : w.heap[b]? = some (.cells c el (0,0))) (hd : dk.size=cs.length) (hl : cs'.length=cs.length)
  (hv : ∀ k,k<cs'.length→VRel g (cs'.getD k nv) (enc dk[k]!)) (n : Nat) (os : Array Obj) :
  WRel g B (H.set id (.cells 1 cs' 0)) (Sort.grow (Sort.putRow enc (Sort.ahead w n) b 0 dk) os)∧Below B w (Sort.grow (Sort.putRow enc (Sort.ahead w n) b 0 dk) os):=by
 obtain ⟨p,hp',hr⟩:=h.ob id _ hi;rw [hp] at hp'; cases hp';simp only [ObjRel] at hr
 obtain ⟨h1,h2,h3,h4,c0,el0,h5,h6,h7,h8⟩:=hr;rw [hb] at h5; cases h5
 have hbl : b<w.heap.size:=(Array.getElem?_eq_some_iff.1 hb).1
 have hsz : (Sort.putRow enc w b 0 dk).heap.size=w.heap.size:=by simp [Sort.putRow,Sort.mapBlock]
 have hc' : (Sort.putRow enc w b 0 dk).heap[b]? = some (.cells (Sort.putCells enc 0 dk c) el (0,0)):=by
  show (w.heap.modify b _)[b]? = _
  rw [Array.getElem?_modify,if_pos rfl,hb]; rfl
 have hcs : (Sort.putCells enc 0 dk c).size=c.size:=by simp [Sort.putCells]
 have hcell : ∀ k,k<dk.size→(Sort.putCells enc 0 dk c).getD k undef=enc dk[k]! := by
  intro k hk
  have hk2 : k<c.size:=by omega
  have hk3 : k<(Sort.putCells enc 0 dk c).size:=by omega
  simp only [Array.getD,hk3,dif_pos]
  simp [Sort.putCells,hk]
 have hW:=h.write id b cap 1 cs cs' 0 c (Sort.putCells enc 0 dk c) el hi hp hb hc' hsz (fun k hk=>by
  show (w.heap.modify b _)[k]? = _
  rw [Array.getElem?_modify,if_neg (by omega)]) hcs (by omega) (by omega) (by omega) (by omega) fun k hk=>by
   rw [hcell k (by omega)]; exact hv k hk
 have hsame : ∀ k,k<w.heap.size→(Sort.grow (Sort.putRow enc (Sort.ahead w n) b 0 dk) os).heap[k]? = (Sort.putRow enc w b 0 dk).heap[k]? := by
  intro k hk;rw [row_heap,Array.getElem?_append_left (by simpa using hk)]; rfl
 refine ⟨hW.grow ?_ fun k hk=>hsame k (by omega),rfl,rfl,rfl, ?_,fun k hk=>?_, ?_⟩
 ·rw [row_heap,hsz]; simp
 ·rw [row_heap]; simp
 ·rw [hsame k (by omega)]
  show (w.heap.modify b _)[k]? = _
  rw [Array.getElem?_modify,if_neg (by omega)]
 ·intro _
  show w.drawn≤w.drawn+n
  omega
end Go.AW
namespace Go.AW
open Go.Proofs Go.Proofs.Shf Go.Shf Go.RowKit
theorem sl_one {g : Gh} {l : List AV} {u : Value} (h : VRel g (.sl l) u) : u.oneCell'=true:=by
 cases h <;> rfl
end Go.AW
namespace Go.Proofs.Shf
open Go.AW Go.Proofs Go.Shf
end Go.Proofs.Shf
namespace Go.Shf
open Go.AW
noncomputable def codeL (c : Cat) (n : Int) (l : List Int) : Int:=cond (dec c.Is) (cond (dec (∀ y,y∈l→0≤y∧y<n)) 0 2) 1
theorem codeL_0 {c : Cat} {n : Int} {l : List Int} : codeL c n l=0↔c.Is∧∀ y,y∈l→0≤y∧y<n:=by
 unfold codeL
 by_cases h1 : c.Is
 ·rw [dec_t h1]
  by_cases h2 : ∀ y,y∈l→0≤y∧y<n
  ·rw [dec_t h2]; exact ⟨fun _=>⟨h1,h2⟩,fun _=>rfl⟩
  ·rw [dec_f h2]; exact ⟨fun h=>absurd h (by simp),fun h=>absurd h.2 h2⟩
 ·rw [dec_f h1]; exact ⟨fun h=>absurd h (by simp),fun h=>absurd h.1 h1⟩
end Go.Shf
namespace Go.Proofs.Shf
open Go.AW Go.Proofs Go.Shf
theorem dTrue {p : Decidable True} : @decide True p=true:=@decide_eq_true True p trivial
theorem objectCode_ok (B : Nat) (c : Cat) (l : List Int) : Pur Tryz.prog B 30 [.ptr c.cells,iL l] (iI (codeL c c.objs l)):=by
 refine ⟨fun H0=>c30 (by simp) fun hf=>?_⟩;unfold s30;refine tt ?_;refine (isCategory_ok B c).go fun _=>tt ?_
 by_cases hI : c.Is
 ·rw [dec_t hI];refine tt ?_
  have ho:=hI.1.o
  have hm:=hI.1.m;refine (within_ok B l c.objs (by omega)).go fun _=>tt ?_;apply bk <;> intro h1
  ·refine tt ?_
   have h1p:=dd h1;exact pure_ret (by rw [codeL,dec_t hI,dec_f h1p]; rfl) (.refl _)
  ·refine tt ?_
   have h1p:=dd h1;exact pure_ret (by rw [codeL,dec_t hI,dec_t h1p]; rfl) (.refl _)
 ·rw [dec_f hI];refine tt ?_;exact pure_ret (by rw [codeL,dec_f hI]; rfl) (.refl _)
theorem same29_ok (B : Nat) (a b : List (List Int)) : Pur Tryz.prog B 15 [iLL a,iLL b] (.bool (dec (a=b))):=by
 refine ⟨fun H0=>c15 (by simp) fun ⟨hf,hg,_⟩=>?_⟩
 have hl:=fine_mL_le hf
 have hl2:=fine_mL_le hg;simp only [maxL] at hl hl2;unfold s15;refine tt ?_;apply bk <;> intro h0
 ·refine tt ?_
  have h0p : a.length≠b.length:=by simpa using h0
  exact pure_ret (by rw [dec_f]; rintro rfl; exact h0p rfl) (.refl _)
 have h0p : a.length=b.length:=by simpa using h0
 refine tt ?_;refine awp_for [0,1] (fun k _=>[(5,some (.int .i64 (k : Int)))]) (fun k _ H=>H=H0∧∀ i,i<k→a.getD i default=b.getD i default) a.length () ⟨rfl,by simp⟩ rfl ?_
 rintro k _ H hk ⟨rfl,hall⟩;refine tt ?_;apply bk <;> intro h1
 ·have h1:=of_decide h1
  have w1:=wsucc (k:=k) (by omega);refine tt ?_;refine ⟨h1,by omega, ?_⟩;refine ⟨_,(likeInts_ok B (a.getD k default) (b.getD k default)).run, ?_⟩
  by_cases h2 : a.getD k default=b.getD k default
  ·rw [dec_t h2];refine tw w1 ?_;exact for_next () (by omega) ⟨rfl,lt_succ_all hall h2⟩ rfl
  ·rw [dec_f h2];refine tt ?_;exact pure_ret (by rw [dec_f]; rintro rfl; exact h2 rfl) (.refl _)
 ·refine tt ?_
  have h1:=of_ndecide h1;refine pure_ret ?_ (.refl _);rw [dec_t];refine List.ext_getElem h0p fun i hi hj=>?_
  have:=hall i (by omega)
  simpa [List.getD_eq_getElem?_getD,hi,hj] using this
end Go.Proofs.Shf
namespace Go.Proofs.Shf
open Go.AW Go.Proofs Go.RowKit
theorem rc_disable (w : World) : (callFunc 177 #[]).run Tryz.prog w=.ok (.value (.tuple #[])) w:=run_call_mark0 Tryz.func177 (by kernel_rfl) (by kernel_rfl) (by kernel_rfl) .disable (by kernel_rfl) w
theorem rc_enable (w : World) : (callFunc 179 #[]).run Tryz.prog w=.ok (.value (.tuple #[])) w:=run_call_mark0 Tryz.func179 (by kernel_rfl) (by kernel_rfl) (by kernel_rfl) .enable (by kernel_rfl) w
theorem rc_acquire (a : Addr) (w : World) : (callFunc 180 #[.pointer (some a)]).run Tryz.prog w=.ok (.value (.tuple #[])) w:=run_call_marked Tryz.func180 (by kernel_rfl) (by kernel_rfl) (by kernel_rfl) .acquire (by kernel_rfl) a w
theorem rc_merge (a : Addr) (w : World) : (callFunc 182 #[.pointer (some a)]).run Tryz.prog w=.ok (.value (.tuple #[])) w:=run_call_marked Tryz.func182 (by kernel_rfl) (by kernel_rfl) (by kernel_rfl) .releaseMerge (by kernel_rfl) a w
theorem once_store (a : Addr) (x : Value) (u : FrameMode) (w : World) (hc : w.cell? a=some x) (hz : w.frozen? a=false) :
  CallsD Tryz.prog 144 #[.pointer (some a),.bool true] u w fun e u' w'=>u'=u∧(e=.returned (.tuple #[])∧w'=w.drew.setCell a (.int .u32 1)):=by
 have hc' : w.drew.cell? a=some x:=by go_simp
 have hz' : w.drew.frozen? a=false:=by go_simp
 have hst:=run_call_store (P:=Tryz.prog) Tryz.func167 (by kernel_rfl) (by kernel_rfl) (by kernel_rfl) (by kernel_rfl) (k:=.u32) (y:=1) hc' hz'
 go_enter_d Tryz.func144,Tryz.ntmps144
 go_wp2
 go_region_calls
 all_goals (go_end0; exact ⟨rfl,rfl⟩)
set_option maxRecDepth 100000 in
theorem once_unlock (a : Addr) (u : FrameMode) (w : World) (hc : w.cell? a=some (.int .i32 1)) (hz : w.frozen? a=false) :
  CallsD Tryz.prog 143 #[.pointer (some a)] u w fun e u' w'=>u'=u∧(e=.returned (.tuple #[])∧w'=w.setCell a (.int .i32 0)):=by
 have hd:=rc_disable
 have he:=rc_enable
 have hr:=rc_merge
 have hadd:=run_call_add (P:=Tryz.prog) Tryz.func183 (by kernel_rfl) (by kernel_rfl) (by kernel_rfl) .i32 (by kernel_rfl) (y:=-1) (s:=0) hc hz (by simp [go_sem]; rfl)
 have hcv:=run_convert_to_unsafe (P:=Tryz.prog) (src:=228) (dst:=216) Tryz.underlying228 Tryz.underlying216 (by kernel_rfl) hc
 go_enter_d Tryz.func143,Tryz.ntmps143
 go_wp2
 go_end0
 go_wp2
 go_end0
 exact ⟨rfl,rfl⟩
set_option maxRecDepth 100000 in
theorem once_lock (a : Addr) (w : World) (hc : w.cell? a=some (.int .i32 0)) (hz : w.frozen? a=false) :
  Calls Tryz.prog 142 #[.pointer (some a)] w fun e w'=>e=.returned (.tuple #[])∧w'=w.setCell a (.int .i32 1):=by
 have hd:=rc_disable
 have he:=rc_enable
 have ha:=rc_acquire
 have hcas:=run_call_cas_hit (P:=Tryz.prog) Tryz.func178 (by kernel_rfl) (by kernel_rfl) (by kernel_rfl) .i32 (by kernel_rfl) (y:=1) hc hz
 have hc' : (w.setCell a (.int .i32 1)).cell? a=some (.int .i32 1):=World.cell?_setCell_same w a _ hc
 have hcv:=run_convert_to_unsafe (P:=Tryz.prog) (src:=228) (dst:=216) Tryz.underlying228 Tryz.underlying216 (by kernel_rfl) hc'
 go_enter Tryz.func142,Tryz.ntmps142
 go_wp2
 first | go_end0 | (simp only [Exit.inBlock,Exit.then]; refine bodyPost_ret (results_none rfl _ _ _) rfl ?_) | refine bodyPost_ret (results_none rfl _ _ _) rfl ?_
 go_wp2
 go_end0
 exact ⟨rfl,rfl⟩
set_option maxRecDepth 100000 in
theorem once_load0 (a : Addr) (w : World) (hc : w.cell? a=some (.int .u32 0)) :
  Calls Tryz.prog 122 #[.pointer (some a)] w fun e w'=>e=.returned (.bool false)∧w'=w:=by
 have hl:=run_call_load (P:=Tryz.prog) Tryz.func141 (by kernel_rfl) (by kernel_rfl) (by kernel_rfl) .u32 (by kernel_rfl) hc
 go_enter Tryz.func122,Tryz.ntmps122
 go_wp2
 refine bodyPost_ret (results_tmp rfl _ _ _) rfl ?_;exact ⟨rfl,rfl⟩
set_option maxRecDepth 100000 in
theorem once_load1 (a : Addr) (w : World) (hc : w.cell? a=some (.int .u32 1)) :
  Calls Tryz.prog 122 #[.pointer (some a)] w fun e w'=>e=.returned (.bool true)∧w'=w:=by
 have hl:=run_call_load (P:=Tryz.prog) Tryz.func141 (by kernel_rfl) (by kernel_rfl) (by kernel_rfl) .u32 (by kernel_rfl) hc
 go_enter Tryz.func122,Tryz.ntmps122
 go_wp2
 refine bodyPost_ret (results_tmp rfl _ _ _) rfl ?_;exact ⟨rfl,rfl⟩
set_option maxRecDepth 100000 in
set_option maxHeartbeats 1600000 in
theorem once_slow (b off : Nat) (ca : Array Value) (w : World) (Q : World→Prop)
  (h0 : w.cell? ⟨b,off,none⟩=some (.int .u32 0)) (h1 : w.cell? ⟨b,off+1,none⟩=some (.int .i32 0))
  (f0 : w.frozen? ⟨b,off,none⟩=false) (f1 : w.frozen? ⟨b,off+1,none⟩=false)
  (hf : Calls Tryz.prog 93 ca (w.setCell ⟨b,off+1,none⟩ (.int .i32 1)) fun e w'=>e=.returned (.tuple #[])∧Q w')
  (hQ : ∀ w',Q w'→w'.cell? ⟨b,off,none⟩=some (.int .u32 0)∧w'.frozen? ⟨b,off,none⟩=false∧w'.cell? ⟨b,off+1,none⟩=some (.int .i32 1)∧w'.frozen? ⟨b,off+1,none⟩=false) :
  Calls Tryz.prog 123 #[.pointer (some ⟨b,off,none⟩),.func (.func 93) #[] ca] w fun e w'=>e=.returned (.tuple #[]) ∧
   ∃ w1,Q w1∧w'=(w1.drew.setCell ⟨b,off,none⟩ (.int .u32 1)).setCell ⟨b,off+1,none⟩ (.int .i32 0):=by
 have hl:=run_call_load (P:=Tryz.prog) Tryz.func141 (by kernel_rfl) (by kernel_rfl) (by kernel_rfl) .u32 (by kernel_rfl) (w:=w.setCell ⟨b,off+1,none⟩ (.int .i32 1)) (a:=⟨b,off,none⟩) (x:=0) ((World.cell?_setCell_other _ ⟨b,off+1,none⟩ ⟨b,off,none⟩ _ (by simp)).trans h0)
 have hnot : ∀ (x : Bool) (w : World),(Op.unary .not (.bool x)).run Tryz.prog w=.ok (.bool (!x)) w:=fun _ _=>rfl
 go_enter_defers Tryz.func123,Tryz.ntmps123
 go_wp2_with (go_at_call 142; refine (once_lock ⟨b,off+1,none⟩ _ (by go_simp) (by go_simp)).mono ?_; rintro e w' ⟨rfl,rfl⟩)
 go_wp2_with (go_at_call 122; refine (once_load0 ⟨b,off,none⟩ _ ((World.cell?_setCell_other _ ⟨b,off+1,none⟩ ⟨b,off,none⟩ _ (by simp)).trans h0)).mono ?_; rintro e w' ⟨rfl,rfl⟩)
 go_wp2_with (go_at_call 93; refine hf.mono ?_; rintro e w' ⟨rfl,hq⟩)
 obtain ⟨q0,q1,q2,q3⟩:=hQ _ hq;refine leaves_cons (f:=144) (args:=#[.pointer (some ⟨b,off,none⟩),.bool true]) (by simp) (by simp [go_sem]) ?_;refine (once_store ⟨b,off,none⟩ (.int .u32 0) .returning _ q0 q1).mono ?_
 rintro e u' w'' ⟨rfl,rfl,rfl⟩;refine leaves_cons (f:=143) (args:=#[.pointer (some ⟨b,off+1,none⟩)]) (by simp [settle]) (by simp [go_sem]) ?_;refine (once_unlock ⟨b,off+1,none⟩ _ _ ?_ (by simp [q3])).mono ?_
 ·refine (World.cell?_setCell_other _ ⟨b,off,none⟩ ⟨b,off+1,none⟩ _ (by simp)).trans ?_;rw [World.cell?_drew];exact q2
 rintro e u' w'' ⟨rfl,rfl,rfl⟩
 simp [Leaves,settle,results,Tryz.results123];exact ⟨w',hq,rfl⟩
end Go.Proofs.Shf
namespace Go.AW
open Go.Proofs Go.Shf Go.Proofs.Shf
theorem WRel.peek {g : Gh} {B : Nat} {H : Heap} {w : World} (hW : WRel g B H w) {id b cap sz off : Nat} {cs : List AV} (hio : g.io id=some (.blk b cap)) (ho : H.get id=some (.cells sz cs 0))
  {k : IntKind} {n : Int} (hc : cs[off]? = some (.int k n)) : w.cell? ⟨b,off,none⟩=some (.int k n)∧w.frozen? ⟨b,off,none⟩=false:=by
 obtain ⟨c,el,h5,_,_,_,h6,h7,h8⟩:=hW.obj hio ho
 have hl : off<cs.length:=(List.getElem?_eq_some_iff.1 hc).1
 have hv:=h8 off hl;rw [List.getD_eq_getElem?_getD,hc] at hv
 have hr : w.cell? ⟨b,off,none⟩=some (c.getD off undef):=by rw [cell_of_row w b off c el _ h5]; exact getD_some (by omega)
 refine ⟨?_,by simp [World.frozen?,h5]⟩;rw [hr]
 generalize c.getD off undef=v at hv
 cases hv; rfl
end Go.AW
namespace Go.Proofs.Shf
open Go.AW Go.Proofs Go.RowKit
end Go.Proofs.Shf
namespace Go.AW
open Go.Proofs Go.Shf Go.Proofs.Shf
theorem WRel.poke {g : Gh} {B : Nat} {H : Heap} {w : World} (hW : WRel g B H w) {id b cap sz off : Nat} {cs : List AV} (hio : g.io id=some (.blk b cap)) (ho : H.get id=some (.cells sz cs 0))
  (h2 : off<cs.length) (k : IntKind) (n : Int) :
  WRel g B (H.set id (.cells sz (cs.set off (.int k n)) 0)) (w.setCell ⟨b,off,none⟩ (.int k n))∧Go.AW.Below B w (w.setCell ⟨b,off,none⟩ (.int k n)):=by
 obtain ⟨w',r1,r2,r3⟩:=hW.store (P:=Tryz.prog) hio ho (off:=off) (vs:=[.int k n]) (us:=[.int k n]) (by omega) (by simp; omega) rfl (by simp [AV.one]) (fun i hi=>by
  have : i=0:=by simpa using hi
  subst this; exact .int k n)
 obtain ⟨c,el,h5,_,_,_,h6,h7,h8⟩:=hW.obj hio ho
 have hr : w.cell? ⟨b,off,none⟩=some (c.getD off undef):=by rw [cell_of_row w b off c el _ h5]; exact getD_some (by omega)
 have hz : w.frozen? ⟨b,off,none⟩=false:=by simp [World.frozen?,h5]
 have e : w'=w.setCell ⟨b,off,none⟩ (.int k n):=by
  have ea : (⟨b,off,none⟩ : Addr).add 0=⟨b,off,none⟩:=rfl;simp only [storeCells,ea,Sem.run_bind,run_store (hv:=(rfl : (Value.int k n).oneCell'=true)),hr,hz] at r1
  simpa [Result.andThen] using r1.symm
 subst e;exact ⟨r2,r3⟩
end Go.AW
namespace Go.Proofs.Shf
open Go.AW Go.Proofs Go.RowKit
theorem slow_ok (B : Nat) {H : Heap} {K : Kont} {id sz off : Nat} {cs ca : List AV} (ho : H.get id=some (.cells sz cs 0)) (c0 : cs[off]? = some (.int .u32 0)) (c1 : cs[off+1]? = some (.int .i32 0))
  (h : CallH Tryz.prog B 93 ca (H.set id (.cells sz (cs.set (off+1) (.int .i32 1)) 0)) fun r H'=>r=.tup []∧∃ cs',H'.get id=some (.cells sz cs' 0)∧cs'[off]? = some (.int .u32 0)∧cs'[off+1]? = some (.int .i32 1) ∧
   K (.tup []) ((H'.set id (.cells sz (cs'.set off (.int .u32 1)) 0)).set id (.cells sz ((cs'.set off (.int .u32 1)).set (off+1) (.int .i32 0)) 0))) :
  CallH Tryz.prog B 123 [.ref id off,.fn (.func 93) ca] H K:=by
 refine ⟨⟨_,Tryz.func123,by kernel_rfl,by kernel_rfl⟩,fun g w vs hW hv=>?_⟩
 obtain ⟨hs,hv⟩:=hv
 have v0:=hv 0 (by simp)
 have v1:=hv 1 (by simp);simp only [List.getD_cons_zero,List.getD_cons_succ] at v0 v1
 have e : vs=#[vs.getD 0 undef,vs.getD 1 undef]:=by
  apply Array.ext
  ·simpa using hs
  ·intro i h1 h2
   have : i=0∨i=1:=by simp at h2; omega
   rcases this with rfl | rfl <;> simp [Array.getD,h1]
 rw [e];clear e
 generalize vs.getD 0 undef=x0 at v0
 generalize vs.getD 1 undef=x1 at v1
 cases v0 with
 | ref _ _ b cap hio =>
 cases v1 with
 | fn _ _ cvs hcs hcv =>
 obtain ⟨w0,f0⟩:=hW.peek hio ho c0
 obtain ⟨w1,f1⟩:=hW.peek hio ho c1
 obtain ⟨hW1,hB1⟩:=hW.poke hio ho (List.getElem?_eq_some_iff.1 c1).1 .i32 1
 have hcall:=h.2 g _ cvs hW1 ⟨hcs,hcv⟩
 refine (once_slow b off cvs w (fun w'=>∃ g' H' cs',g.le g'∧WRel g' B H' w'∧Go.AW.Below B w w'∧H'.get id=some (.cells sz cs' 0)∧cs'[off]? = some (.int .u32 0)∧cs'[off+1]? = some (.int .i32 1) ∧
   K (.tup []) ((H'.set id (.cells sz (cs'.set off (.int .u32 1)) 0)).set id (.cells sz ((cs'.set off (.int .u32 1)).set (off+1) (.int .i32 0)) 0))) w0 w1 f0 f1 (hcall.mono ?_) ?_).mono ?_
 ·rintro e w' ⟨v,rfl,g',r,H',hg,⟨rfl,cs',k1,k2,k3,k4⟩,hr,hW',hB⟩;refine ⟨?_,g',H',cs',hg,hW',hB1.trans hB,k1,k2,k3,k4⟩
  cases hr with
  | tup _ us hus _=>rw [show us=#[] from Array.eq_empty_of_size_eq_zero hus]
 ·rintro w' ⟨g',H',cs',hg,hW',hB,k1,k2,k3,k4⟩
  have hio':=hg.io _ _ hio
  obtain ⟨a1,a2⟩:=hW'.peek hio' k1 k2
  obtain ⟨a3,a4⟩:=hW'.peek hio' k1 k3;exact ⟨a1,a2,a3,a4⟩
 ·rintro e w' ⟨rfl,wq,⟨g',H',cs',hg,hW',hB,k1,k2,k3,k4⟩,rfl⟩
  have hio':=hg.io _ _ hio
  have l0:=(List.getElem?_eq_some_iff.1 k2).1
  have l1:=(List.getElem?_eq_some_iff.1 k3).1
  obtain ⟨hW2,hB2⟩:=hW'.drew.poke hio' k1 l0 .u32 1
  obtain ⟨hW3,hB3⟩:=hW2.poke hio' (Heap.get_set_same ..) (by simpa using l1) .i32 0;refine ⟨_,rfl,g',_,_,hg,k4,.tup [] #[] rfl (fun i hi=>by simp at hi), ?_,((hB.drew).trans hB2).trans hB3⟩;exact hW3
theorem flag_ok (B : Nat) {H : Heap} {K : Kont} {id sz off : Nat} {cs : List AV} (ho : H.get id=some (.cells sz cs 0)) (d : Bool) (c0 : cs[off]? = some (.int .u32 (bif d then 1 else 0)))
  (hk : K (.bool d) H) : CallH Tryz.prog B 122 [.ref id off] H K:=by
 refine ⟨⟨_,Tryz.func122,by kernel_rfl,by kernel_rfl⟩,fun g w vs hW hv=>?_⟩
 obtain ⟨hs,hv⟩:=hv
 have v0:=hv 0 (by simp);simp only [List.getD_cons_zero] at v0
 have e : vs=#[vs.getD 0 undef]:=by
  apply Array.ext
  ·simpa using hs
  ·intro i h1 h2
   have : i=0:=by simp at h2; omega
   subst this; simp [Array.getD,h1]
 rw [e];clear e
 generalize vs.getD 0 undef=x0 at v0
 cases v0 with
 | ref _ _ b cap hio =>
 obtain ⟨w0,f0⟩:=hW.peek hio ho c0
 cases d
 ·refine (once_load0 _ w w0).mono ?_
  rintro e w' ⟨rfl,rfl⟩;exact ⟨_,rfl,.same hW (.bool false) hk⟩
 ·refine (once_load1 _ w w0).mono ?_
  rintro e w' ⟨rfl,rfl⟩;exact ⟨_,rfl,.same hW (.bool true) hk⟩
end Go.Proofs.Shf
namespace Go.Shf
open Go.AW
def homs (c : Cat) (x : Int) (n : Nat) : List (List Int):=(List.range n).map fun (y : Nat)=>hom c x (y : Int)
theorem homs_succ (c : Cat) (x : Int) (n : Nat) : homs c x (n+1)=homs c x n++[hom c x n]:=by simp [homs,List.range_succ]
theorem homs_len (c : Cat) (x : Int) (n : Nat) : (homs c x n).length=n:=by simp [homs]
theorem homs_get (c : Cat) (x : Int) {n k : Nat} (h : k<n) : (homs c x n).getD k default=hom c x k:=getD_map_range _ _ h
def OutO (c : Cat) (x : Int) (d st : Int) (X : AV) : MObj:=.cells 6 [.ptr c.cells,iI x,.int .u32 d,.int .i32 st,.int .u32 0,X] 0
end Go.Shf
namespace Go.Proofs.Shf
open Go.AW Go.Proofs Go.Shf
theorem homP_t {c : Cat} {x y : Int} {i : Nat} (h1 : c.frm.getD i default=x) (h2 : c.to.getD i default=y) : homP c x y i=true:=by
 simp only [homP,Bool.and_eq_true,decide_eq_true_eq]; exact ⟨h1,h2⟩
theorem homP_f {c : Cat} {x y : Int} {i : Nat} (h : ¬ (c.frm.getD i default=x∧c.to.getD i default=y)) : homP c x y i=false:=by
 simp only [homP,Bool.and_eq_false_iff,decide_eq_false_iff_not]
 by_cases h1 : c.frm.getD i default=x
 ·exact .inr fun h2=>h ⟨h1,h2⟩
 ·exact .inl h1
theorem hom_ok (B : Nat) (c : Cat) (hs : c.Shape) (x y : Int) : Pur Tryz.prog B 94 [.ptr c.cells,iI x,iI y] (iL (hom c x y)):=by
 refine ⟨fun H0=>c94p (by simp) fun _=>?_⟩
 have hm:=hs.m
 have htl:=hs.tol;unfold s94p;refine tt ?_;refine new_list iI (.nil _) fun id H o=>tt ?_;refine awp_for [0,1,2,14] (G:=Nat × List (Int)) (fun k g=>[(7,some (.buf g.1 g.2.length)),(15,some (.int .i64 (k : Int)))]) (fun k g H=>g.2=(nats (homP c x y) k)∧Owns H0 H [(g.1,.cells 1 (g.2.map iI) 0)]) c.frm.length (id,[]) ⟨by simp,o⟩ rfl ?_
 rintro k ⟨id,out⟩ H hk ⟨hout,o⟩;dsimp only at hout;refine tt ?_;apply bk <;> intro h1
 ·have h1:=of_decide h1
  have w1:=wsucc (k:=k) (by omega)
  have hlen : out.length≤k:=by rw [hout]; exact nats_len _ _
  refine tt ?_;refine ⟨h1, ?_⟩;apply bk <;> intro h2
  ·refine tw h2 ?_
   have h2p:=dd h2;refine ⟨by omega, ?_⟩;apply bk <;> intro h3
   ·refine tw h3 ?_
    have h3p:=dd h3;refine app_own (k : Int) o rfl rfl (by simp only [maxL]; omega) fun id H o=>?_;refine tw w1 ?_;exact for_next (_,_) (by omega) ⟨by rw [hout,nats_t (homP_t h2p h3p)],o⟩ rfl
   ·try simp only [go_sem,↓reduceIte,reduceEqDiff,reduceAdd,reduceMul,reduceLeDiff,reduceLT,h3,w1]
    have h3p:=dd h3;exact for_next (_,_) (by omega) ⟨by rw [hout,nats_f (homP_f fun e=>h3p e.2)],o⟩ rfl
  ·try simp only [go_sem,↓reduceIte,reduceEqDiff,reduceAdd,reduceMul,reduceLeDiff,reduceLT,h2,w1]
   have h2p:=dd h2;exact for_next (_,_) (by omega) ⟨by rw [hout,nats_f (homP_f fun e=>h2p e.1)],o⟩ rfl
 ·refine tt ?_
  have h1:=of_ndecide h1;refine fz_own o rfl fun H o=>tt ?_;exact pure_ret (by rw [hout,show k=c.frm.length by omega]; rfl) o.sub
theorem lazy_ok (B : Nat) (c : Cat) (hs : c.Shape) (x d st : Int) {H0 H : Heap} {l : List (Nat × MObj)} {id : Nat} {K : Kont} (o : Owns H0 H ((id,OutO c x d st .nilsl)::l))
  (hk : ∀ H' X,LsO iL H0 H' ((id,OutO c x d st X)::l) X (homs c x c.objs.toNat)→K (.tup []) H') : CallH Tryz.prog B 93 [.ptr [.ref id 0]] H K:=by
 refine c93p (by simp) fun _=>?_
 have ho:=hs.o;unfold s93p;refine tt ?_;refine awp_for [0] (G:=AV) (fun k X=>[(1,some (.int .i64 (k : Int)))]) (fun k X H=>LsO iL H0 H ((id,OutO c x d st X)::l) X (homs c x k)) c.objs.toNat .nilsl (.inl ⟨rfl,rfl,o⟩) rfl ?_;clear o
 rintro k X H hk' o
 have rd : ∀ (off : Nat) (K : Kont),off<6→K ([.ptr c.cells,iI x,.int .u32 d,.int .i32 st,.int .u32 0,X].getD off nv) H→rd1 (H.get id) none off K H:=fun off K h1 h2=>by
  rcases o with ⟨_,_,o⟩ | ⟨id2,_,o⟩
  ·exact rd_cells o (by simpa using h1) h2
  ·exact rd_cells o.tl (by simpa using h1) h2
 refine tt ?_;refine rd 0 _ (by omega) ?_;refine tt ?_;apply bk <;> intro h1
 ·have h1:=of_decide h1
  have w1:=wsucc (k:=k) (by omega);refine tt ?_;refine rd 5 _ (by omega) ?_;refine tt ?_;refine rd 0 _ (by omega) ?_;refine tt ?_;refine rd 1 _ (by omega) ?_;refine tt ?_;refine ⟨_,(hom_ok B c hs x k).run,tt ?_⟩;refine o.app (hom c x k) rfl (by rw [homs_len]; simp only [maxL]; omega) fun id2 H o=>tt ?_;refine sw o.swap fun H o=>?_;refine tw w1 ?_;refine for_next (.buf id2 (homs c x k++[hom c x k]).length) (by omega) (.inr ⟨id2, ?_, ?_⟩) rfl
  ·rw [homs_succ]
  ·rw [homs_succ]; exact o.swap
 ·refine tt ?_
  have h1:=of_ndecide h1
  obtain rfl : k=c.objs.toNat:=by omega
  exact ⟨_,.refl _,hk _ _ o⟩
end Go.Proofs.Shf
namespace Go.AW
open Go.Proofs Go.Shf Go.Proofs.Shf
theorem LsO.at {α : Type} {f : α→AV} {H0 H : Heap} {l : List (Nat × MObj)} {X : AV} {A : List α} {id : Nat} {a : MObj} (o : LsO f H0 H ((id,a)::l) X A) :
  H.get id=some a∧∀ b,LsO f H0 (H.set id b) ((id,b)::l) X A:=by
 rcases o with ⟨h1,h2,o⟩ | ⟨id2,h1,o⟩
 ·exact ⟨o.h0,fun b=>.inl ⟨h1,h2,o.put b⟩⟩
 ·exact ⟨o.tl.h0,fun b=>.inr ⟨id2,h1,(o.swap.put b).swap⟩⟩
end Go.AW
namespace Go.Proofs.Shf
open Go.AW Go.Proofs Go.Shf
theorem do_first (B : Nat) (c : Cat) (hs : c.Shape) (x : Int) {H0 H : Heap} {l : List (Nat × MObj)} {id : Nat} {K : Kont} (o : Owns H0 H ((id,OutO c x 0 0 .nilsl)::l))
  (hk : ∀ H' X,LsO iL H0 H' ((id,OutO c x 1 0 X)::l) X (homs c x c.objs.toNat)→K (.tup []) H') : CallH Tryz.prog B 92 [.ref id 2,.fn (.func 93) [.ptr [.ref id 0]]] H K:=by
 refine c92p (by simp) fun _=>?_;unfold s92p;refine tt ?_;refine flag_ok B o.h0 false rfl ?_;refine tt ?_;refine slow_ok B o.h0 rfl rfl ?_;refine lazy_ok B c hs x 0 1 (o.put (OutO c x 0 1 .nilsl)) fun H' X o=>⟨rfl,_,o.at.1,rfl,rfl, ?_⟩
 have o:=(((o.at).2 (OutO c x 1 1 X)).at).2 (OutO c x 1 0 X);refine tt ?_;exact ⟨_,.refl _,hk _ _ o⟩
theorem do_again (B : Nat) (c : Cat) (x : Int) {H0 H : Heap} {l : List (Nat × MObj)} {id : Nat} {X : AV} {K : Kont} (o : Owns H0 H ((id,OutO c x 1 0 X)::l))
  (hk : K (.tup []) H) : CallH Tryz.prog B 92 [.ref id 2,.fn (.func 93) [.ptr [.ref id 0]]] H K:=by
 refine c92p (by simp) fun _=>?_;unfold s92p;refine tt ?_;refine flag_ok B o.h0 true rfl ?_;refine tt ?_;exact ⟨_,.refl _,hk⟩
theorem list_first (B : Nat) (c : Cat) (hs : c.Shape) (x : Int) {H0 H : Heap} {l : List (Nat × MObj)} {id : Nat} {K : Kont} (o : Owns H0 H ((id,OutO c x 0 0 .nilsl)::l))
  (hk : ∀ H',Owns H0 H' ((id,OutO c x 1 0 (iLL (homs c x c.objs.toNat)))::l)→K (iLL (homs c x c.objs.toNat)) H') : CallH Tryz.prog B 59 [.ref id 0] H K:=by
 refine c59p (by simp) fun _=>?_;unfold s59p;refine tt ?_;refine ⟨rfl,do_first B c hs x o fun H X o=>?_⟩;refine tt ?_;refine wk_ls 5 o rfl fun H o=>wkW_done ?_;refine tt ?_;refine rd_cells o (by simp) ?_;refine tt ?_;exact ⟨_,.refl _,hk _ o⟩
theorem list_again (B : Nat) (c : Cat) (x : Int) (L : List (List Int)) {H0 H : Heap} {l : List (Nat × MObj)} {id : Nat} {K : Kont} (o : Owns H0 H ((id,OutO c x 1 0 (iLL L))::l))
  (hk : K (iLL L) H) : CallH Tryz.prog B 59 [.ref id 0] H K:=by
 refine c59p (by simp) fun _=>?_;unfold s59p;refine tt ?_;refine ⟨rfl,do_again B c x o ?_⟩;refine tt ?_;refine wkW_done ?_;refine tt ?_;refine rd_cells o (by simp) ?_;refine tt ?_;exact ⟨_,.refl _,hk⟩
def RepO (c : Cat) (X Y : AV) : MObj:=.cells 7 [iI c.objs,iL c.frm,iL c.to,iL c.idn,iLL c.comp,X,Y] 0
def zSF : List AV:=[.int .i64 0,.nilsl,.nilsl,.nilsl,.nilsl,.nilsl,.nilsl]
def RepQ (c : Cat) (x : Int) (r : AV) : Prop:=(RepFew c x∧r=.tup [.agg (repF c x).cells,.bool true])∨(¬ RepFew c x∧r=.tup [.agg zSF,.bool false])
def sizesN (c : Cat) (x : Int) (n : Nat) : List Int:=(List.range n).map (repSize c x)
theorem sizesN_succ (c : Cat) (x : Int) (n : Nat) : sizesN c x (n+1)=sizesN c x n++[repSize c x n]:=by simp [sizesN,List.range_succ]
theorem sizesN_len (c : Cat) (x : Int) (n : Nat) : (sizesN c x n).length=n:=by simp [sizesN]
def actsN (c : Cat) (x : Int) (n : Nat) : List (List Int):=(List.range n).map (repAct c x)
theorem actsN_succ (c : Cat) (x : Int) (n : Nat) : actsN c x (n+1)=actsN c x n++[repAct c x n]:=by simp [actsN,List.range_succ]
theorem actsN_len (c : Cat) (x : Int) (n : Nat) : (actsN c x n).length=n:=by simp [actsN]
theorem homs_ix (c : Cat) (x : Int) {n : Nat} {y : Int} (h0 : 0≤y) (h : y.toNat<n) : ix (homs c x n) y=hom c x y:=by
 rw [ix,homs_get c x h,Int.toNat_of_nonneg h0]
theorem rd_at {H : Heap} {K : Kont} {id sz fr off : Nat} {cs : List AV} (h : H.get id=some (.cells sz cs fr)) (h1 : off<cs.length) (hk : K (cs.getD off nv) H) : rd1 (H.get id) none off K H:=by
 rw [h,rd1_1]; exact ⟨h1,hk⟩
theorem representable_ok (B : Nat) (c : Cat) (hs : c.Shape) (x : Int) : Rets B 31 [.ptr c.cells,iI x] (RepQ c x):=by
 intro H0;refine c31p (by simp) fun _=>?_
 have hob:=hs.o
 have hm:=hs.m
 have htl:=hs.tol
 have hcl:=hs.cl;unfold s31p
 have o : Owns H0 H0 []:=.nil _;refine tt ?_;refine ⟨by simp only [maxL]; omega,newRef_own o fun id4 H o=>?_⟩;refine tt ?_;refine ⟨by simp only [maxL]; omega, ?_⟩;refine newRef_own o fun id6 H o=>tt ?_;refine (catCopy_ok B c).go fun _=>tt ?_;refine ⟨by simp only [maxL]; omega,newRef_own o fun id7 H o=>?_⟩;refine tt ?_;refine sw o fun H o=>tt ?_
 replace o : Owns H0 H [(id7,RepO c .nilsl .nilsl),(id6,OutO c x 0 0 .nilsl),(id4,.cells 7 zSF 0)]:=o;refine list_first B c hs x o.swap fun H o=>tt ?_
 replace o:=o.swap;rw [homs_len];refine awp_for [0,4,6,7,22,23] (G:=AV) (fun k X=>[(24,some (.int .i64 (k : Int)))]) (fun k X H=>(∀ y : Nat,y<k→(hom c x y).length≤16)∧LsO iI H0 H [(id7,RepO c X .nilsl),(id6,OutO c x 1 0 (iLL (homs c x c.objs.toNat))),(id4,.cells 7 zSF 0)] X (sizesN c x k)) c.objs.toNat .nilsl ⟨by simp,.inl ⟨rfl,rfl,o⟩⟩ rfl ?_;clear o
 rintro k X H hk ⟨hf,o⟩;refine tt ?_;apply bk <;> intro h1
 ·have h1:=of_decide h1
  have w1:=wsucc (k:=k) (by omega);refine tt ?_;refine ⟨by rw [homs_len]; exact h1, ?_⟩;rw [homs_get c x h1];refine tt ?_;apply bk <;> intro h2
  ·have h2:=of_decide h2;refine tt ?_
   obtain ⟨p,o,_⟩:=o.split
   have o : Owns H0 H ((id4,.cells 7 zSF 0)::(p++[(id7,RepO c X .nilsl),(id6,OutO c x 1 0 (iLL (homs c x c.objs.toNat)))])):=o.pm;refine st_cells o (by simp [zSF]) (by (try simp only [go_sem]); (try simp)) (by first | (simp only [go_sem]; done) | ((try simp only [go_sem]); simp [AV.one,one_mL])) fun H o=>?_;simp only [zSF] at o;simp only [wr_cons,wr_nil,List.set_cons_zero,List.set_cons_succ] at o
   have hr2:=o.rc 7 0 (by simp);simp only [List.drop_zero] at hr2;refine tt ?_;rw [hr2];refine tt ?_;exact rets_ret (.inr ⟨fun h=>by have:=h k h1; omega,rfl⟩) o.sub
  ·have h2:=of_ndecide h2;refine tt ?_;refine rd_at o.at.1 (by simp) ?_;refine tt ?_;refine o.app (repSize c x k) rfl (by rw [sizesN_len]; simp only [maxL]; omega) fun id2 H o=>tt ?_;refine sw o.swap fun H o=>?_;refine tw w1 ?_;refine for_next (.buf id2 (sizesN c x k++[repSize c x k]).length) (by omega) ⟨fun y hy=>?_,.inr ⟨id2, ?_, ?_⟩⟩ rfl
   ·by_cases e : y=k
    ·subst e; omega
    ·exact hf y (by omega)
   ·rw [sizesN_succ]
   ·rw [sizesN_succ]; exact o.swap
 ·have h1:=of_ndecide h1
  obtain rfl : k=c.objs.toNat:=by omega
  have hfew : RepFew c x:=hf;refine tt ?_;refine wk_ls 5 o rfl fun H o=>wkW_done ?_;simp only [wr_cons,wr_nil,List.set_cons_zero,List.set_cons_succ] at o
  replace o : Owns H0 H [(id7,RepO c (iL (repSizes c x)) .nilsl),(id6,OutO c x 1 0 (iLL (homs c x c.objs.toNat))),(id4,.cells 7 zSF 0)]:=o;clear hf;refine tt ?_;refine awp_for [0,4,6,7,44] (G:=AV) (fun k Y=>[(45,some (.int .i64 (k : Int)))]) (fun k Y H=>LsO iL H0 H [(id7,RepO c (iL (repSizes c x)) Y),(id6,OutO c x 1 0 (iLL (homs c x c.objs.toNat))),(id4,.cells 7 zSF 0)] Y (actsN c x k)) c.frm.length .nilsl (.inl ⟨rfl,rfl,o⟩) rfl ?_;clear o hk
  rintro k Y H hk o;refine tt ?_;apply bk <;> intro g1
  ·have g1:=of_decide g1
   have w1:=wsucc (k:=k) (by omega);refine tt ?_
   obtain ⟨p,o,hp⟩:=o.split;refine new_list iI o fun id11 H o=>tt ?_
   have hfr:=hs.frm' g1
   have hto:=hs.to' g1
   have hil:=hs.il
   have o6 : Owns H0 H ((id6,OutO c x 1 0 (iLL (homs c x c.objs.toNat)))::((id11,.cells 1 (([] : List Int).map iI) 0)::(p++[(id7,RepO c (iL (repSizes c x)) Y),(id4,.cells 7 zSF 0)]))):=o.pm;refine ⟨g1,list_again B c x _ o6 ⟨.refl _, ?_⟩⟩;refine tt ?_;refine ⟨⟨hfr.1,by rw [homs_len]; omega⟩, ?_⟩;rw [homs_ix c x hfr.1 (by omega)]
   generalize hL : hom c x (c.frm.getD k default)=L
   have hLl : L.length≤40:=by rw [← hL]; exact Nat.le_trans (nats_len _ _) hm
   have hLm : ∀ a,a∈L→0≤a∧a.toNat<c.frm.length:=fun a ha=>by rw [← hL] at ha; exact (mem_hom.mp ha).1
   refine tt ?_
   refine awp_for [0,4,6,7,10,44,45,59,60] (G:=Nat × List Int) (fun j g=>[(11,some (.buf g.1 g.2.length)),(61,some (.int .i64 (j : Int)))])
    (fun j g H=>g.2=(L.take j).map (fun h=>indexOf (hom c x (c.to.getD k default)) (ix (ix c.comp h) k))∧Owns H0 H ((g.1,.cells 1 (g.2.map iI) 0)::(p++[(id7,RepO c (iL (repSizes c x)) Y),(id6,OutO c x 1 0 (iLL (homs c x c.objs.toNat))),(id4,.cells 7 zSF 0)]))) L.length (id11,[]) ⟨by simp,o⟩ rfl ?_
   clear o o6
   rintro j ⟨id11,out⟩ H hj ⟨hout,o⟩;dsimp only at hout o
   have hol : out.length≤j:=by rw [hout]; simp; omega
   refine tt ?_;apply bk <;> intro g2
   ·have g2:=of_decide g2
    have w2:=wsucc (k:=j) (by omega);refine tt ?_
    have hLj:=hLm _ (mem_getD.mpr ⟨j,g2,rfl⟩);refine ⟨g2,⟨by omega, ?_⟩⟩
    have o6 : Owns H0 H ((id6,OutO c x 1 0 (iLL (homs c x c.objs.toNat)))::((id11,.cells 1 (out.map iI) 0)::(p++[(id7,RepO c (iL (repSizes c x)) Y),(id4,.cells 7 zSF 0)]))):=o.pm;refine list_again B c x _ o6 ⟨.refl _, ?_⟩;refine tt ?_;refine ⟨⟨hto.1,by rw [homs_len]; omega⟩, ?_⟩;rw [homs_ix c x hto.1 (by omega)];refine tt ?_
    have hr:=hs.row' hLj.2;refine ⟨_,(catThen_ok B c (L.getD j default) k ⟨hLj.1,by omega⟩ ⟨by omega,by rw [Int.toNat_natCast,hr]; exact g1⟩).run,tt ?_⟩;refine ⟨_,(index_ok ..).run,tt ?_⟩;refine app_own (indexOf (hom c x (c.to.getD k default)) (ix (ix c.comp (L.getD j default)) k)) o rfl rfl (by simp only [maxL]; omega) fun id11 H o=>?_;refine tw w2 ?_;exact for_next (_,_) (by omega) ⟨by rw [hout,take_succ' L g2,List.map_append]; rfl,o⟩ rfl
   ·have g2:=of_ndecide g2
    obtain rfl : j=L.length:=by omega
    refine tt ?_;refine fz_own o rfl fun H o=>?_
    have eo : out=repAct c x k:=by rw [hout,List.take_length,← hL]; rfl
    rw [eo]
    have o:=LsO.mk o hp;refine tt ?_;refine rd_at o.at.1 (by simp) ?_;refine tt ?_;refine o.app (repAct c x k) rfl (by rw [actsN_len]; simp only [maxL]; omega) fun id2 H o=>tt ?_;refine sw o.swap fun H o=>?_;refine tw w1 ?_;refine for_next (.buf id2 (actsN c x k++[repAct c x k]).length) (by omega) (.inr ⟨id2, ?_, ?_⟩) rfl
    ·rw [actsN_succ]
    ·rw [actsN_succ]; exact o.swap
  ·have g1:=of_ndecide g1
   obtain rfl : k=c.frm.length:=by omega
   refine tt ?_;refine wk_ls 6 o rfl fun H o=>wkW_done ?_;simp only [wr_cons,wr_nil,List.set_cons_zero,List.set_cons_succ] at o;refine tt ?_;refine rd_celln o (by simp) ?_;refine tt ?_;refine st_cells (o.pull [_,_]) (by simp [zSF]) (by (try simp only [go_sem]); (try simp)) (by first | (simp only [go_sem]; done) | ((try simp only [go_sem]); simp [AV.one,one_mL])) fun H o=>?_;simp only [zSF] at o;simp only [wr_cons,wr_nil,List.set_cons_zero,List.set_cons_succ] at o;refine tt ?_
   have hr2:=o.rc 7 0 (by simp);simp only [List.drop_zero] at hr2;rw [hr2];refine tt ?_;exact rets_ret (.inl ⟨hfew,rfl⟩) o.sub
def nilF : SF:={ shape:={ objs:=0,frm:=[],to:=[],idn:=[],comp:=[] },sizes:=[],acts:=[] }
def RepQ2 (c : Cat) (x : Int) (r : AV) : Prop:=(RepFew c x∧r=.tup [.agg (repF c x).cells,iI 0])∨(¬ RepFew c x∧r=.tup [.agg nilF.cells,iI 3])
theorem representableG_ok (B : Nat) (c : Cat) (hc : c.Is) (x : Int) (hx : 0≤x∧x<c.objs) : Rets B 11 [.agg c.cells,iI x] (RepQ2 c x):=by
 intro H0;refine c11p (by simp) fun _=>?_;unfold s11p
 have o : Owns H0 H0 []:=.nil _;refine tt ?_;refine ⟨by simp only [maxL]; omega,newRef_own o fun id4 H o=>?_⟩;refine tt ?_;refine (objectCode_ok B c [x]).go fun _=>?_;rw [codeL_0.mpr ⟨hc,by simpa using hx⟩];refine td ?_;refine (representable_ok B c hc.1 x).go fun r _ hr=>?_
 rcases hr with ⟨hf,rfl⟩ | ⟨hf,rfl⟩
 ·refine tt ?_;refine ⟨by simp only [maxL]; omega,newRef_own o fun id7 H o=>?_⟩;refine tt ?_;refine sw o fun H o=>tt ?_;refine rd_celln o (by simp) ?_;refine tt ?_;refine sw o.swap fun H o=>tt ?_;refine wkW_done ?_;refine tt ?_
  have hr2:=o.rc 7 0 (by simp);simp only [List.drop_zero] at hr2;rw [hr2];refine tt ?_;exact rets_ret (.inl ⟨hf,rfl⟩) o.sub
 ·refine tt ?_;refine ⟨by simp only [maxL]; omega,newRef_own o fun id7 H o=>?_⟩;refine tt ?_;refine st_cells o (by simp) (by simp [zSF]) (by simp [zSF,AV.one]) fun H o=>?_;simp only [zSF] at o;simp only [wr_cons,wr_nil,List.set_cons_zero,List.set_cons_succ] at o;refine tt ?_;refine sw o.swap fun H o=>tt ?_;refine wk_nil 1 o rfl fun H o=>?_;refine wk_nil 2 o rfl fun H o=>?_;refine wk_nil 3 o rfl fun H o=>?_;refine wk_nil 4 o rfl fun H o=>?_;refine wk_nil 5 o rfl fun H o=>?_;refine wk_nil 6 o rfl fun H o=>wkW_done ?_;simp only [wr_cons,wr_nil,List.set_cons_zero,List.set_cons_succ] at o;refine tt ?_
  have hr2:=o.rc 7 0 (by simp);simp only [List.drop_zero] at hr2;rw [hr2];refine tt ?_;exact rets_ret (.inr ⟨hf,rfl⟩) o.sub
end Go.Proofs.Shf
namespace Go.Shf
open Go.AW
end Go.Shf
namespace Go.Proofs.Shf
open Go.AW Go.Proofs Go.Shf
end Go.Proofs.Shf
namespace Go.Shf
open Go.AW
end Go.Shf
namespace Go.Proofs.Shf
open Go.AW Go.Proofs Go.Shf
end Go.Proofs.Shf
namespace Go.AW
def nilTo : AV→AV
 | .nilsl=>.sl []
 | a=>a
theorem wk_nils {F : Env→Heap→Prop} {σ : Env} {H0 : Heap} {l : Ob} {id sz fr : Nat} : ∀ (r dn : List AV) (H : Heap),Owns H0 H ((id,.cells sz (dn++r) fr)::l) →
  (∀ H',Owns H0 H' ((id,.cells sz (dn++r.map nilTo) fr)::l)→wkW F σ H')→wkW F σ H
 | [],dn,H,o,hk=>hk H (by simpa using o)
 | a::r,dn,H,o,hk=>by
  have hstep : ∀ H',Owns H0 H' ((id,.cells sz ((dn++[nilTo a])++r) fr)::l)→wkW F σ H':=fun H' o' =>
   wk_nils r (dn++[nilTo a]) H' o' fun H2 o2=>hk H2 (by simpa using o2)
  by_cases h : a=.nilsl
  ·subst h;refine wk_nil dn.length o (by simp) fun H' o'=>hstep H' ?_
   have e : (dn++AV.nilsl::r).set dn.length (.sl [])=(dn++[nilTo .nilsl])++r:=by rw [List.set_append_right _ _ (Nat.le_refl _)]; simp [nilTo]
   rw [e] at o'; exact o'
  ·refine hstep H ?_
   have e : nilTo a=a:=by unfold nilTo; split <;> simp_all
   rw [e]; simpa using o
end Go.AW
namespace Go.Shf
open Go.AW Go.Proofs.Shf
end Go.Shf
namespace Go.Proofs.Shf
open Go.AW Go.Proofs Go.Shf
end Go.Proofs.Shf
