/- A part of a proof. -/
import Derived.Test.YtadpkiiglobmpaaGreatF11
set_option linter.unusedVariables false
set_option linter.unusedSimpArgs false
set_option linter.unusedSectionVars false
open Nat (reduceEqDiff reduceAdd reduceMul reduceLeDiff reduceLT)
namespace Go.Proofs.Shf
open Go.AW Go.Proofs Go.Shf
theorem gopen_ok (B : Nat) {f : SF} (hf : f.Shape) : Pur Tryz.prog B 182 [.agg f.cells] (iLL (blankT f)) := by
 refine ⟨fun H0 => c182p (by simp) fun _ => ?_⟩
 have hob := hf.is.1.o
 have hsl := hf.sl
 have hz0 : ∀ x,x < f.sizes.length → 0 ≤ f.sizes.getD x default ∧ f.sizes.getD x default < 17 := fun x hx => hf.sz _ (mem_getD.mpr ⟨x,hx,rfl⟩);unfold s182p
 have o : Owns H0 H0 [] := .nil _;refine tt ?_;refine new_list iL o fun id H o => tt ?_
 refine awp_for [1] (G := Nat × List (List Int)) (fun k g => [(3,some (.buf g.1 g.2.length)),(4,some (.int .i64 (k : Int)))])
  (fun k G H => G.2 = (blankT f).take k ∧ Owns H0 H [(G.1,.cells 1 (G.2.map iL) 0)]) f.sizes.length (id,[]) ⟨by simp,o⟩ rfl ?_
 clear o
 rintro k ⟨id,out⟩ H hk ⟨hout,o⟩;dsimp only at hout o
 have hol : out.length ≤ k := by rw [hout,List.length_take]; omega
 refine tt ?_;apply bk <;> intro h1
 ·have h1p : k < f.sizes.length := by have := of_decide h1; omega
  have w1 := wsucc (k := k) (by omega)
  have hzk := hz0 k h1p
  obtain ⟨n,hn⟩ : ∃ n : Nat,f.sizes.getD k default = n := ⟨_,(Int.toNat_of_nonneg hzk.1).symm⟩;rw [hn] at hzk;refine tt ?_;refine new_list iI o fun idr H o => tt ?_
  refine awp_for [1,3,4] (G := Nat × List Int) (fun e g => [(5,some (.buf g.1 g.2.length)),(6,some (.int .i64 (e : Int)))])
   (fun e G H => G.2 = List.replicate e (-1) ∧ Owns H0 H ((G.1,.cells 1 (G.2.map iI) 0) :: [(id,.cells 1 (out.map iL) 0)])) n (idr,[]) ⟨by simp,o⟩ rfl ?_
  clear o
  rintro e ⟨idr,row⟩ H he ⟨hrow,o⟩;dsimp only at hrow o
  have hrl : row.length = e := by rw [hrow]; simp
  refine tt ?_;refine ⟨h1p, ?_⟩;rw [hn];apply bk <;> intro h2
  ·have h2p : e < n := by have := of_decide h2; omega
   have w2 := wsucc (k := e) (by omega);refine tt ?_;refine app_own (-1 : Int) o rfl rfl (by simp only [maxL]; omega) fun idr H o => ?_;refine tw w2 ?_;exact for_next (_,_) (by omega) ⟨by rw [hrow,← rep_succ],o⟩ rfl
  ·have h2p : e = n := by have := of_ndecide h2; omega
   refine tt ?_;refine fz_own o rfl fun H o => tt ?_;refine app_own (f := iL) row o rfl rfl (by simp only [maxL]; omega) fun id H o => ?_;refine tw w1 ?_;exact for_next (_,_) (by omega) ⟨by rw [hout,hrow,h2p,blank_take f h1p hn],o⟩ rfl
 ·have h1p : k = f.sizes.length := by have := of_ndecide h1; omega
  refine tt ?_;refine fz_own o rfl fun H o => tt ?_;exact pure_ret (by rw [hout,h1p,List.take_of_length_le (by simp [blankT])]) o.sub
theorem gmaps_ok (B : Nat) {f g : SF} (hf : f.Is) (hg : g.Is) (sh : f.shape = g.shape) (most : Nat) (h0 : 0 < most) (hmost : most ≤ 1000) : Pur Tryz.prog B 83 [.agg f.cells,.agg g.cells,.bool false,iI most] (iLLL ((allMp f g (blankT f)).take most)) := by
 refine ⟨fun H0 => c83p (by simp) fun _ => ?_⟩;unfold s83p
 have o : Owns H0 H0 [] := .nil _;refine tt ?_;refine nb o fun idS H o => tt ?_;refine (gopen_ok B hf.1).go fun _ => tt ?_;refine (ggo_ok B hf hg sh most hmost idS _ (blankT f) rfl (blank_pt hf.1) [] .nilsl [] [] H0 H h0 (.inl ⟨rfl,rfl,rfl⟩) o).mono ?_;clear o
 rintro r H ⟨X,w,rfl,hX,o⟩;rw [List.nil_append] at hX;refine tt ?_;refine rd_cells o (by simp) ?_;refine tt ?_
 have o : Owns H0 H (w ++ [(idS,sgO f g most X)]) := o.pm
 rcases hX with ⟨rfl,rfl,hM⟩ | ⟨idn,rfl,rfl⟩
 ·refine tt ?_;exact pure_ret (by rw [hM]; rfl) o.sub
 ·refine fz_own (f := iLL) o rfl fun H o => tt ?_;exact pure_ret rfl o.sub
theorem l19Count_ok (B : Nat) (f : SF) (hl : f.sizes.length ≤ 8) (hz : ∀ y,y ∈ f.sizes → 0 ≤ y ∧ y < 17) : Pur Tryz.prog B 266 [.agg f.cells] (iI f.sizes.sum) := by
 refine ⟨fun H0 => c266 (by simp) fun _ => ?_⟩;unfold s266;refine tt ?_;refine awp_for [1] (G := Unit) (fun k _ => [(3,some (.int .i64 (f.sizes.take k).sum)),(4,some (.int .i64 (k : Int)))]) (fun k _ H => H = H0 ∧ 0 ≤ (f.sizes.take k).sum ∧ (f.sizes.take k).sum ≤ 17 * k) f.sizes.length () ⟨rfl,by simp,by simp⟩ rfl ?_
 rintro k _ H hk ⟨rfl,hs⟩;refine tt ?_;apply bk <;> intro h1
 ·have h1 := of_decide h1
  have w1 := wsucc (k := k) (by omega)
  have hsz := hz _ (mem_getD.mpr ⟨k,h1,rfl⟩)
  have e : (f.sizes.take (k + 1)).sum = (f.sizes.take k).sum + f.sizes.getD k default := by rw [take_succ' _ h1]; simp
  have w2 : IntKind.i64.wrap ((f.sizes.take k).sum + f.sizes.getD k default) = (f.sizes.take (k + 1)).sum := by rw [wrap_i64 (by omega) (by omega),e]
  refine tt ?_;refine ⟨h1, ?_⟩;try simp only [go_sem,↓reduceIte,reduceEqDiff,reduceAdd,reduceMul,reduceLeDiff,reduceLT,w1,w2]
  exact for_next () (by omega) ⟨rfl,by omega,by omega⟩ rfl
 ·have h1 := of_ndecide h1
  obtain rfl : k = f.sizes.length := by omega
  refine tt ?_;exact pure_ret (by rw [List.take_length]) (.refl _)
theorem l19Code_ok (B : Nat) {f g : SF} (hf : f.Is) (hg : g.Is) (sh : f.shape = g.shape) : Pur Tryz.prog B 146 [.agg f.cells,.agg g.cells] (iI (if 12 < f.sizes.sum then 3 else 0)) := by
 have hob := hf.1.is.1.o
 have hsl := hf.1.sl;refine ⟨fun H0 => c146 (by simp) fun _ => ?_⟩;unfold s146;refine tt ?_;refine (l19Is_ok B f).go fun _ => ?_;rw [dec_t hf];refine tt ?_;refine (l19Is_ok B g).go fun _ => ?_;rw [dec_t hg];refine tt ?_;refine (l02Same_ok B f.shape g.shape).go fun _ => ?_;rw [dec_t sh];refine tt ?_;refine (l19Count_ok B f (by omega) fun y hy => hf.1.sz y hy).go fun _ => tt ?_;apply bk <;> intro h1
 ·have h1p := of_decide h1;refine tt ?_;exact pure_ret (by rw [if_pos h1p]) (.refl _)
 ·have h1p := of_ndecide h1;refine tt ?_;exact pure_ret (by rw [if_neg h1p]) (.refl _)
noncomputable def AllMR (f g : SF) : AV := if 12 < f.sizes.sum ∨ 200 < (allMp f g (blankT f)).length then .tup [iLLL [],iI 3] else .tup [iLLL (allMp f g (blankT f)),iI 0]
theorem specMaps_ok (B : Nat) {f g : SF} (hf : f.Is) (hg : g.Is) (sh : f.shape = g.shape) : Pur Tryz.prog B 60 [.agg f.cells,.agg g.cells] (AllMR f g) := by
 refine ⟨fun H0 => c60 (by simp) fun _ => ?_⟩;unfold s60;refine tt ?_;refine (l19Code_ok B hf hg sh).go fun _ => ?_
 by_cases h1 : 12 < f.sizes.sum
 ·rw [if_pos h1]
  have hd : decide ((3 : Int) = 0) = false := rfl;refine tw hd ?_;exact pure_ret (by rw [AllMR,if_pos (.inl h1)]; rfl) (.refl _)
 rw [if_neg h1];refine td ?_;refine (gmaps_ok B hf hg sh 201 (by omega) (by omega)).go fun _ => ?_
 obtain ⟨n,hn⟩ : ∃ n,((allMp f g (blankT f)).take 201).length = n := ⟨_,rfl⟩
 have hn2 := hn;rw [List.length_take] at hn2;refine tw hn ?_;apply bk <;> intro h2
 ·have h2p : 200 < n := by have := of_decide h2; omega
  refine tt ?_;exact pure_ret (by rw [AllMR,if_pos (.inr (by omega))]; rfl) (.refl _)
 ·have h2p : ¬ 200 < n := by have := of_ndecide h2; omega
  refine tt ?_;exact pure_ret (by rw [AllMR,if_neg (by omega),List.take_of_length_le (by omega)]) (.refl _)
theorem implMaps_ok (B : Nat) {f g : SF} (hf : f.Is) (hg : g.Is) (sh : f.shape = g.shape) : Rets B 17 [.agg f.cells,.agg g.cells] (fun r => r = AllMR f g) := by
 intro H0;refine (allSetMaps2_ok B hf hg sh H0).mono ?_
 rintro r H ⟨⟨L,k,e,hk⟩,rfl⟩;refine ⟨?_,rfl⟩;subst e
 rcases hk with ⟨rfl,rfl,h2,h3⟩ | ⟨rfl,rfl,h2⟩
 ·rw [AllMR,if_neg (by omega)]
 ·rw [AllMR,if_pos h2]
theorem CloseOk.with {j : Top} {f : SF} {p q : List (List Int)} (h : CloseOk j f p) (hq : f.Part q) : CloseOk j f q := ⟨h.form,h.is,hq,h.few,h.top,h.sh⟩
def FullK (f : SF) (p : List (List Int)) (k : Nat) : Prop := ∀ i,i < k → ((p.getD i default).length : Int) = f.sizes.getD i default
theorem fullK_t {f : SF} {p : List (List Int)} {k : Nat} (h : ((p.getD k default).length : Int) = f.sizes.getD k default) : FullK f p (k + 1) ↔ FullK f p k :=
 ⟨fun H i hi => H i (by omega),fun H i hi => by
  by_cases e : i = k
  ·rw [e]; exact h
  ·exact H i (by omega)⟩
theorem fullK_f {f : SF} {p : List (List Int)} {k : Nat} (h : ¬ ((p.getD k default).length : Int) = f.sizes.getD k default) : ¬ FullK f p (k + 1) := fun H => h (H k (by omega))
open Classical in
theorem fnClosures_ok (B : Nat) (code : List UInt8) : Pur Tryz.prog B 9 [mL Go.AW.iB code] (.bool true) := by
 refine ⟨fun H0 => c9p (by simp) fun _ => ?_⟩;unfold s9p
 have o : Owns H0 H0 [] := .nil _;refine tt ?_;refine (big_ok B code).go fun _ => tt ?_;apply bk <;> intro g0
 ·refine tt ?_;exact pure_ret rfl (.refl _)
 refine tt ?_;refine (drawClose_ok B code).go fun r _ ⟨j,f,p,e⟩ => ?_;subst e;refine tt ?_;refine nb o fun id3 H o => tt ?_;refine nb o fun id4 H o => tt ?_;refine newRef_own o fun id5 H o => tt ?_;refine sw (o.pull [_,_]) fun H o => tt ?_;refine sw (o.pull [_,_]) fun H o => tt ?_;refine sw (o.pull [_,_]) fun H o => tt ?_;refine wk_ref 5 o rfl fun H o => wk_ref 4 o rfl fun H o => wk_ref 3 o rfl fun H o => wkW_done ?_;refine tt ?_;refine (implClose_ok B j f p).go fun _ => ?_
 by_cases h0 : closeT j f p = 0
 rotate_left 1
 ·rw [closeR_no h0];refine tt ?_;refine newRef_own o fun id6 H o => tt ?_;refine sw o fun H o => tt ?_;refine (specClose_ok B j f p).go fun _ => ?_;rw [closeR_no h0];refine tt ?_;refine newRef_own o fun id8 H o => tt ?_;refine sw o fun H o => tt ?_;refine wk_ref 8 o rfl fun H o => wk_ref 6 o rfl fun H o => wkW_done ?_;refine td ?_;refine (likeRows5n_ok B).go fun _ => ?_;refine td ?_;rw [decide_eq_false h0];refine tt ?_;exact pure_ret rfl o.sub
 have hk := closeT_zero h0
 have hf := hk.is
 have hM := clF_part (p := p) hk.top hk.sh hf
 have hk2 := hk.with hM
 have hid := clF_idem hk.top hk.sh hf hk.part;rw [closeR_yes h0];refine tt ?_;refine newRef_own o fun id6 H o => tt ?_;refine sw o fun H o => tt ?_;refine (specClose_ok B j f p).go fun _ => ?_;rw [closeR_yes h0];refine tt ?_;refine newRef_own o fun id8 H o => tt ?_;refine sw o fun H o => tt ?_;refine wk_ref 8 o rfl fun H o => wk_ref 6 o rfl fun H o => wkW_done ?_;refine td ?_;refine (likeRows5_ok B (clF j f p)).go fun _ => ?_;refine td ?_;refine (implClose_ok B j f (clF j f p)).go fun _ => ?_;rw [closeR_yes hk2.code,hid];refine tt ?_;refine newRef_own o fun id10 H o => tt ?_;refine sw o fun H o => tt ?_;refine (isBelow_ok B f hf p (clF j f p) hk.part hM fun x hx e he => clF_ext hk.top hk.sh hf hk.part (by rw [hk.part.len] at hx; exact hx) he).go fun _ => tt ?_;refine (implDense_ok B j f p).go fun _ => ?_
 have hD : denseR j f p = .tup [.bool (dec (FullP f (clF j f p))),iI 0] := by rw [denseR,h0,decide_eq_true rfl,Bool.true_and]
 rw [hD];refine tt ?_;refine wk_ref 10 o rfl fun H o => wkW_done ?_;refine td ?_;refine (likeRows5_ok B (clF j f p)).go fun _ => ?_;refine td ?_
 have hMl := hM.len
 have hob := hf.1.is.1.o
 have hsl := hf.1.sl
 have os : H0.sub H := o.sub;clear o;refine awp_for [0,3,4,5,8,14] (G := Unit) (fun k _ => [(16,some (.bool (dec (FullK f (clF j f p) k)))),(17,some (.int .i64 (k : Int)))]) (fun k _ H => H0.sub H) f.sizes.length () os (by rw [dec_t (show FullK f (clF j f p) 0 from fun i hi => by omega)]; rfl) ?_;clear os
 rintro k _ H hk1 os
 replace os : H0.sub H := os;refine tt ?_;apply bk <;> intro h1
 ·have h1p : k < f.sizes.length := of_decide h1
  have w1 := wsucc (k := k) (by omega)
  by_cases hP : FullK f (clF j f p) k
  ·rw [dec_t hP];refine tt ?_;refine ⟨by omega,h1p, ?_⟩;refine tw w1 ?_
   by_cases hQ : (((clF j f p).getD k default).length : Int) = f.sizes.getD k default
   ·exact for_next () (by omega) os (by rw [dec_t ((fullK_t hQ).mpr hP),decide_eq_true hQ])
   ·exact for_next () (by omega) os (by rw [dec_f (fullK_f hQ),decide_eq_false hQ])
  ·rw [dec_f hP];refine tw w1 ?_;exact for_next () (by omega) os (by rw [dec_f (show ¬ FullK f (clF j f p) (k + 1) from fun e => hP fun i hi => e i (by omega))])
 have h1p : ¬ k < f.sizes.length := of_ndecide h1
 obtain rfl : k = f.sizes.length := by omega
 have hb : dec (FullP f (clF j f p)) = dec (FullK f (clF j f p) f.sizes.length) := dec_congr (by rw [← hMl]; exact Iff.rfl);rw [hb]
 generalize dec (FullK f (clF j f p) f.sizes.length) = b
 have hbe : (b == b) = true := by cases b <;> rfl
 try simp only [go_sem,↓reduceIte,reduceEqDiff,reduceAdd,reduceMul,reduceLeDiff,reduceLT,dTrue,hbe]
 refine (implMaps_ok B hf hf rfl).go fun r _ e => ?_;subst e
 by_cases hm : 12 < f.sizes.sum ∨ 200 < (allMp f f (blankT f)).length
 ·rw [AllMR,if_pos hm];refine tt ?_;refine (specMaps_ok B hf hf rfl).go fun _ => ?_;rw [AllMR,if_pos hm];refine td ?_;refine (likeCubes5_ok B []).go fun _ => ?_
  have d30 : decide ((3 : Int) = 0) = false := rfl;try simp only [go_sem,↓reduceIte,reduceEqDiff,reduceAdd,reduceMul,reduceLeDiff,reduceLT,dTrue,d30]
  exact pure_ret rfl os
 rw [AllMR,if_neg hm];refine tt ?_;refine (specMaps_ok B hf hf rfl).go fun _ => ?_;rw [AllMR,if_neg hm];refine td ?_;refine (likeCubes5_ok B _).go fun _ => ?_
 have hL := allMp_is hf hf rfl (blank_pt hf.1)
 generalize allMp f f (blankT f) = L at *;refine td ?_
 by_cases hz : ((L.length : Nat) : Int) = 0
 ·rw [decide_eq_true hz];refine tt ?_;exact pure_ret rfl os
 rw [decide_eq_false hz];refine tt ?_;refine (roll_ok B code 2703 _).mono' fun r H1 _ ⟨id,s2,e,hs2,o⟩ => ?_;subst e;refine tt ?_;refine ⟨?_, ?_⟩
 focus
  refine (below_ok B L.length).go hs2 o fun r s3 H1 _ ⟨k,e,hk0,hk1,_⟩ hs o => ?_;subst e
  have hki : 0 ≤ k ∧ k.toNat < L.length := ⟨hk0,by have := hk1 (by omega); omega⟩;refine tt ?_;refine ⟨hki,by simp [maxL],newRef_own o fun id23 H1 o => ?_⟩;refine tt ?_;refine stc o fun H1 o => ?_
 rotate_left 1
 focus
  refine nb o fun id23 H1 o => tt ?_;refine (below_ok B L.length).go hs2 o.swap fun r s3 H1 _ ⟨k,e,hk0,hk1,_⟩ hs o => ?_;subst e
  have hki : 0 ≤ k ∧ k.toNat < L.length := ⟨hk0,by have := hk1 (by omega); omega⟩;refine tt ?_;refine ⟨hki,tt ?_⟩;refine stc o.swap fun H1 o => ?_
 all_goals
  have hm2 : MapL f f (ix L k) := ((hL.mem _).trans (blank_ext hf.1)).mp (ix_mem hki.2)
  have hi2 := mapL_is hf hf rfl hm2
  have hP1 := preP_part (p := clF j f p) hf hf rfl hm2 hM
  have hP2 := preP_part (p := p) hf hf rfl hm2 hk.part
  have hpc := pre_cl (j := j) (p := p) hf hf rfl hm2 hk.part;simp only [wr_cons,wr_nil,List.set_cons_zero,List.set_cons_succ] at o;refine tt ?_;refine wk_ref 23 o rfl fun H1 o => wkW_done ?_;refine tt ?_;refine (implPre_ok B f f (ix L k) (clF j f p) hi2 hm2 hM).go fun _ => tt ?_;refine newRef_own o fun id24 H1 o => tt ?_;refine sw o fun H1 o => tt ?_;refine (implPre_ok B f f (ix L k) p hi2 hm2 hk.part).go fun _ => tt ?_;refine newRef_own o fun id26 H1 o => tt ?_;refine sw o fun H1 o => tt ?_;refine (specPre_ok B f f (ix L k) p hi2 hm2 hk.part).go fun _ => tt ?_;refine newRef_own o fun id28 H1 o => tt ?_;refine sw o fun H1 o => tt ?_;refine wk_ref 28 o rfl fun H1 o => wk_ref 26 o rfl fun H1 o => wk_ref 24 o rfl fun H1 o => wkW_done ?_;refine td ?_;refine (likeRows5_ok B (preP f (ix L k) p)).go fun _ => ?_;refine td ?_;refine (implClose_ok B j f (preP f (ix L k) p)).go fun _ => ?_;rw [closeR_yes (hk.with hP2).code,hpc];refine tt ?_;refine newRef_own o fun id30 H1 o => tt ?_;refine sw o fun H1 o => tt ?_;refine wk_ref 30 o rfl fun H1 o => wkW_done ?_;refine td ?_;refine (likeRows5_ok B (preP f (ix L k) (clF j f p))).go fun _ => ?_;refine td ?_;exact pure_ret rfl (os.trans o.sub)
theorem fnClosures_all (B : Nat) (a : AV) (h : WB a) : Pur Tryz.prog B 9 [a] (.bool true) := by
 rcases h with ⟨l,rfl⟩ | ⟨n,hn,_,rfl⟩
 ·exact fnClosures_ok B l
 ·refine ⟨fun H0 => c9p (by simp) fun _ => ?_⟩;unfold s9p;refine tt ?_;refine (big_big B n hn).go fun _ => tt ?_;exact pure_ret rfl (.refl _)
end Go.Proofs.Shf
