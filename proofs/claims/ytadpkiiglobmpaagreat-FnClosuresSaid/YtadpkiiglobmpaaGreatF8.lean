/- A part of a proof. -/
import Derived.Test.YtadpkiiglobmpaaGreatF7
set_option linter.unusedVariables false
set_option linter.unusedSimpArgs false
set_option linter.unusedSectionVars false
open Nat (reduceEqDiff reduceAdd reduceMul reduceLeDiff reduceLT)
namespace Go.Proofs.Shf
open Go.AW Go.Proofs Go.Shf
theorem dFalse {p : Decidable False} : @decide False p = false := @decide_eq_false False p id
theorem likeRows5_ok (B : Nat) (a : List (List Int)) : Pur Tryz.prog B 57 [iLL a,iLL a] (.bool true) := by
 refine ⟨fun H0 => c57 (by simp) fun ⟨hf,_⟩ => ?_⟩
 have hl := fine_mL_le hf;simp only [maxL] at hl;unfold s57;refine tt ?_;refine ⟨fun e => (by simp at e),fun _ => At.mk ?_⟩;refine tt ?_;refine awp_for [0,1] (G := Unit) (fun k _ => [(5,some (.int .i64 (k : Int)))]) (fun k _ H => H = H0) a.length () rfl rfl ?_
 rintro k _ H hk rfl;refine tt ?_;apply bk <;> intro h1
 ·have h1p : k < a.length := of_decide h1
  have w := wsucc (k := k) (by omega);refine tt ?_;refine ⟨h1p,h1p,tt ?_⟩;refine ⟨_,(likeInts_ok B _ _).run, ?_⟩;rw [dec_t rfl];refine tw w ?_;exact for_next () (by omega) rfl rfl
 ·refine tt ?_;exact pure_ret rfl (.refl _)
theorem likeRows5n_ok (B : Nat) : Pur Tryz.prog B 57 [.nilsl,.nilsl] (.bool true) := by
 refine ⟨fun H0 => c57 (by simp) fun _ => ?_⟩;unfold s57;refine td ?_;refine awp_for [0,1] (G := Unit) (fun k _ => [(5,some (.int .i64 (k : Int)))]) (fun k _ H => H = H0) 0 () rfl rfl ?_
 rintro k _ H hk rfl
 obtain rfl : k = 0 := by omega
 refine tt ?_;refine ⟨fun e => (by simp at e),fun _ => At.mk ?_⟩;refine tt ?_;exact pure_ret rfl (.refl _)
theorem likeCubes5_ok (B : Nat) (a : List (List (List Int))) : Pur Tryz.prog B 61 [iLLL a,iLLL a] (.bool true) := by
 refine ⟨fun H0 => c61 (by simp) fun ⟨hf,_⟩ => ?_⟩
 have hl := fine_mL_le hf;simp only [maxL] at hl;unfold s61;refine tt ?_;refine ⟨fun e => (by simp at e),fun _ => At.mk ?_⟩;refine tt ?_;refine awp_for [0,1] (G := Unit) (fun k _ => [(5,some (.int .i64 (k : Int)))]) (fun k _ H => H = H0) a.length () rfl rfl ?_
 rintro k _ H hk rfl;refine tt ?_;apply bk <;> intro h1
 ·have h1p : k < a.length := of_decide h1
  have w := wsucc (k := k) (by omega);refine tt ?_;refine ⟨h1p,h1p,tt ?_⟩;refine ⟨_,(likeRows5_ok B _).run, ?_⟩;refine tw w ?_;exact for_next () (by omega) rfl rfl
 ·refine tt ?_;exact pure_ret rfl (.refl _)
def FullP (f : SF) (p : List (List Int)) : Prop := ∀ i,i < p.length → ((p.getD i default).length : Int) = f.sizes.getD i default
theorem whole_ok (B : Nat) (f : SF) (p : List (List Int)) (hp : p.length = f.sizes.length) : Pur Tryz.prog B 145 [.ptr f.cells,.agg [iLL p]] (.bool (dec (FullP f p))) := by
 refine ⟨fun H0 => c145 (by simp) fun ⟨_,hf,_⟩ => ?_⟩
 have hl := fine_mL_le (hf.agg (c := iLL p) (by simp));simp only [maxL] at hl;unfold s145;refine tt ?_;refine awp_for [0,8,9] (fun k _ => [(10,some (.int .i64 (k : Int)))]) (fun k _ H => H = H0 ∧ ∀ i,i < k → ((p.getD i default).length : Int) = f.sizes.getD i default) p.length () ⟨rfl,by simp⟩ rfl ?_
 rintro k _ H hk ⟨rfl,hall⟩;refine tt ?_;apply bk <;> intro h1
 ·have h1p : k < p.length := of_decide h1
  have w := wsucc (k := k) (by omega);refine tt ?_;refine ⟨h1p,tt ?_⟩;refine ⟨by omega,tt ?_⟩;apply bk <;> intro h2
  ·have h2p : ((p.getD k default).length : Int) ≠ f.sizes.getD k default := by simpa using h2
   refine tt ?_;exact pure_ret (by rw [dec_f (p := FullP f p) fun e => h2p (e k h1p)]) (.refl _)
  ·have h2p : ((p.getD k default).length : Int) = f.sizes.getD k default := by simpa using h2
   refine tw w ?_
   exact for_next () (by omega) ⟨rfl,fun i hi => by
    by_cases e : i = k
    ·rw [e]; omega
    ·exact hall i (by omega)⟩ rfl
 ·have h1p : ¬ k < p.length := of_ndecide h1;refine tt ?_;exact pure_ret (by rw [dec_t (show FullP f p from fun i hi => hall i (by omega))]) (.refl _)
open Classical in
/-- What IsDenseFor hands back. -/
noncomputable def denseR (j : Top) (f : SF) (p : List (List Int)) : AV := .tup [.bool (decide (closeT j f p = 0) && dec (FullP f (clF j f p))),iI (closeT j f p)]
theorem implDense_ok (B : Nat) (j : Top) (f : SF) (p : List (List Int)) : Pur Tryz.prog B 59 [.agg j.cells,.agg f.cells,.agg [iLL p]] (denseR j f p) := by
 refine ⟨fun H0 => c59 (by simp) fun _ => ?_⟩;unfold s59;refine tt ?_;refine (partCode_ok B j f p _).mono ?_
 rintro r H1 ⟨rfl,X,rfl,hX⟩;refine tt ?_
 by_cases h0 : closeT j f p = 0
 rotate_left 1
 ·refine ⟨fun _ => At.mk ?_,fun e => absurd (by simpa using e) h0⟩;refine tt ?_;exact pure_ret (by rw [denseR,decide_eq_false h0,Bool.false_and]) (.refl _)
 refine ⟨fun e => absurd h0 (by simpa using e),fun _ => At.mk ?_⟩
 obtain ⟨cnt,rfl⟩ := hX h0
 have hk := closeT_zero h0
 have hcp := closurePart_ok B j f p hk.form hk.few hk.sh hk.is hk.part cnt
 generalize (covV j).cells cnt = cv at *;refine tt ?_;refine hcp.go fun _ => tt ?_;refine (whole_ok B f (clF j f p) (clF_part hk.top hk.sh hk.is).len).go fun _ => tt ?_;exact pure_ret (by rw [denseR,h0]; rfl) (.refl _)
theorem areParts2_ok (B : Nat) (f : SF) (hf : f.Is) (p q : List (List Int)) (hp : f.Part p) (hq : f.Part q) : Pur Tryz.prog B 123 [.ptr f.cells,.sl [.agg [iLL p],.agg [iLL q]]] (.bool true) := by
 refine ⟨fun H0 => c123 (by simp) fun _ => ?_⟩;unfold s123
 have o : Owns H0 H0 [] := .nil _;refine tt ?_;refine (isSetFunctor_ok B f).go fun _ => ?_;rw [dec_t hf];refine tt ?_;refine awp_for [0,10,11] (G := Unit) (fun k _ => [(12,some (.int .i64 (k : Int)))]) (fun k _ H => Owns H0 H []) 2 () o rfl ?_;clear o
 rintro k _ H hk o
 replace o : Owns H0 H [] := o
 rcases (show k = 0 ∨ k = 1 ∨ k = 2 by omega) with rfl | rfl | rfl
 ·have w1 := wsucc (k := 0) (by omega);refine td ?_;refine newRef_own o fun id6 H o => tt ?_;refine sw o fun H o => tt ?_;refine rd_celln o (by simp) ?_;refine tt ?_;refine (isPart_ok B f hf p).go fun _ => ?_;rw [dec_t hp];refine tw w1 ?_;exact for_next () (by omega) o.tl rfl
 ·have w1 := wsucc (k := 1) (by omega);refine td ?_;refine newRef_own o fun id6 H o => tt ?_;refine sw o fun H o => tt ?_;refine rd_celln o (by simp) ?_;refine tt ?_;refine (isPart_ok B f hf q).go fun _ => ?_;rw [dec_t hq];refine tw w1 ?_;exact for_next () (by omega) o.tl rfl
 ·try simp only [go_sem,↓reduceIte,reduceEqDiff,reduceAdd,reduceMul,reduceLeDiff,reduceLT,dFalse]
  exact pure_ret rfl o.sub
theorem partBelow_ok (B : Nat) (p q : List (List Int)) (hl : p.length = q.length) (h : ∀ x : Nat,x < p.length → ∀ e,e ∈ p.getD x default → e ∈ q.getD x default) :
  Pur Tryz.prog B 144 [.agg [iLL p],.agg [iLL q]] (.bool true) := by
 refine ⟨fun H0 => c144 (by simp) fun ⟨hf,_⟩ => ?_⟩
 have hfp := hf.agg (c := iLL p) (by simp)
 have hfl := fine_mL_le hfp;simp only [maxL] at hfl;unfold s144;refine tt ?_;refine awp_for [3,10,11] (G := Unit) (fun k _ => [(12,some (.int .i64 (k : Int)))]) (fun k _ H => H = H0) p.length () rfl rfl ?_
 rintro k _ H hk rfl;refine tt ?_;apply bk <;> intro h1
 ·have h1p : k < p.length := of_decide h1
  have w := wsucc (k := k) (by omega)
  have hrl := fine_mL_le (fine_mL_mem hfp (mem_getD.mpr ⟨k,h1p,rfl⟩));simp only [maxL] at hrl;refine tt ?_;refine ⟨h1p,tt ?_⟩;refine awp_for [3,5,10,11,12,17,18] (G := Unit) (fun i _ => [(19,some (.int .i64 (i : Int)))]) (fun i _ H' => H' = H) (p.getD k default).length () rfl rfl ?_
  rintro i _ H' hi rfl;refine tt ?_;apply bk <;> intro h2
  ·have h2p : i < (p.getD k default).length := of_decide h2
   have w2 := wsucc (k := i) (by omega);refine tt ?_;refine ⟨h2p,tt ?_⟩;refine (holds_ok B q (k : Int) ((p.getD k default).getD i default) (by omega)).go fun _ => ?_;rw [ix_nat,dec_t (h k h1p _ (mem_getD.mpr ⟨i,h2p,rfl⟩))];refine tw w2 ?_;exact for_next () (by omega) rfl rfl
  ·refine tw w ?_;exact for_next () (by omega) rfl rfl
 ·refine tt ?_;exact pure_ret rfl (.refl _)
theorem isBelow_ok (B : Nat) (f : SF) (hf : f.Is) (p q : List (List Int)) (hp : f.Part p) (hq : f.Part q) (h : ∀ x : Nat,x < p.length → ∀ e,e ∈ p.getD x default → e ∈ q.getD x default) :
  Pur Tryz.prog B 58 [.agg f.cells,.agg [iLL p],.agg [iLL q]] (.tup [.bool true,iI 0]) := by
 refine ⟨fun H0 => c58 (by simp) fun _ => ?_⟩;unfold s58;refine tt ?_;refine (areParts2_ok B f hf p q hp hq).go fun _ => tt ?_;refine (partBelow_ok B p q (by rw [hp.len,hq.len]) h).go fun _ => tt ?_;exact pure_ret rfl (.refl _)
theorem specPart_ok (B : Nat) (j : Top) (f : SF) (p : List (List Int)) (hk : CloseOk j f p) : Pur Tryz.prog B 143 [.agg j.cells,.agg f.cells,iLL p] (iLL (clF j f p)) := by
 have hf := hk.is
 have hob := hf.1.is.1.o
 have hsl := hf.1.sl
 have hcov := form_covers hk.form hk.few
 have hcl : j.covers.length = f.sizes.length := by
  have := hcov.1
  have h2 := (tabOk hk.form.is hk.few).len
  have h3 : f.shape.objs = j.shape.objs := by rw [hk.sh]
  omega
 have hz : ∀ k : Nat,k < f.sizes.length → 0 ≤ f.sizes.getD k default ∧ f.sizes.getD k default < 17 := fun k h => hf.1.sz _ (mem_getD.mpr ⟨k,h,rfl⟩);refine ⟨fun H0 => c143p (by simp) fun _ => ?_⟩;unfold s143p
 have o : Owns H0 H0 [] := .nil _;refine tt ?_;refine new_list iL o fun id7 H o => tt ?_
 refine awp_for [2,3,4] (G := Nat × List (List Int)) (fun k g => [(7,some (.buf g.1 g.2.length)),(8,some (.int .i64 (k : Int)))])
  (fun k g H => g.2 = (List.range k).map (partE f fun x e => decide (valS f p (x : Int) (e : Int) ∈ j.covers.getD x default)) ∧ Owns H0 H [(g.1,.cells 1 (g.2.map iL) 0)]) f.shape.objs.toNat (id7,[]) ⟨rfl,o⟩ rfl ?_
 clear o
 rintro k ⟨id7,out⟩ H hk1 ⟨hout,o⟩;dsimp only at hout o
 have hol : out.length = k := by rw [hout]; simp
 refine tt ?_;apply bk <;> intro h1
 ·have h1p := of_decide h1
  have w1 := wsucc (k := k) (by omega)
  have hkl : k < f.sizes.length := by omega
  have hzk := hz k hkl
  obtain ⟨n,hn⟩ : ∃ n : Nat,f.sizes.getD k default = n := ⟨_,(Int.toNat_of_nonneg hzk.1).symm⟩;rw [hn] at hzk;refine tt ?_;refine new_list iI o fun id9 H o => tt ?_
  refine awp_for [2,3,4,7,8] (G := Nat × List Int) (fun e g => [(9,some (.buf g.1 g.2.length)),(10,some (.int .i64 (e : Int)))])
   (fun e g H => g.2 = nats (fun e => decide (valS f p (k : Int) (e : Int) ∈ j.covers.getD k default)) e ∧ Owns H0 H [(g.1,.cells 1 (g.2.map iI) 0),(id7,.cells 1 (out.map iL) 0)]) n (id9,[]) ⟨by simp,o⟩ rfl ?_
  clear o
  rintro e ⟨id9,row⟩ H he ⟨hrow,o⟩;dsimp only at hrow o
  have hrl : row.length ≤ e := by rw [hrow]; exact nats_len _ _
  refine tt ?_;refine ⟨hkl, ?_⟩;rw [hn];refine tt ?_;apply bk <;> intro h2
  ·have h2p := of_decide h2
   have w2 := wsucc (k := e) (by omega);refine tt ?_;refine ⟨by omega, ?_⟩;refine ⟨_,(l25Value_ok B f hf p hk.part.len k e (by omega) (by rw [ix_nat,hn]; omega)).run,tt ?_⟩;refine ⟨_,(l09Find_ok B (j.covers.getD k default) (valS f p k e)).run,tt ?_⟩;apply bk <;> intro h3
   ·have h3p : 0 ≤ indexOf (j.covers.getD k default) (valS f p k e) := by simpa using h3
    have h3q : decide (valS f p (k : Int) (e : Int) ∈ j.covers.getD k default) = true := by
     rw [decide_eq_true_eq]; exact (indexOf_mem _ _).mp h3p
    refine tt ?_;refine app_own (e : Int) o rfl rfl (by simp only [maxL]; omega) fun id9 H o => ?_;refine tw w2 ?_;exact for_next (_,_) (by omega) ⟨by rw [hrow,nats_t h3q],o⟩ rfl
   ·have h3p : ¬ 0 ≤ indexOf (j.covers.getD k default) (valS f p k e) := by simpa using h3
    have h3q : decide (valS f p (k : Int) (e : Int) ∈ j.covers.getD k default) = false := by
     rw [decide_eq_false_iff_not]; exact fun e => h3p ((indexOf_mem _ _).mpr e)
    refine tw w2 ?_;exact for_next (_,_) (by omega) ⟨by rw [hrow,nats_f h3q],o⟩ rfl
  ·have h2p := of_ndecide h2
   obtain rfl : e = n := by omega
   have hrow2 : row = partE f (fun x e => decide (valS f p (x : Int) (e : Int) ∈ j.covers.getD x default)) k := by rw [hrow,partE,hn,Int.toNat_natCast]
   refine tt ?_;refine fz_own o rfl fun H o => tt ?_;refine app_own row o rfl rfl (by simp only [maxL]; omega) fun id7 H o => ?_;refine tw w1 ?_;exact for_next (_,_) (by omega) ⟨by rw [hout,map_range_succ,hrow2],o⟩ rfl
 ·have h1p := of_ndecide h1
  have hkk : k = f.sizes.length := by omega
  refine tt ?_;refine fz_own o rfl fun H o => tt ?_;exact pure_ret (by rw [hout,hkk]; rfl) o.sub
theorem l27On_ok (B : Nat) (j : Top) (f : SF) (p : List (List Int)) : Pur Tryz.prog B 142 [.agg j.cells,.agg f.cells,.agg [iLL p]] (iI (closeT j f p)) := by
 refine ⟨fun H0 => c142 (by simp) fun _ => ?_⟩;unfold s142
 have o : Owns H0 H0 [] := .nil _;refine tt ?_;refine (l27Shape_ok B j).go fun _ => ?_
 by_cases h1 : j.Form
 rotate_left 1
 ·rw [dec_f h1];refine tt ?_;exact pure_ret (by rw [closeT_no fun e => h1 e.1]) (.refl _)
 rw [dec_t h1];refine tt ?_;refine (specIsPart_ok B f p).go fun _ => ?_
 by_cases h2 : f.Is ∧ f.Part p
 rotate_left 1
 ·rw [dec_f h2];refine tt ?_;exact pure_ret (by rw [closeT_no fun e => h2 e.2]) (.refl _)
 rw [dec_t h2]
 have hT := closeT_yes (j := j) ⟨h1,h2⟩;refine tt ?_;refine (l27Code_ok B j _).mono ?_
 rintro r H1 ⟨rfl,cs,b,hl,ho,rfl⟩;refine tt ?_;refine nb o fun id7 H o => tt ?_;refine st_cells o (by simp) (by simp [hl]) (by simpa using ho) fun H o => tt ?_
 by_cases h0 : codeT j = 0
 ·have hd : decide (codeT j = 0) = true := decide_eq_true h0;refine tw hd ?_;refine (l02Same_ok B j.shape f.shape).go fun _ => ?_
  by_cases h3 : j.shape = f.shape
  ·rw [dec_t h3];refine tt ?_;exact pure_ret (by rw [hT,codeO,if_neg fun e => e.2 h3]) o.sub
  ·rw [dec_f h3];refine tt ?_;exact pure_ret (by rw [hT,codeO,if_pos ⟨h0,h3⟩]) o.sub
 ·have hd : decide (codeT j = 0) = false := decide_eq_false h0;refine tw hd ?_;exact pure_ret (by rw [hT,codeO,if_neg fun e => h0 e.1]) o.sub
theorem specClose_ok (B : Nat) (j : Top) (f : SF) (p : List (List Int)) : Pur Tryz.prog B 56 [.agg j.cells,.agg f.cells,.agg [iLL p]] (closeR j f p) := by
 refine ⟨fun H0 => c56 (by simp) fun _ => ?_⟩;unfold s56
 have o : Owns H0 H0 [] := .nil _;refine tt ?_;refine newRef_own o fun id6 H o => tt ?_;refine (l27On_ok B j f p).go fun _ => tt ?_
 by_cases h0 : closeT j f p = 0
 rotate_left 1
 ·refine ⟨fun _ => At.mk ?_,fun e => absurd (by simpa using e) h0⟩;refine tt ?_;refine sw o fun H o => tt ?_
  have hr := o.rc 1 0 (by simp);simp only [List.drop_zero] at hr;rw [hr];exact pure_ret (closeR_no h0).symm o.sub
 refine ⟨fun e => absurd h0 (by simpa using e),fun _ => At.mk ?_⟩
 have hk := closeT_zero h0;refine tt ?_;refine (specPart_ok B j f p hk).go fun _ => tt ?_;refine sw o fun H o => tt ?_
 have hr := o.rc 1 0 (by simp);simp only [List.drop_zero] at hr;rw [hr];exact pure_ret (closeR_yes h0).symm o.sub
theorem preF_ok (B : Nat) (f g : SF) (t p : List (List Int)) (hf : f.Is) (hg : g.Is) (es : f.shape = g.shape) (hm : MapL f g t) (hp : g.Part p) (x e : Nat) (hx : x < f.sizes.length) (he : (e : Int) < f.sizes.getD x default) :
  Pur Tryz.prog B 267 [iI x,iI e,.ptr [iLL p],.ptr [.ptr (SM.cells ⟨f,g,t⟩)]] (.bool (decide (ix (ix t (x : Int)) (e : Int) ∈ p.getD x default))) := by
 have hsl := hf.1.sl
 have hsl2 := hg.1.sl;rw [← es] at hsl2
 have htl := hm.len
 have hpl := hp.len
 have hr := (hm.pl x (by omega)).1;simp only [ix_nat] at hr ⊢
 have hh := holds_ok B p (x : Int) ((t.getD x default).getD e default) (by omega);rw [ix_nat,← decide_dec] at hh;refine ⟨fun H0 => c267 (by simp) fun _ => ?_⟩;unfold s267;refine tt ?_;refine ⟨by omega,tt ?_⟩;refine ⟨by omega,tt ?_⟩;refine ⟨_,hh.run,tt ?_⟩;exact pure_ret rfl (.refl _)
theorem preimage_ok (B : Nat) (f g : SF) (t p : List (List Int)) (hf : f.Is) (hg : g.Is) (es : f.shape = g.shape) (hm : MapL f g t) (hp : g.Part p) :
  Pur Tryz.prog B 148 [.ptr (SM.cells ⟨f,g,t⟩),.agg [iLL p]] (.agg [iLL (preP f t p)]) := by
 have hob := hf.1.is.1.o
 have hsl := hf.1.sl
 have hcl := fun x e hx he => preF_ok B f g t p hf hg es hm hp x e hx he;refine ⟨fun H0 => c148 (by simp) fun _ => ?_⟩;unfold s148
 have o : Owns H0 H0 [] := .nil _;refine tt ?_;refine newRef_own o fun id6 H o => tt ?_;refine (partOf_ok B f (by omega) (fun y hy => hf.1.sz y hy) 267 [.ptr [iLL p],.ptr [.ptr (SM.cells ⟨f,g,t⟩)]] (fun x e => decide (ix (ix t (x : Int)) (e : Int) ∈ p.getD x default)) H fun x e hx he H1 _ => (hcl x e hx he).1 H1).mono ?_
 rintro r H1 ⟨rfl,rfl⟩;refine tt ?_;refine sw o fun H o => tt ?_
 have hr := o.rc 1 0 (by simp);simp only [List.drop_zero] at hr;rw [hr];exact pure_ret rfl o.sub
theorem implPre_ok (B : Nat) (f g : SF) (t p : List (List Int)) (hi : SM.Is ⟨f,g,t⟩) (hm : MapL f g t) (hp : g.Part p) :
  Pur Tryz.prog B 62 [.agg (SM.cells ⟨f,g,t⟩),.agg [iLL p]] (.tup [.agg [iLL (preP f t p)],iI 0]) := by
 refine ⟨fun H0 => c62 (by simp) fun _ => ?_⟩;unfold s62
 have o : Owns H0 H0 [] := .nil _;refine tt ?_;refine newRef_own o fun id4 H o => tt ?_;refine (isNatural_ok B ⟨f,g,t⟩).go fun _ => ?_;rw [dec_t hi];refine tt ?_;refine (isPart_ok B g hi.t p).go fun _ => ?_;rw [dec_t hp];refine tt ?_;refine (preimage_ok B f g t p hi.s hi.t hi.eq hm hp).go fun _ => tt ?_;refine sw o fun H o => tt ?_
 have hr := o.rc 1 0 (by simp);simp only [List.drop_zero] at hr;rw [hr];exact pure_ret rfl o.sub
def preQ (t p : List (List Int)) (x e : Nat) : Bool := decide ((t.getD x default).getD e default ∈ p.getD x default)
theorem preP_eq (f : SF) (t p : List (List Int)) : preP f t p = partF f (preQ t p) := by
 have : preQ t p = fun (x e : Nat) => decide (ix (ix t (x : Int)) (e : Int) ∈ p.getD x default) := by
  funext x e; simp only [ix_nat,preQ]
 rw [this]; rfl
theorem l26Back_ok (B : Nat) (f g : SF) (t p : List (List Int)) (hi : SM.Is ⟨f,g,t⟩) (hm : MapL f g t) (hp : g.Part p) : Pur Tryz.prog B 151 [.agg (SM.cells ⟨f,g,t⟩),iLL p] (iLL (preP f t p)) := by
 have hf : f.Is := hi.s
 have hg : g.Is := hi.t
 have es : f.shape = g.shape := hi.eq
 have hob := hf.1.is.1.o
 have hsl := hf.1.sl
 have hsl2 := hg.1.sl;rw [← es] at hsl2
 have htl := hm.len
 have hpl := hp.len
 have hz : ∀ k : Nat,k < f.sizes.length → 0 ≤ f.sizes.getD k default ∧ f.sizes.getD k default < 17 := fun k h => hf.1.sz _ (mem_getD.mpr ⟨k,h,rfl⟩);refine ⟨fun H0 => c151p (by simp) fun _ => ?_⟩;unfold s151p
 have o : Owns H0 H0 [] := .nil _;refine tt ?_;refine new_list iL o fun id5 H o => tt ?_
 refine awp_for [1,2] (G := Nat × List (List Int)) (fun k g => [(5,some (.buf g.1 g.2.length)),(6,some (.int .i64 (k : Int)))])
  (fun k g H => g.2 = (List.range k).map (partE f (preQ t p)) ∧ Owns H0 H [(g.1,.cells 1 (g.2.map iL) 0)]) t.length (id5,[]) ⟨rfl,o⟩ rfl ?_
 clear o
 rintro k ⟨id5,out⟩ H hk1 ⟨hout,o⟩;dsimp only at hout o
 have hol : out.length = k := by rw [hout]; simp
 refine tt ?_;apply bk <;> intro h1
 ·have h1p : k < t.length := of_decide h1
  have w1 := wsucc (k := k) (by omega)
  have hkl : k < f.sizes.length := by omega
  have hzk := hz k hkl
  obtain ⟨n,hn⟩ : ∃ n : Nat,f.sizes.getD k default = n := ⟨_,(Int.toNat_of_nonneg hzk.1).symm⟩;rw [hn] at hzk
  have hrl0 : (t.getD k default).length = n := by
   have := (hm.pl k (by omega)).1;simp only [ix_nat] at this;omega
  refine tt ?_;refine new_list iI o fun id7 H o => tt ?_
  refine awp_for [1,2,5,6] (G := Nat × List Int) (fun e g => [(7,some (.buf g.1 g.2.length)),(8,some (.int .i64 (e : Int)))])
   (fun e g H => g.2 = nats (preQ t p k) e ∧ Owns H0 H [(g.1,.cells 1 (g.2.map iI) 0),(id5,.cells 1 (out.map iL) 0)]) n (id7,[]) ⟨by simp,o⟩ rfl ?_
  clear o
  rintro e ⟨id7,row⟩ H he ⟨hrow,o⟩;dsimp only at hrow o
  have hrl : row.length ≤ e := by rw [hrow]; exact nats_len _ _
  refine tt ?_;refine ⟨h1p,tt ?_⟩;apply bk <;> intro h2
  ·have h2p : e < (t.getD k default).length := of_decide h2
   have w2 := wsucc (k := e) (by omega);refine tt ?_;refine ⟨by omega,h1p,h2p,tt ?_⟩;refine ⟨_,(l01Has_ok B (p.getD k default) ((t.getD k default).getD e default)).run,tt ?_⟩;apply bk <;> intro h3
   ·have h3q : preQ t p k e = true := by rw [preQ,decide_dec]; exact h3
    refine tt ?_;refine app_own (e : Int) o rfl rfl (by simp only [maxL]; omega) fun id7 H o => ?_;refine tw w2 ?_;exact for_next (_,_) (by omega) ⟨by rw [hrow,nats_t h3q],o⟩ rfl
   ·have h3q : preQ t p k e = false := by rw [preQ,decide_dec]; exact h3
    refine tw w2 ?_;exact for_next (_,_) (by omega) ⟨by rw [hrow,nats_f h3q],o⟩ rfl
  ·have h2p : ¬ e < (t.getD k default).length := of_ndecide h2
   obtain rfl : e = n := by omega
   have hrow2 : row = partE f (preQ t p) k := by rw [hrow,partE,hn,Int.toNat_natCast]
   refine tt ?_;refine fz_own o rfl fun H o => tt ?_;refine app_own row o rfl rfl (by simp only [maxL]; omega) fun id5 H o => ?_;refine tw w1 ?_;exact for_next (_,_) (by omega) ⟨by rw [hout,map_range_succ,hrow2],o⟩ rfl
 ·have h1p : ¬ k < t.length := of_ndecide h1
  have hkk : k = f.sizes.length := by omega
  refine tt ?_;refine fz_own o rfl fun H o => tt ?_;exact pure_ret (by rw [hout,hkk,preP_eq]; rfl) o.sub
theorem specPre_ok (B : Nat) (f g : SF) (t p : List (List Int)) (hi : SM.Is ⟨f,g,t⟩) (hm : MapL f g t) (hp : g.Part p) :
  Pur Tryz.prog B 63 [.agg (SM.cells ⟨f,g,t⟩),.agg [iLL p]] (.tup [.agg [iLL (preP f t p)],iI 0]) := by
 refine ⟨fun H0 => c63 (by simp) fun _ => ?_⟩;unfold s63
 have o : Owns H0 H0 [] := .nil _;refine tt ?_;refine newRef_own o fun id4 H o => tt ?_;refine (l19IsMap_ok B ⟨f,g,t⟩).go fun _ => ?_;rw [dec_t hi];refine tt ?_;refine (l25Part_ok B g hi.t p).go fun _ => ?_;rw [dec_t hp];refine tt ?_;refine (l26Back_ok B f g t p hi hm hp).go fun _ => tt ?_;refine sw o fun H o => tt ?_
 have hr := o.rc 1 0 (by simp);simp only [List.drop_zero] at hr;rw [hr];exact pure_ret rfl o.sub
end Go.Proofs.Shf
namespace Go.AW
theorem set_selfT {l : List AV} {i : Nat} (h : i < l.length) : l.set i (l.getD i nv) = l := by
 apply List.ext_getElem?
 intro j
 by_cases e : j = i
 ·subst e; simp [List.getD_eq_getElem?_getD,h]
 ·rw [List.getElem?_set_ne (by omega)]
theorem LsG.lenT {α : Type} {O : Ob → AV → α → Prop} {p : Ob} {X : AV} {A : List α} (h : LsG O p X A) : lenE (some X) = some (True,.int .i64 A.length) := by
 rcases h with ⟨_,rfl,rfl⟩ | ⟨id,Xs,o,_,rfl,hr⟩
 ·rfl
 ·simp [Go.AW.lenE,hr.len]
theorem LsG.posT {α : Type} {O : Ob → AV → α → Prop} {p : Ob} {X : AV} {A : List α} (h : LsG O p X A) {i : Nat} (hi : i < A.length) : ∃ id Xs o,p = (id,.cells 1 Xs 0) :: o ∧ X = .buf id Xs.length ∧ RowsG O Xs A o := by
 rcases h with ⟨_,_,rfl⟩ | h
 ·simp at hi
 ·exact h
theorem Owns.rowT {α : Type} [Inhabited α] {O : Ob → AV → α → Prop} {H0 H : Heap} {l q : Ob} {id : Nat} {Xs : List AV} {A : List α} (o : Owns H0 H (((id,.cells 1 Xs 0) :: q) ++ l)) (hr : RowsG O Xs A q) {i : Nat} (hi : i < Xs.length) :
  ∃ p r,Owns H0 H (p ++ ((id,.cells 1 Xs 0) :: (r ++ l))) ∧ O p (Xs.getD i nv) (A.getD i default) ∧
   ∀ a' p' H',O p' (Xs.getD i nv) a' → Owns H0 H' (p' ++ ((id,.cells 1 Xs 0) :: (r ++ l))) → ∃ q',RowsG O Xs (A.set i a') q' ∧ Owns H0 H' (((id,.cells 1 Xs 0) :: q') ++ l) := by
 obtain ⟨p,r,h1,h2,h3⟩ := hr.split i hi;refine ⟨p,r,o.perm ?_,h2,fun a' p' H' hO o' => ?_⟩
 ·refine List.Perm.trans ?_ (List.perm_middle (a := (id,MObj.cells 1 Xs 0)) (l₁ := p) (l₂ := r ++ l)).symm;refine List.Perm.cons _ ?_;rw [← List.append_assoc];exact List.Perm.append_right l h1
 ·obtain ⟨q',k1,k2⟩ := h3 _ _ _ hO;rw [set_selfT hi] at k1;refine ⟨q',k1,o'.perm ?_⟩;refine List.Perm.trans (List.perm_middle (a := (id,MObj.cells 1 Xs 0)) (l₁ := p') (l₂ := r ++ l)) ?_;refine List.Perm.cons _ ?_;rw [← List.append_assoc];exact List.Perm.append_right l k2.symm
theorem RowsG.intsT {Xs : List AV} {l : List Int} {o : Ob} (h : RowsG OI Xs l o) : o = [] ∧ Xs = l.map iI := by
 induction h with
 | nil => exact ⟨rfl,rfl⟩
 | cons h _ ih => exact ⟨by rw [h.1,ih.1]; rfl,by rw [h.2,ih.2]; rfl⟩
theorem rowsIT : ∀ (l : List Int),RowsG OI (l.map iI) l []
 | [] => .nil
 | a :: r => .cons (p := []) ⟨rfl,rfl⟩ (rowsIT r)
theorem LsG.appT {α : Type} {O : Ob → AV → α → Prop} {p q l : Ob} {X Y : AV} {A : List α} {a : α} {H0 H : Heap} {K : Kont} (h : LsG O q X A) (hy : O p Y a) (h1 : Y.cells = [Y] ∧ Y.one = true) (o : Owns H0 H (p ++ (q ++ l))) (hm : A.length + 1 ≤ maxL)
  (hk : ∀ X' q' H',X'.one = true → LsG O q' X' (A ++ [a]) → Owns H0 H' (q' ++ l) → K X' H') : appW 1 (some X) (some (.sl [Y])) K H := by
 have hok : okEls 1 [Y] := by
  intro e he;rw [List.mem_singleton] at he; subst he;rw [h1.1];exact ⟨rfl,fun c hc => by rw [List.mem_singleton] at hc; subst hc; exact h1.2⟩
 have hfl : flat [Y] = [Y] := by simp [flat,h1.1]
 rcases h with ⟨rfl,rfl,rfl⟩ | ⟨id,Xs,r,rfl,rfl,hr⟩
 ·simp only [appW,srcOf,app1];refine ⟨⟨by simp [maxL],by simp [maxL],hok⟩,fun id hn => ?_⟩;rw [hfl];refine hk (.buf id 1) ((id,.cells 1 [Y] 0) :: p) _ rfl (.inr ⟨id,[Y],p,rfl,rfl, ?_⟩) ?_
  ·have := RowsG.cons hy RowsG.nil;rw [List.append_nil] at this; exact this
  ·have := o.new hn (.cells 1 [Y] 0)
   simpa using this
 ·have o2 : Owns H0 H ((id,.cells 1 Xs 0) :: (p ++ (r ++ l))) := by
   refine o.perm ?_
   simp
  have h0 := o2.h0;simp only at h0
  have hl := hr.len;simp only [appW,h0,srcOf,app2];refine ⟨⟨trivial,by simp,by simp; omega,by simp; omega,hok⟩,fun id' hn => ?_⟩;rw [hfl];refine hk (.buf id' (Xs.length + 1)) ((id',.cells 1 (Xs ++ [Y]) 0) :: (r ++ p)) _ rfl (.inr ⟨id',Xs ++ [Y],r ++ p,rfl,by simp, ?_⟩) ?_
  ·refine hr.app ?_
   have := RowsG.cons hy RowsG.nil;rw [List.append_nil] at this; exact this
  ·have := o2.mv hn (.cells 1 (Xs ++ [Y]) 0);refine this.perm (List.Perm.cons _ ?_);rw [← List.append_assoc];exact List.Perm.append_right l List.perm_append_comm
theorem tab_row {H0 H : Heap} {q l : Ob} {X : AV} {p : List (List Int)} (hX : OLL q X p) (o : Owns H0 H (q ++ l)) {y : Nat} (hy : y < p.length) :
  ∃ idX Xs,X = .buf idX Xs.length ∧ Xs.length = p.length ∧ H.get idX = some (.cells 1 Xs 0) ∧ ∃ pr,OL pr (Xs.getD y nv) (p.getD y default) ∧ ∀ x,x ∈ pr → H.get x.1 = some x.2 := by
 obtain ⟨idX,Xs,r,rfl,rfl,hr⟩ := hX.posT hy
 have hl := hr.len
 obtain ⟨pr,r2,o2,hO,_⟩ := o.rowT hr (i := y) (by omega);exact ⟨idX,Xs,rfl,hl,o.h0,pr,hO,fun x hx => o2.get x (List.mem_append_left _ hx)⟩
theorem tab_cell {H0 H : Heap} {q l : Ob} {X : AV} {p : List (List Int)} (hX : OLL q X p) (o : Owns H0 H (q ++ l)) {y i : Nat} (hy : y < p.length) (hi : i < (p.getD y default).length) :
  ∃ idX Xs idR,X = .buf idX Xs.length ∧ Xs.length = p.length ∧ H.get idX = some (.cells 1 Xs 0) ∧ Xs.getD y nv = .buf idR (p.getD y default).length ∧ H.get idR = some (.cells 1 ((p.getD y default).map iI) 0) ∧
   ∀ (k : Int) (K : Kont),(∀ q' H',OLL q' X (p.set y ((p.getD y default).set i k)) → Owns H0 H' (q' ++ l) → K nv H') → st1 (H.get idR) idR i 1 [iI k] K H := by
 obtain ⟨idX,Xs,r,rfl,rfl,hr⟩ := hX.posT hy
 have hl := hr.len
 obtain ⟨pr,r2,o2,hO,back⟩ := o.rowT hr (i := y) (by omega)
 obtain ⟨idR,Ys,rr,rfl,hY,hrr⟩ := hO.posT hi
 obtain ⟨rfl,rfl⟩ := hrr.intsT;rw [List.length_map] at hY;refine ⟨idX,Xs,idR,rfl,hl,o.h0,hY,o2.h0,fun k K hk => ?_⟩;refine set_own (f := iI) k o2 rfl hi fun H' o3 => ?_
 obtain ⟨q',hr',o4⟩ := back ((p.getD y default).set i k) [(idR,.cells 1 (((p.getD y default).set i k).map iI) 0)] H' (by rw [hY]; exact .inr ⟨idR,_,[],rfl,by simp,rowsIT _⟩) o3;exact hk _ H' (.inr ⟨idX,Xs,q',rfl,rfl,hr'⟩) o4
theorem New.lentQ {α : Type} {O : Ob → AV → α → Prop} {f : α → AV} {a : α} {P : Program} {B : Nat} {fn : FuncId} {args es : List AV} {H : Heap} {K : Kont} (hO : Ow O f) (h : New P B fn es fun p X => O p X a) (hl : es.length = args.length)
  (ht : ∀ i,i < args.length → ∀ g w v,WRel g B H w → VRel g (args.getD i nv) v → VRel (g.lend H w) (es.getD i nv) v)
  (hk : ∀ H',H.sub H' → K (f a) H') : CallH P B fn args H K := by
 have h1 : CallH P B fn args H fun r H' => ∃ p,O p r a ∧ Owns H H' (p ++ []) := New.lent hO h (Owns.nil H) hl ht fun r p H' q o => ⟨p,q,o⟩;refine ⟨h1.1,fun g w vs hW hv => ?_⟩;refine (h1.2 g w vs hW hv).mono fun e w' ⟨v,he,g',r,H',q1,⟨p,q2,q3⟩,q4,q5,q6⟩ => ?_
 obtain ⟨g2,H2,r1,r2,r3,r4⟩ := hO.fz p r a q2 g' B H H' [] w' q5 q3;exact ⟨v,he,g2,f a,H2,q1.trans r1,hk H2 r3.sub,r4 v q4,r2,q6⟩
end Go.AW
namespace Go.AW
@[go_sem] def prE (q : Int × Int) : AV := .agg [iI q.1,iI q.2]
instance : AggN 2 prE := ⟨by omega,fun _ => rfl,fun _ => rfl,fun a c hc => by
 simp only [prE,AV.cells,List.mem_cons,List.not_mem_nil,or_false] at hc
 rcases hc with rfl | rfl <;> rfl⟩
end Go.AW
namespace Go.Proofs.Shf
open Go.AW Go.Proofs Go.Shf
@[go_sem] def srO (f g : SF) (X fv : AV) : MObj := .cells 5 [.ptr f.cells,.ptr g.cells,.bool false,X,fv] 0
theorem set_ok (B : Nat) {f g : SF} {x e d : Int} (w : At3 f g x e d) {p : List (List Int)} (hP : PT f g p) {idS idN idB : Nat} {fv X : AV} {q l : Ob} {H0 H : Heap} (hX : OLL q X p)
  (o : Owns H0 H ((idS,srO f g X fv) :: (idN,.cells 1 [.buf idB 0] 0) :: (idB,.cells 2 [] 0) :: (q ++ l))) :
  CallH Tryz.prog B 312 [.ref idS 0,iI x,iI e,iI d,.ref idN 0] H fun r H' => ∃ (ok : Bool) (k : Nat) (p' : List (List Int)) (N : List (Int × Int)) (q' : Ob) (idB' : Nat),r = .bool ok ∧ OLL q' X p' ∧
   Owns H0 H' ((idS,srO f g X fv) :: (idN,.cells 1 [.buf idB' N.length] 0) :: (idB',.cells 2 (flat (N.map prE)) 0) :: (q' ++ l)) ∧ SetM f g p x e d k p' N ∧ k ≤ (outs f.shape x).length ∧
   (ok = true → k = (outs f.shape x).length) ∧ (ok = false → ∀ t,ExtT f g p t → ix (ix t x) e ≠ d) := by
 refine c312p (by simp) fun _ => ?_
 have hm := w.hf.1.is.1.m
 have hob := w.hf.1.is.1.o
 have htl := w.hf.1.is.1.tol
 have hol : (outs f.shape x).length ≤ 40 := by
  rw [outs,List.length_map];refine Nat.le_trans (List.length_filter_le _ _) ?_;rw [List.length_range]; omega
 have hgal : g.acts.length = f.shape.frm.length := by have := w.hg.1.al; rw [← w.sh] at this; exact this
 unfold s312p;refine tt ?_;refine rd_cells o (by simp) ?_;refine tt ?_;refine (outOf_ok B f.shape x).go fun _ => tt ?_
 refine awp_for [0,2,3,4,11,25,26] (G := List (List Int) × List (Int × Int) × Ob × Nat) (fun k _ => [(27,some (.int .i64 (k : Int)))])
  (fun k G H => OLL G.2.2.1 X G.1 ∧ SetM f g p x e d k G.1 G.2.1 ∧ Owns H0 H ((idS,srO f g X fv) :: (idN,MObj.cells 1 [.buf G.2.2.2 G.2.1.length] 0) :: (G.2.2.2,MObj.cells 2 (flat (G.2.1.map prE)) 0) :: (G.2.2.1 ++ l))) (outs f.shape x).length (p,[],q,idB) ⟨hX,.zero f g p x e d,o⟩ rfl ?_
 clear o hX
 rintro k ⟨p',N,q,idB⟩ H hk ⟨hX,hS,o⟩;dsimp only at hX hS o;refine tt ?_;apply bk <;> intro h1
 ·have h1p := of_decide h1
  have w1 := wsucc (k := k) (by omega)
  obtain ⟨a,ea⟩ : ∃ a,(outs f.shape x).getD k default = a := ⟨_,rfl⟩
  have hA := w.arr (b := a) (mem_getD.mpr ⟨k,h1p,ea⟩)
  have hin := hP.inT w.hf.1 hA.2.2.1 hA.2.2.2.1
  have hfin := w.hf.1.inAct hA.1 (e := e) (by rw [hA.2.1]; exact w.he)
  have hgin := w.hg.1.inAct (a := a) (e := d) (by rw [← w.sh]; exact hA.1) (by rw [← w.sh,hA.2.1]; exact w.hd)
  have hal := w.hf.1.al
  have hp1 : (ix f.shape.to a).toNat < p'.length := by rw [hS.len]; exact hin.1.2
  have hp2 : (ix (ix f.acts a) e).toNat < (p'.getD (ix f.shape.to a).toNat default).length := by rw [hS.row]; exact hin.2.2
  have o1 : Owns H0 H (q ++ ((idS,srO f g X fv) :: (idN,.cells 1 [.buf idB N.length] 0) :: (idB,.cells 2 (flat (N.map prE)) 0) :: l)) := o.pm
  obtain ⟨idX,Xs,idR,rfl,hXl,hgX,hXr,hgR,hset⟩ := tab_cell hX o1 hp1 hp2
  have hgS : H.get idS = some (srO f g (.buf idX Xs.length) fv) := o.h0;refine tt ?_;refine ⟨h1p, ?_⟩;rw [ea];refine tt ?_;refine ⟨⟨hA.1.1,by omega⟩, ?_⟩;refine rd_get hgS (by simp) ?_;refine tt ?_;refine ⟨⟨hA.1.1,by omega⟩,hfin,rd_get hgS (by simp) ?_⟩;refine tt ?_;refine ⟨⟨hA.1.1,by omega⟩,hgin, ?_⟩;refine rd_get hgS (by simp) ?_;refine tt ?_;refine ⟨⟨hA.2.2.1.1,by omega⟩,rd_get hgX (by omega) ?_⟩;rw [hXr];refine tt ?_;refine ⟨⟨hA.2.2.2.1.1,hp2⟩,rd_inner (f := iI) hgR hp2 ?_⟩
  have eV : (p'.getD (ix f.shape.to a).toNat default).getD (ix (ix f.acts a) e).toNat default = ix (ix p' (ix f.shape.to a)) (ix (ix f.acts a) e) := rfl;rw [eV];refine tt ?_;apply bk <;> intro h2
  ·have h2p : 0 ≤ ix (ix p' (ix f.shape.to a)) (ix (ix f.acts a) e) := of_decide h2;refine tt ?_;refine rd_get hgS (by simp) ?_;refine tt ?_;refine ⟨⟨hA.2.2.1.1,by omega⟩,rd_get hgX (by omega) ?_⟩;rw [hXr];refine tt ?_;refine ⟨⟨hA.2.2.2.1.1,hp2⟩,rd_inner (f := iI) hgR hp2 ?_⟩;rw [eV];refine tt ?_;apply bk <;> intro h3
   ·have h3p := dd h3;refine tt ?_;exact ⟨H,.refl H,false,k,p',N,q,idB,rfl,hX,o,hS,hk,(fun h => by cases h),fun _ t ht => hS.bad w h1p ea h2p h3p t ht⟩
   ·have h3p := dd h3;refine tw w1 ?_;exact for_next (p',N,q,idB) (by omega) ⟨hX,hS.same h1p ea h3p,o⟩ rfl
  ·have h2p : ¬ 0 ≤ ix (ix p' (ix f.shape.to a)) (ix (ix f.acts a) e) := of_ndecide h2
   have hNl := hS.nl
   have hfr := hS.fresh w hP h1p ea h2p;refine tt ?_;refine rd_get hgS (by simp) ?_;refine tt ?_;refine rd_get hgS (by simp) ?_;refine tt ?_;refine ⟨⟨hA.2.2.1.1,by omega⟩,rd_get hgX (by omega) ?_⟩;rw [hXr];refine tt ?_;refine ⟨⟨hA.2.2.2.1.1,hp2⟩, ?_⟩;refine hset _ _ fun q' H hX' o => tt ?_
   have o : Owns H0 H ((idB,.cells 2 (flat (N.map prE)) 0) :: (idN,.cells 1 [.buf idB N.length] 0) :: (idS,srO f g (.buf idX Xs.length) fv) :: (q' ++ l)) := o.pm
   have hgN : H.get idN = some (.cells 1 [.buf idB N.length] 0) := o.tl.h0;refine rd_get hgN (by simp) ?_;refine tt ?_;refine app_ownN (f := prE) (ix f.shape.to a,ix (ix f.acts a) e) o rfl rfl (by simp only [maxL]; omega) fun idB H o => tt ?_;refine sw o.swap fun H o => ?_;refine tw w1 ?_;exact for_next (_,N ++ [(ix f.shape.to a,ix (ix f.acts a) e)],q',idB) (by omega) ⟨hX',hfr,(by simp only [srO,SF.cells] at o ⊢; exact o.pm)⟩ rfl
 ·have h1p := of_ndecide h1
  obtain rfl : k = (outs f.shape x).length := by omega
  refine tt ?_;exact ⟨H,.refl H,true,_,p',N,q,idB,rfl,hX,o,hS,Nat.le_refl _,fun _ => rfl,fun h => by cases h⟩
theorem noneLeft {p : List Int} (h : indexOf p (-1) < 0) {i : Int} (hi : 0 ≤ i ∧ i.toNat < p.length) : ix p i ≠ -1 := fun e => by
 have := (indexOf_mem p (-1)).mpr (by rw [← e]; exact ix_mem hi.2);omega
end Go.Proofs.Shf
namespace Go.Shf
open Go.AW
end Go.Shf
namespace Go.Proofs.Shf
open Go.AW Go.Proofs Go.Shf
theorem cloneN (B : Nat) (l : List Int) : New Tryz.prog B 189 [iL l] fun p X => OL p X l :=
 ⟨fun H => (clone_own B l H H [] (.nil H)).mono fun r H' ⟨id,A,e,o,q⟩ => by
  subst e q;exact ⟨_,.inr ⟨id,_,[],rfl,by simp,rowsIT _⟩,o⟩⟩
theorem clonesN (B : Nat) (l : List (List Int)) : New Tryz.prog B 170 [iLL l] fun p X => OLL p X l := by
 refine ⟨fun H0 => c170p (by simp) fun ⟨hf,_⟩ => ?_⟩
 have hl := fine_mL_le hf;simp only [maxL] at hl;unfold s170p;refine tt ?_;refine ⟨by simp only [maxL]; omega,newBuf_own (.nil _) fun id H o => ?_⟩;refine tt ?_
 refine awp_for [9,10] (G := AV × Ob) (fun k g => [(3,some g.1),(11,some (.int .i64 (k : Int)))])
  (fun k g H => OLL g.2 g.1 (l.take k) ∧ Owns H0 H (g.2 ++ [])) l.length (.buf id 0,[(id,.cells 1 [] 0)]) ⟨.inr ⟨id,[],[],rfl,rfl,.nil⟩,o⟩ rfl ?_
 clear o
 rintro k ⟨X,q⟩ H hk ⟨hX,o⟩;dsimp only at hX o;refine tt ?_;apply bk <;> intro h1
 ·have h1p := of_decide h1
  have w := wsucc (k := k) (by omega);refine tt ?_;refine ⟨h1p, ?_⟩;refine (cloneN B (l.getD k default)).call o fun Y p H hY o => ?_
  have hY1 := hY.one;refine tt ?_;refine ⟨by simp [okEls,AV.cells_one hY1,hY1], ?_⟩;refine hX.appT hY ⟨AV.cells_one hY1,hY1⟩ o (by rw [List.length_take]; simp only [maxL]; omega) fun X' q' H hX1 hX' o => ?_;refine tw w ?_;refine for_next (X',q') h1p ⟨?_,o⟩ rfl
  simp only;rw [take_succ_getD l h1p]; exact hX'
 ·have h1p := of_ndecide h1
  obtain rfl : k = l.length := by omega
  rw [List.take_length] at hX;rw [List.append_nil] at o;refine tt ?_;exact ⟨H,.refl H,q,hX,o⟩
def OutG (idO : Nat) (A : List (List (List Int))) (w : Ob) : Prop := ∃ (Y : AV) (p : Ob),w = (idO,.cells 1 [Y] 0) :: p ∧ LsP iLL p Y A
def OutF (most idO : Nat) (A : List (List (List Int))) (w : Ob) : Prop := OutG idO A w ∧ A.length ≤ most
theorem blank_take (f : SF) {k : Nat} (hk : k < f.sizes.length) {n : Nat} (hn : f.sizes.getD k default = n) : (blankT f).take (k + 1) = (blankT f).take k ++ [List.replicate n (-1)] := by
 rw [take_one _ (by simpa [blankT] using hk)]
 congr 2
 rw [blankT,map_getD _ hk,hn,Int.toNat_natCast]
theorem setsCode_ok (B : Nat) {f g : SF} (hf : f.Is) (hg : g.Is) (sh : f.shape = g.shape) : Pur Tryz.prog B 72 [.ptr f.cells,.ptr g.cells] (iI 0) := by
 refine ⟨fun H0 => c72 (by simp) fun _ => ?_⟩;unfold s72;refine tt ?_;refine (show Pur Tryz.prog B _ [.sl [.ptr f.cells,.ptr g.cells]] _ from areSetFunctors_ok B [f,g]).go fun _ => ?_;rw [dec_t (by simp [hf,hg])];refine tt ?_;refine ⟨_,(sameCategory_ok B f.shape g.shape).run, ?_⟩;rw [dec_t sh];refine tt ?_;exact pure_ret rfl (.refl _)
end Go.Proofs.Shf
namespace Go.Shf
open Go.AW Go.Proofs.Shf
@[go_sem] def QS.cells (q : QS) : List AV := [iL q.v,mL prE q.l,mL prE q.r,iL q.o]
end Go.Shf
namespace Go.Proofs.Shf
open Go.AW Go.Proofs Go.Shf
end Go.Proofs.Shf
namespace Go.Shf
open Go.AW Go.Proofs.Shf
end Go.Shf
namespace Go.Proofs.Shf
open Go.AW Go.Proofs Go.Shf
@[go_sem] def hcE (f : SF) (x : (Int × Int) × (Int × Int)) : AV := .fn (.func 298) [.ptr [.ptr f.cells],.ptr [iI x.1.1,iI x.1.2],.ptr [iI x.2.1,iI x.2.2]]
instance (f : SF) : One (hcE f) := ⟨fun _ => rfl,fun _ => rfl⟩
end Go.Proofs.Shf
