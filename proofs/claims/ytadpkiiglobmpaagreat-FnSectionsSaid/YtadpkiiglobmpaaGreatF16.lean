/- A part of a proof. -/
import Derived.Test.YtadpkiiglobmpaaGreatF15
set_option linter.unusedVariables false
set_option linter.unusedSimpArgs false
set_option linter.unusedSectionVars false
open Nat (reduceEqDiff reduceAdd reduceMul reduceLeDiff reduceLT)
namespace Go.Proofs.Shf
open Go.AW Go.Proofs Go.Shf
def GoK (f g : SF) (most : Nat) (idS : Nat) (L : List (List (List Int))) (H0 : Heap) (l : Ob) : Kont := fun r H' => ∃ (X : AV) (w : Ob), r = .tup [] ∧ LsP iLL w X (L.take most) ∧ Owns H0 H' ((idS, sgO f g most X) :: (w ++ l))
theorem ggo_ok (B : Nat) {f g : SF} (hf : f.Is) (hg : g.Is) (sh : f.shape = g.shape) (most : Nat) (hmost : most ≤ 1000) (idS : Nat) :
  ∀ (n : Nat) (p : List (List Int)), unsetT f p = n → PT f g p → ∀ (A : List (List (List Int))) (X : AV) (w l : Ob) (H0 H : Heap), A.length < most → LsP iLL w X A → Owns H0 H ((idS, sgO f g most X) :: (w ++ l)) →
   CallH Tryz.prog B 181 [.ref idS 0, iLL p] H (GoK f g most idS (A ++ allMp f g p) H0 l) := by
 intro n
 induction n using Nat.strongRecOn with
 | _ n ih =>
 intro p hn hP A X w l H0 H hA hX o
 refine c181 (by simp) fun _ => ?_
 have hob := hf.1.is.1.o
 have hsl := hf.1.sl
 have hpl := hP.len
 have hz0 : ∀ x, x < f.sizes.length → 0 ≤ f.sizes.getD x default ∧ f.sizes.getD x default < 17 := fun x hx => hf.1.sz _ (mem_getD.mpr ⟨x, hx, rfl⟩)
 have htk : (A ++ ([] : List (List (List Int)))).take most = A := by rw [List.append_nil]; exact List.take_of_length_le (by omega)
 unfold s181
 have w0 : IntKind.i64.wrap ((p.length : Int) - 1) = (p.length : Int) - 1 - ((0 : Nat) : Int) := by rw [wrap_i64 (by omega) (by omega)]; omega
 try simp only [go_sem, reduceAdd, w0]
 refine awp_for [0, 1] (G := Int × Int) (fun k g => [(4, some (iI g.1)), (5, some (iI g.2)), (6, some (.int .i64 ((p.length : Int) - 1 - (k : Int))))])
  (fun k G H => ScanT f p ((p.length : Int) - k) 0 G.1 G.2 ∧ Owns H0 H ((idS, sgO f g most X) :: (w ++ l))) p.length (-1, -1) ⟨.start (by omega), o⟩ rfl ?_
 clear o
 rintro k ⟨x, e⟩ H hk ⟨hS, o⟩
 replace hS : ScanT f p ((p.length : Int) - k) 0 x e := hS
 replace o : Owns H0 H ((idS, sgO f g most X) :: (w ++ l)) := o
 try simp only [go_sem]
 refine ⟨fun h1 => At.mk ?_, fun h1 => At.mk ?_⟩
 ·have h1p : k < p.length := by have := of_decide h1; omega
  have w1 : IntKind.i64.wrap ((p.length : Int) - 1 - (k : Int) - 1) = (p.length : Int) - 1 - ((k + 1 : Nat) : Int) := by rw [wrap_i64 (by omega) (by omega)]; omega
  obtain ⟨y, hy⟩ : ∃ y : Nat, (p.length : Int) - 1 - (k : Int) = y := ⟨p.length - 1 - k, by omega⟩
  have hyl : y < p.length := by omega
  have hzy := hz0 y (by omega)
  have hrow := hP.row y (by omega)
  have w2 : IntKind.i64.wrap (((p.getD y default).length : Int) - 1) = ((p.getD y default).length : Int) - 1 - ((0 : Nat) : Int) := by rw [wrap_i64 (by omega) (by omega)]; omega
  have hS1 : ScanT f p y (((p.getD y default).length : Int) - ((0 : Nat) : Int)) x e := by
   have e1 : (p.length : Int) - k = (y : Int) + 1 := by omega
   rw [e1] at hS
   exact hS.row (by rw [ix_nat]; omega)
  rw [hy]
  try simp only [go_sem]
  refine ⟨by omega, ?_⟩
  try simp only [go_sem, w2]
  refine awp_for [0, 1, 6] (G := Int × Int) (fun j g => [(4, some (iI g.1)), (5, some (iI g.2)), (7, some (.int .i64 (((p.getD y default).length : Int) - 1 - (j : Int))))])
   (fun j G H => ScanT f p y (((p.getD y default).length : Int) - j) G.1 G.2 ∧ Owns H0 H ((idS, sgO f g most X) :: (w ++ l))) (p.getD y default).length (x, e) ⟨hS1, o⟩ rfl ?_
  clear o hS hS1
  rintro j ⟨x, e⟩ H hj ⟨hS, o⟩
  replace hS : ScanT f p y (((p.getD y default).length : Int) - j) x e := hS
  replace o : Owns H0 H ((idS, sgO f g most X) :: (w ++ l)) := o
  try simp only [go_sem]
  refine ⟨fun h2 => At.mk ?_, fun h2 => At.mk ?_⟩
  ·have h2p : j < (p.getD y default).length := by have := of_decide h2; omega
   obtain ⟨d, hd⟩ : ∃ d : Nat, ((p.getD y default).length : Int) - 1 - (j : Int) = d := ⟨(p.getD y default).length - 1 - j, by omega⟩
   have hdl : d < (p.getD y default).length := by omega
   have w3 : IntKind.i64.wrap ((d : Int) - 1) = ((p.getD y default).length : Int) - 1 - ((j + 1 : Nat) : Int) := by rw [wrap_i64 (by omega) (by omega)]; omega
   have e1 : ((p.getD y default).length : Int) - j = (d : Int) + 1 := by omega
   have e2 : ((p.getD y default).length : Int) - ((j + 1 : Nat) : Int) = (d : Int) := by omega
   have hY : (0 : Int) ≤ (y : Int) ∧ (y : Int) < f.shape.objs := by omega
   have hD : (0 : Int) ≤ (d : Int) ∧ (d : Int) < ix f.sizes (y : Int) := by rw [ix_nat]; omega
   have hv := hP.val y d hY hD
   have eV : (p.getD y default).getD d default = ix (ix p (y : Int)) (d : Int) := by rw [ix_nat, ix_nat]
   rw [e1] at hS
   rw [hd]
   try simp only [go_sem]
   refine ⟨by omega, hdl, ?_⟩
   rw [eV]
   try simp only [go_sem]
   refine ⟨fun h3 => At.mk ?_, fun h3 => At.mk ?_⟩
   ·have h3p : ix (ix p (y : Int)) (d : Int) = -1 := by have := of_decide h3; omega
    try simp only [go_sem]
    refine (gcho_ok B hf hg sh hY hD hP o).mono ?_
    clear o
    rintro r H ⟨rfl, o⟩
    try simp only [go_sem]
    refine ⟨fun h4 => At.mk ?_, fun h4 => At.mk ?_⟩
    ·have h4p : choT f g p y d (ix g.sizes (y : Int)).toNat = [] := List.length_eq_zero_iff.mp (by rw [ix_nat]; have := of_decide h4; omega)
     have hno := allMp_eq hf hg sh hP (cho_none hf hg sh hP hY hD h4p)
     try simp only [go_sem]
     refine ⟨H, .refl H, X, w, rfl, ?_, o⟩
     rw [← hno, htk]; exact hX
    ·try simp only [go_sem, w3]
     exact for_next ((y : Int), (d : Int)) (by omega) ⟨by rw [e2]; exact hS.hit hY hD h3p, o⟩ rfl
   ·have h3p : ix (ix p (y : Int)) (d : Int) ≠ -1 := by have := of_ndecide h3; omega
    try simp only [go_sem, w3]
    exact for_next (x, e) (by omega) ⟨by rw [e2]; exact hS.keep h3p, o⟩ rfl
  ·have h2p : j = (p.getD y default).length := by have := of_ndecide h2; omega
   rw [← hy] at *
   try simp only [go_sem, w1]
   exact for_next (x, e) (by omega) ⟨by
    have e1 : (p.length : Int) - ((k + 1 : Nat) : Int) = (p.length : Int) - 1 - k := by omega
    rw [h2p, Int.sub_self] at hS
    rw [e1]; exact hS, o⟩ rfl
 ·have h1p : k = p.length := by have := of_ndecide h1; omega
  rw [h1p, Int.sub_self] at hS
  try simp only [go_sem]
  have oX : Owns H0 H (w ++ ((idS, sgO f g most X) :: l)) := o.perm (permC fun x => by (try dsimp only); simp only [List.append_eq, List.count_append, List.count_cons, List.count_nil, List.map_nil, List.length_nil, List.length_append, List.length_cons, List.length_set, Nat.zero_add, List.nil_append, iI, iL]; omega)
  refine ⟨fun h2 => At.mk ?_, fun h2 => At.mk ?_⟩
  ·have h2p := of_decide h2
   have hfull := allMp_eq hf hg sh hP (lists_full hf hP (hS.none h2p))
   have hgS : H.get idS = some (sgO f g most X) := o.h0
   try simp only [go_sem, reduceAdd]
   refine rd_get hgS (by simp) ?_
   try simp only [go_sem, reduceAdd]
   refine (LsO.mk oX hX).app p rfl (by simp only [maxL]; omega) fun idn H o => ?_
   try simp only [go_sem, reduceAdd]
   refine stc o.swap fun H o => ?_
   simp only [wr_cons, wr_nil, List.set_cons_zero, List.set_cons_succ] at o
   try simp only [go_sem]
   refine ⟨H, .refl H, .buf idn (A ++ [p]).length, [(idn, .cells 1 ((A ++ [p]).map iLL) 0)], rfl, ?_, o⟩
   rw [← hfull, List.take_of_length_le (by simp; omega)]
   exact .inr ⟨idn, rfl, rfl⟩
  ·have h2p := of_ndecide h2
   have hF := hS.fst h2p
   obtain ⟨hx, he⟩ : _ ∧ _ := ⟨hF.hx, hF.he⟩
   have hgX := hg.1.inX (x := x) (by rw [← sh]; exact hx)
   have h0 := hg.1.sz _ (ix_mem hgX.2)
   obtain ⟨n, hn2⟩ : ∃ n : Nat, ix g.sizes x = n := ⟨_, (Int.toNat_of_nonneg h0.1).symm⟩
   have hat : ∀ d, 0 ≤ d → d < ix g.sizes x → At3 f g x e d := fun d h1 h2 => ⟨hf, hg, sh, hx, he, h1, h2⟩
   have hcl := choT_len (f := f) (g := g) (p := p) (x := x) (e := e) n
   try simp only [go_sem]
   refine (gcho_ok B hf hg sh hx he hP o).mono ?_
   clear o oX
   rintro r H ⟨rfl, o⟩
   rw [hn2, Int.toNat_natCast]
   try simp only [go_sem]
   refine awp_for [0, 1, 4, 5, 8] (G := List (List (List Int)) × AV × Ob × Int) (fun i _ => [(9, some (.int .i64 (i : Int)))])
    (fun i G H => ChoI f g p x e n i G.2.2.2 G.1 ∧ LsP iLL G.2.2.1 G.2.1 ((A ++ G.1).take most) ∧ Owns H0 H ((idS, sgO f g most G.2.1) :: (G.2.2.1 ++ l))) (choT f g p x e n).length ([], X, w, 0) ⟨.start hx he n, by rw [htk]; exact hX, o⟩ rfl ?_
   clear o hX
   rintro i ⟨M, X, w, b⟩ H hi ⟨hC, hX, o⟩
   replace hC : ChoI f g p x e n i b M := hC
   replace hX : LsP iLL w X ((A ++ M).take most) := hX
   replace o : Owns H0 H ((idS, sgO f g most X) :: (w ++ l)) := o
   have hgS : H.get idS = some (sgO f g most X) := o.h0
   have hlX := hX.lenE
   try simp only [go_sem]
   by_cases h3 : i < (choT f g p x e n).length
   rotate_left 1
   ·rw [decide_eq_false (by omega)]
    obtain rfl : i = (choT f g p x e n).length := by omega
    try simp only [go_sem]
    refine ⟨H, .refl H, X, w, rfl, ?_, o⟩
    rw [← allMp_eq hf hg sh hP (hC.done hat hF hP hn2.symm)]; exact hX
   ·rw [decide_eq_true (by omega)]
    try simp only [go_sem, reduceAdd]
    refine rd_get hgS (by simp) ?_
    try simp only [go_sem, reduceAdd, hlX]
    refine rd_get hgS (by simp) ?_
    try simp only [go_sem]
    refine ⟨fun h4 => At.mk ?_, fun h4 => At.mk ?_⟩
    rotate_left 1
    ·have h4p := of_ndecide h4
     have hle : most ≤ (A ++ M).length := by rw [List.length_take] at h4p; omega
     try simp only [go_sem]
     refine ⟨H, .refl H, X, w, rfl, ?_, o⟩
     obtain ⟨R, hR⟩ := hC.acc.pre hF hP hsl (allMp_is hf hg sh hP)
     rw [← hR, ← List.append_assoc, List.take_append_of_le_length hle]; exact hX
    ·have h4p := of_decide h4
     have hlt : (A ++ M).length < most := by rw [List.length_take] at h4p; omega
     have etk : (A ++ M).take most = A ++ M := List.take_of_length_le (by omega)
     rw [etk] at hX
     have w1 := wsucc (k := i) (by omega)
     obtain ⟨c, hc⟩ : ∃ c, (choT f g p x e n).getD i default = c := ⟨_, rfl⟩
     have hmc := mem_choT.mp (mem_getD.mpr ⟨i, h3, hc⟩)
     have hatc := hat c hmc.1.1 (by omega)
     try simp only [go_sem]
     refine ⟨h3, ?_⟩
     rw [hc]
     refine (gset_ok B hatc hP o).mono ?_
     clear o
     rintro r H ⟨⟨ok, p', rfl, ht, hno⟩, o⟩
     cases ok with
     | false => exact absurd hmc.2 (hno rfl)
     | true =>
     obtain ⟨N, hSM⟩ := ht rfl
     try simp only [go_sem, reduceAdd, reduceLT]
     refine (ih (unsetT f p') (by rw [← hn]; exact hSM.less hatc hP hF.un) p' rfl (hSM.pt hatc hP) (A ++ M) X w l H0 H hlt hX o).mono ?_
     clear o hX
     rintro r H ⟨X, w, rfl, hX, o⟩
     try simp only [go_sem, w1]
     refine for_next (M ++ allMp f g p', X, w, c + 1) (by omega) ⟨?_, ?_, o⟩ rfl
     ·exact hC.step hat hF hP hsl hn2.symm h3 hc (allMp_is hf hg sh (hSM.pt hatc hP)) fun t => hSM.ext hatc hP t
     ·rw [← List.append_assoc]; exact hX
end Go.Proofs.Shf
namespace Go.Proofs.Shf
open Go.AW Go.Proofs Go.Shf
theorem gopen_ok (B : Nat) {f : SF} (hf : f.Shape) : Pur Tryz.prog B 182 [.agg f.cells] (iLL (blankT f)) := by
 refine ⟨fun H0 => c182p (by simp) fun _ => ?_⟩
 have hob := hf.is.1.o
 have hsl := hf.sl
 have hz0 : ∀ x, x < f.sizes.length → 0 ≤ f.sizes.getD x default ∧ f.sizes.getD x default < 17 := fun x hx => hf.sz _ (mem_getD.mpr ⟨x, hx, rfl⟩)
 unfold s182p
 have o : Owns H0 H0 [] := .nil _
 try simp only [go_sem, reduceAdd]
 refine new_list iL o fun id H o => ?_
 try simp only [go_sem]
 refine awp_for [1] (G := Nat × List (List Int)) (fun k g => [(3, some (.buf g.1 g.2.length)), (4, some (.int .i64 (k : Int)))])
  (fun k G H => G.2 = (blankT f).take k ∧ Owns H0 H [(G.1, .cells 1 (G.2.map iL) 0)]) f.sizes.length (id, []) ⟨by simp, o⟩ rfl ?_
 clear o
 rintro k ⟨id, out⟩ H hk ⟨hout, o⟩
 replace hout : out = (blankT f).take k := hout
 replace o : Owns H0 H [(id, .cells 1 (out.map iL) 0)] := o
 have hol : out.length ≤ k := by rw [hout, List.length_take]; omega
 try simp only [go_sem, reduceAdd, reduceLeDiff]
 refine ⟨fun h1 => At.mk ?_, fun h1 => At.mk ?_⟩
 ·have h1p : k < f.sizes.length := by have := of_decide h1; omega
  have w1 := wsucc (k := k) (by omega)
  have hzk := hz0 k h1p
  obtain ⟨n, hn⟩ : ∃ n : Nat, f.sizes.getD k default = n := ⟨_, (Int.toNat_of_nonneg hzk.1).symm⟩
  rw [hn] at hzk
  try simp only [go_sem]
  refine new_list iI o fun idr H o => ?_
  try simp only [go_sem]
  refine awp_for [1, 3, 4] (G := Nat × List Int) (fun e g => [(5, some (.buf g.1 g.2.length)), (6, some (.int .i64 (e : Int)))])
   (fun e G H => G.2 = List.replicate e (-1) ∧ Owns H0 H ((G.1, .cells 1 (G.2.map iI) 0) :: [(id, .cells 1 (out.map iL) 0)])) n (idr, []) ⟨by simp, o⟩ rfl ?_
  clear o
  rintro e ⟨idr, row⟩ H he ⟨hrow, o⟩
  replace hrow : row = List.replicate e (-1) := hrow
  replace o : Owns H0 H ((idr, .cells 1 (row.map iI) 0) :: [(id, .cells 1 (out.map iL) 0)]) := o
  have hrl : row.length = e := by rw [hrow]; simp
  try simp only [go_sem, reduceAdd, reduceLeDiff]
  refine ⟨h1p, ?_⟩
  rw [hn]
  refine ⟨fun h2 => At.mk ?_, fun h2 => At.mk ?_⟩
  ·have h2p : e < n := by have := of_decide h2; omega
   have w2 := wsucc (k := e) (by omega)
   try simp only [go_sem, reduceAdd]
   refine app_own (-1 : Int) o rfl rfl (by simp only [maxL]; omega) fun idr H o => ?_
   try simp only [go_sem, w2]
   exact for_next (_, _) (by omega) ⟨by rw [hrow, ← rep_succ], o⟩ rfl
  ·have h2p : e = n := by have := of_ndecide h2; omega
   try simp only [go_sem]
   refine fz_own o rfl fun H o => ?_
   try simp only [go_sem, reduceAdd]
   refine app_own (f := iL) row o rfl rfl (by simp only [maxL]; omega) fun id H o => ?_
   try simp only [go_sem, w1]
   exact for_next (_, _) (by omega) ⟨by rw [hout, hrow, h2p, blank_take f h1p hn], o⟩ rfl
 ·have h1p : k = f.sizes.length := by have := of_ndecide h1; omega
  try simp only [go_sem]
  refine fz_own o rfl fun H o => ?_
  try simp only [go_sem]
  exact pure_ret (by rw [hout, h1p, List.take_of_length_le (by simp [blankT])]) o.sub
theorem gmaps_ok (B : Nat) {f g : SF} (hf : f.Is) (hg : g.Is) (sh : f.shape = g.shape) (most : Nat) (h0 : 0 < most) (hmost : most ≤ 1000) : Pur Tryz.prog B 83 [.agg f.cells, .agg g.cells, .bool false, iI most] (iLLL ((allMp f g (blankT f)).take most)) := by
 refine ⟨fun H0 => c83p (by simp) fun _ => ?_⟩
 unfold s83p
 have o : Owns H0 H0 [] := .nil _
 try simp only [go_sem, reduceAdd, reduceLeDiff]
 refine ⟨by simp [maxL], newRef_own o fun idS H o => ?_⟩
 try simp only [go_sem, reduceAdd]
 refine (gopen_ok B hf.1).go fun _ => ?_
 try simp only [go_sem]
 refine (ggo_ok B hf hg sh most hmost idS _ (blankT f) rfl (blank_pt hf.1) [] .nilsl [] [] H0 H h0 (.inl ⟨rfl, rfl, rfl⟩) o).mono ?_
 clear o
 rintro r H ⟨X, w, rfl, hX, o⟩
 rw [List.nil_append] at hX
 try simp only [go_sem, reduceAdd]
 refine rd_cells o (by simp) ?_
 try simp only [go_sem]
 have o : Owns H0 H (w ++ [(idS, sgO f g most X)]) := o.perm (permC fun x => by (try dsimp only); simp only [List.append_eq, List.count_append, List.count_cons, List.count_nil, List.map_nil, List.length_nil, List.length_append, List.length_cons, List.length_set, Nat.zero_add, List.nil_append, iI, iL]; omega)
 rcases hX with ⟨rfl, rfl, hM⟩ | ⟨idn, rfl, rfl⟩
 ·try simp only [go_sem]
  exact pure_ret (by rw [hM]; rfl) o.sub
 ·refine fz_own (f := iLL) o rfl fun H o => ?_
  try simp only [go_sem]
  exact pure_ret rfl o.sub
theorem flat_ok (B : Nat) (L : List (List Int)) (hL : ∀ l, l ∈ L → l.length ≤ 1) : Pur Tryz.prog B 84 [iLL L] (iL L.flatten) := by
 refine ⟨fun H0 => c84 (by simp) fun ⟨hf, _⟩ => ?_⟩
 have hl := fine_mL_le hf
 simp only [maxL] at hl
 unfold s84
 have o : Owns H0 H0 [] := .nil _
 try simp only [go_sem, reduceAdd]
 refine new_list iI o fun id H o => ?_
 try simp only [go_sem]
 refine awp_for [0] (G := Nat × List Int) (fun k g => [(3, some (.buf g.1 g.2.length)), (4, some (.int .i64 (k : Int)))])
  (fun k G H => (G.2 = (L.take k).flatten ∧ G.2.length ≤ k) ∧ Owns H0 H [(G.1, .cells 1 (G.2.map iI) 0)]) L.length (id, []) ⟨by simp, o⟩ rfl ?_
 clear o
 rintro k ⟨id, out⟩ H hk ⟨⟨hout, hol⟩, o⟩
 replace hout : out = (L.take k).flatten := hout
 replace hol : out.length ≤ k := hol
 replace o : Owns H0 H [(id, .cells 1 (out.map iI) 0)] := o
 try simp only [go_sem]
 refine ⟨fun h1 => At.mk ?_, fun h1 => At.mk ?_⟩
 ·have h1p : k < L.length := by have := of_decide h1; omega
  have w1 := wsucc (k := k) (by omega)
  have h1l := hL _ (mem_getD.mpr ⟨k, h1p, rfl⟩)
  try simp only [go_sem]
  refine ⟨h1p, ?_⟩
  refine app_list (f := iI) (r := L.getD k default) o rfl (by simp only [maxL]; omega) fun id H o => ?_
  try simp only [go_sem, w1]
  exact for_next (_, out ++ L.getD k default) (by omega) ⟨⟨by rw [hout, take_succ' L h1p]; simp, by simp only [List.length_append]; omega⟩, o⟩ rfl
 ·have h1p : k = L.length := by have := of_ndecide h1; omega
  try simp only [go_sem]
  refine fz_own o rfl fun H o => ?_
  try simp only [go_sem]
  exact pure_ret (by rw [hout, h1p, List.take_length]) o.sub
end Go.Proofs.Shf
namespace Go.Proofs.Shf
open Go.AW Go.Proofs Go.Shf
def SecG (idO : Nat) (A : List (List (List Int))) (w : Ob) : Prop := ∃ (Y : AV) (p : Ob), w = (idO, .cells 1 [Y] 0) :: p ∧ LsP iL p Y (A.map fun t => colL t 0)
def SecF (most idO : Nat) (A : List (List (List Int))) (w : Ob) : Prop := SecG idO A w ∧ A.length ≤ most
def SecE (most idO : Nat) (A : List (List (List Int))) (w : Ob) : Prop := SecG idO A w ∧ most < A.length
theorem secAdd_ok (B : Nat) (most : Nat) (hmost : most ≤ 1048576) (idO : Nat) (r : List Int) (R : List (List Int)) (hR : R.length ≤ most) {Y : AV} {p l : Ob} {H0 H : Heap} (hY : LsP iL p Y R) (o : Owns H0 H ((idO, .cells 1 [Y] 0) :: (p ++ l))) :
  CallH Tryz.prog B 178 [iL r, .ref idO 0, .ptr [.int .i64 most]] H fun v H' => ∃ idn, v = .bool (decide (R.length + 1 ≤ most)) ∧ Owns H0 H' ((idO, .cells 1 [.buf idn (R ++ [r]).length] 0) :: (idn, .cells 1 ((R ++ [r]).map iL) 0) :: l) := by
 refine c178 (by simp) fun _ => ?_
 unfold s178
 try simp only [go_sem, reduceAdd]
 refine rd_cells o (by simp) ?_
 have oY : Owns H0 H (p ++ ((idO, .cells 1 [Y] 0) :: l)) := o.perm (permC fun x => by (try dsimp only); simp only [List.append_eq, List.count_append, List.count_cons, List.count_nil, List.map_nil, List.length_nil, List.length_append, List.length_cons, List.length_set, Nat.zero_add, List.nil_append, iI, iL]; omega)
 try simp only [go_sem, reduceAdd]
 refine (LsO.mk oY hY).app r rfl (by simp only [maxL]; omega) fun idn H o => ?_
 try simp only [go_sem]
 refine stc o.swap fun H o => ?_
 simp only [wr_cons, wr_nil, List.set_cons_zero, List.set_cons_succ] at o
 try simp only [go_sem]
 refine rd_cells o (by simp) ?_
 try simp only [go_sem]
 refine ⟨H, .refl H, idn, ?_, o⟩
 simp
theorem column_new (B : Nat) (L : List (List Int)) (i : Nat) (hi : ∀ r, r ∈ L → i < r.length) : New Tryz.prog B 193 [iLL L, iI i] fun q X => OL q X (colL L i) := by
 refine ⟨fun H0 => c193p (by simp) fun ⟨hf, _⟩ => ?_⟩
 have hl := fine_mL_le hf
 simp only [maxL] at hl
 unfold s193p
 have o : Owns H0 H0 [] := .nil _
 try simp only [go_sem, reduceAdd]
 refine new_list iI o fun id H o => ?_
 try simp only [go_sem]
 refine awp_for [1, 9, 10] (G := Nat × List Int) (fun k g => [(5, some (.buf g.1 g.2.length)), (11, some (.int .i64 (k : Int)))])
  (fun k G H => G.2 = colL (L.take k) i ∧ Owns H0 H [(G.1, .cells 1 (G.2.map iI) 0)]) L.length (id, []) ⟨rfl, o⟩ rfl ?_
 clear o
 rintro k ⟨id, out⟩ H hk ⟨hout, o⟩
 replace hout : out = colL (L.take k) i := hout
 replace o : Owns H0 H [(id, .cells 1 (out.map iI) 0)] := o
 have hol : out.length ≤ k := by rw [hout, colL, List.length_map, List.length_take]; omega
 try simp only [go_sem]
 refine ⟨fun h1 => At.mk ?_, fun h1 => At.mk ?_⟩
 ·have h1p : k < L.length := of_decide h1
  have w1 := wsucc (k := k) (by omega)
  have hr := hi _ (mem_getD.mpr ⟨k, h1p, rfl⟩)
  try simp only [go_sem, reduceAdd]
  refine ⟨h1p, ?_⟩
  refine ⟨hr, ?_⟩
  refine app_own ((L.getD k default).getD i default) o rfl rfl (by simp only [maxL]; omega) fun id H o => ?_
  try simp only [go_sem, w1]
  exact for_next (_, _) h1p ⟨by rw [hout, colL, colL, take_succ' L h1p]; simp, o⟩ rfl
 ·have h1p : ¬ k < L.length := of_ndecide h1
  obtain rfl : k = L.length := by omega
  try simp only [go_sem]
  rw [List.take_length] at hout
  exact ⟨H, .refl H, _, .inr ⟨id, out.map iI, [], rfl, by simp, by rw [← hout]; exact rowsIT _⟩, o⟩
theorem foundSec_ok (B : Nat) (c : Cat) (hc : c.Is) (g : SF) (most : Nat) (hmost : most ≤ 1048576) (idO : Nat) : FoundOk2 B (constF c 1) g 278 [.ptr [.fn (.func 178) [.ref idO 0, .ptr [.int .i64 most]]]] (SecF most idO) (SecE most idO) := by
 intro p A X q w l H0 H hP hX hFs o
 obtain ⟨⟨Y, pw, rfl, hY⟩, hA⟩ := hFs
 have hrow : ∀ r, r ∈ p → 0 < r.length := fun r hr => by
  obtain ⟨i, hi, rfl⟩ := mem_getD.mp hr
  have h1 := hP.row i (by rw [← hP.len]; exact hi)
  have hl := hP.len
  have hsl := (constF_sh (n := 1) hc (by omega)).sl
  have hs : ix (constF c 1).sizes (i : Int) = 1 := constF_size (n := 1) hc.1 (x := (i : Int)) ⟨by omega, by
   have : ((constF c ((1 : Nat) : Int)).sizes.length : Int) = c.objs := hsl
   have e : (constF c ((1 : Nat) : Int)).sizes.length = p.length := hl.symm
   omega⟩
  rw [ix_nat] at hs
  omega
 refine c278p (by simp) fun _ => ?_
 unfold s278p
 try simp only [go_sem, reduceAdd]
 refine New.lentQ owL (column_new B p 0 hrow) rfl (fun i hi => ?_) fun H' hs => ⟨hs, ?_⟩
 ·obtain rfl | rfl : i = 0 ∨ i = 1 := by simp only [List.length_cons, List.length_nil] at hi; omega
  ·exact owLL.arg hX o fun x hx => List.mem_append_left _ hx
  ·exact val_arg _
 have o := o.ext hs
 have o2 : Owns H0 H' ((idO, .cells 1 [Y] 0) :: (pw ++ (q ++ l))) := o.perm (permC fun x => by (try dsimp only); simp only [List.append_eq, List.count_append, List.count_cons, List.count_nil, List.map_nil, List.length_nil, List.length_append, List.length_cons, List.length_set, Nat.zero_add, List.nil_append, iI, iL]; omega)
 refine (secAdd_ok B most hmost idO (colL p 0) _ (by simpa using hA) hY o2).mono ?_
 clear o o2
 rintro r H ⟨idn, rfl, o⟩
 try simp only [go_sem]
 have hg : SecG idO (A ++ [p]) [(idO, .cells 1 [.buf idn ((A.map fun t => colL t 0) ++ [colL p 0]).length] 0), (idn, .cells 1 (((A.map fun t => colL t 0) ++ [colL p 0]).map iL) 0)] := ⟨_, _, rfl, .inr ⟨idn, by simp, by simp⟩⟩
 refine ⟨H, .refl H, _, _, rfl, fun hb => ⟨hg, ?_⟩, fun hb => ⟨hg, ?_⟩, o.perm (permC fun x => by (try dsimp only); simp only [List.append_eq, List.count_append, List.count_cons, List.count_nil, List.map_nil, List.length_nil, List.length_append, List.length_cons, List.length_set, Nat.zero_add, List.nil_append, iI, iL]; omega)⟩
 ·have := of_decide hb; simpa using this
 ·have := of_decide_eq_false hb; simp only [List.length_map, List.length_append, List.length_singleton] at this ⊢; omega
def Sec2Q (f : SF) (most : Nat) (r : AV) : Prop := ∃ (L : List (List (List Int))) (b : Bool), r = .tup [iLL (L.map fun t => colL t 0), .bool b] ∧ (b = true → L = allMp (constF f.shape 1) f (blankT (constF f.shape 1)) ∧ L.length ≤ most) ∧ (b = false → most < (allMp (constF f.shape 1) f (blankT (constF f.shape 1))).length)
theorem sections_ok (B : Nat) {f : SF} (hf : f.Is) (most : Nat) (hmost : most ≤ 1048576) (idO : Nat) (w : Ob) (H0 H : Heap) (hFs : SecF most idO [] w) (o : Owns H0 H (w ++ [])) :
  CallH Tryz.prog B 177 [.ptr f.cells, .fn (.func 178) [.ref idO 0, .ptr [.int .i64 most]]] H fun r H' => ∃ (b : Bool) (w' : Ob) (M : List (List (List Int))), r = .bool b ∧ Owns H0 H' (w' ++ []) ∧ M <+: allMp (constF f.shape 1) f (blankT (constF f.shape 1)) ∧
   (b = true → SecF most idO M w' ∧ M = allMp (constF f.shape 1) f (blankT (constF f.shape 1))) ∧ (b = false → SecE most idO M w') := by
 refine c177p (by simp) fun _ => ?_
 unfold s177p
 have hfc : (AV.fn (.func 178) [.ref idO 0, .ptr [.int .i64 most]]).cells = [.fn (.func 178) [.ref idO 0, .ptr [.int .i64 most]]] := rfl
 try simp only [go_sem, reduceAdd, reduceLeDiff, hfc]
 refine ⟨rfl, (constSets_ok B f.shape hf.1.is.1 1 (by omega)).go fun _ => ?_⟩
 try simp only [go_sem, reduceAdd]
 refine ⟨by simp [maxL], newRef_own o fun id5 H o => ?_⟩
 try simp only [go_sem]
 refine stc o fun H o => ?_
 simp only [wr_cons, wr_nil, List.set_cons_zero, List.set_cons_succ] at o
 try simp only [go_sem]
 refine wk_ref 5 o rfl fun H o => wkW_done ?_
 try simp only [go_sem]
 refine (setMaps2_ok B (f := constF f.shape ((1 : Nat) : Int)) (constF_is hf.1.is (by omega)) hf rfl (foundSec_ok B f.shape hf.1.is f most hmost idO) [] w [] H0 H hFs o).mono ?_
 clear o hFs
 rintro r H ⟨b, w', M, rfl, o, hpre, hb1, hb2⟩
 rw [List.nil_append] at hb1 hb2
 try simp only [go_sem]
 exact ⟨H, .refl H, b, w', M, rfl, o, hpre, hb1, hb2⟩
theorem globalSecs_ok (B : Nat) {f : SF} (hf : f.Is) (most : Nat) (hmost : most ≤ 1048576) : Rets B 81 [.ptr f.cells, .int .i64 most] (Sec2Q f most) := by
 intro H0
 refine c81 (by simp) fun _ => ?_
 unfold s81
 have o : Owns H0 H0 [] := .nil _
 try simp only [go_sem, reduceAdd]
 refine newBuf_own o fun idE H o => ?_
 try simp only [go_sem, reduceAdd]
 refine newRef_own o fun idO H o => ?_
 try simp only [go_sem]
 refine stc o fun H o => ?_
 simp only [wr_cons, wr_nil, List.set_cons_zero, List.set_cons_succ] at o
 try simp only [go_sem]
 have hFs : SecF most idO [] [(idO, .cells 1 [.buf idE 0] 0), (idE, .cells 1 [] 0)] := ⟨⟨.buf idE 0, [(idE, .cells 1 [] 0)], rfl, .inr ⟨idE, rfl, rfl⟩⟩, Nat.zero_le _⟩
 refine (sections_ok B hf most hmost idO _ H0 H hFs o).mono ?_
 clear o hFs
 rintro r H ⟨b, w, L, rfl, o, hpre, hb1, hb2⟩
 have hq : (b = true → L = allMp (constF f.shape 1) f (blankT (constF f.shape 1)) ∧ L.length ≤ most) ∧ (b = false → most < (allMp (constF f.shape 1) f (blankT (constF f.shape 1))).length) := ⟨fun h => ⟨(hb1 h).2, (hb1 h).1.2⟩, fun h => Nat.lt_of_lt_of_le (hb2 h).2 hpre.length_le⟩
 obtain ⟨Y, p, rfl, hY⟩ : SecG idO L w := by
  cases b
  ·exact (hb2 rfl).1
  ·exact (hb1 rfl).1.1
 clear hb1 hb2
 try simp only [go_sem]
 refine rd_cells (show Owns H0 H ((idO, .cells 1 [Y] 0) :: (p ++ [])) from o) (by simp) ?_
 try simp only [go_sem]
 have ob := o.sub
 rcases hY with ⟨rfl, rfl, hn⟩ | ⟨idn, rfl, rfl⟩
 ·try simp only [go_sem]
  exact rets_ret ⟨L, b, by rw [hn]; rfl, hq⟩ ob
 ·refine fz_own (f := iL) (show Owns H0 H ((idn, .cells 1 ((L.map fun t => colL t 0).map iL) 0) :: [(idO, .cells 1 [.buf idn (L.map fun t => colL t 0).length] 0)]) from o.swap) rfl fun H o => ?_
  try simp only [go_sem]
  exact rets_ret ⟨L, b, rfl, hq⟩ o.sub
noncomputable def secL (f : SF) : List (List (List Int)) := allMp (constF f.shape 1) f (blankT (constF f.shape 1))
def SecsQ (f : SF) (r : AV) : Prop := ((secL f).length ≤ 200 ∧ r = .tup [iLL ((secL f).map fun t => colL t 0), iI 0]) ∨ (200 < (secL f).length ∧ r = .tup [iLL [], iI 3])
theorem implSections_ok (B : Nat) {f : SF} (hf : f.Is) : Rets B 19 [.agg f.cells] (SecsQ f) := by
 intro H0
 refine c19 (by simp) fun _ => ?_
 unfold s19
 try simp only [go_sem, reduceAdd]
 refine (isSetFunctor_ok B f).go fun _ => ?_
 rw [dec_t hf]
 try simp only [go_sem]
 refine (globalSecs_ok B hf 200 (by omega)).go fun r _ ⟨L, b, e, hb1, hb2⟩ => ?_
 subst e
 try simp only [go_sem, reduceAdd, reduceLT]
 cases b
 ·try simp only [go_sem]
  exact rets_ret (.inr ⟨hb2 rfl, rfl⟩) (.refl _)
 ·obtain ⟨e1, e2⟩ := hb1 rfl
  subst e1
  try simp only [go_sem]
  exact rets_ret (.inl ⟨e2, rfl⟩) (.refl _)
theorem refSections_ok (B : Nat) {f : SF} (hf : f.Is) : Rets B 20 [.agg f.cells] (SecsQ f) := by
 intro H0
 refine c20 (by simp) fun _ => ?_
 have hc := hf.1.is
 have hIs := constF_is (n := 1) hc (by omega)
 have hrows : ∀ t, t ∈ secL f → ∀ r, r ∈ t → r.length = 1 := fun t ht => map_rows1 hc ((allMp_is hIs hf rfl (blank_pt hIs.1)).mem t |>.mp ht).1
 unfold s20
 have o : Owns H0 H0 [] := .nil _
 try simp only [go_sem, reduceAdd]
 refine (l19Is_ok B f).go fun _ => ?_
 rw [dec_t hf]
 try simp only [go_sem, reduceAdd, reduceLeDiff]
 refine ⟨_, (l19Constant_ok B f.shape hc.1 1 (by omega)).run, ?_⟩
 try simp only [go_sem]
 refine ⟨_, (gmaps_ok B (f := constF f.shape 1) hIs hf rfl 201 (by omega) (by omega)).run, ?_⟩
 rw [show allMp (constF f.shape 1) f (blankT (constF f.shape 1)) = secL f from rfl]
 try simp only [go_sem]
 refine ⟨fun h1 => At.mk ?_, fun h1 => At.mk ?_⟩
 ·have h1p := of_decide h1
  try simp only [go_sem]
  exact rets_ret (.inr ⟨by rw [List.length_take] at h1p; omega, rfl⟩) (.refl _)
 ·have h1p : (secL f).length ≤ 200 := by have := of_ndecide h1; rw [List.length_take] at this; omega
  rw [List.take_of_length_le (by omega)]
  try simp only [go_sem]
  refine new_list iL o fun id H o => ?_
  try simp only [go_sem]
  refine awp_for [4] (G := Nat × List (List Int)) (fun k g => [(5, some (.buf g.1 g.2.length)), (6, some (.int .i64 (k : Int)))])
   (fun k G H => G.2 = ((secL f).take k).map (fun t => colL t 0) ∧ Owns H0 H [(G.1, .cells 1 (G.2.map iL) 0)]) (secL f).length (id, []) ⟨rfl, o⟩ rfl ?_
  clear o
  rintro k ⟨id, out⟩ H hk ⟨hout, o⟩
  replace hout : out = ((secL f).take k).map (fun t => colL t 0) := hout
  replace o : Owns H0 H [(id, .cells 1 (out.map iL) 0)] := o
  have hol : out.length ≤ k := by rw [hout, List.length_map, List.length_take]; omega
  try simp only [go_sem]
  refine ⟨fun h2 => At.mk ?_, fun h2 => At.mk ?_⟩
  ·have h2p : k < (secL f).length := by have := of_decide h2; omega
   have w1 := wsucc (k := k) (by omega)
   have hr := hrows _ (mem_getD.mpr ⟨k, h2p, rfl⟩)
   try simp only [go_sem]
   refine ⟨h2p, ?_⟩
   refine (flat_ok B ((secL f).getD k default) fun l hl => by have := hr l hl; omega).go fun _ => ?_
   rw [flatten_ones hr]
   try simp only [go_sem, reduceAdd]
   refine app_own (f := iL) (((secL f).getD k default).map fun r => r.getD 0 default) o rfl rfl (by simp only [maxL]; omega) fun id H o => ?_
   try simp only [go_sem, w1]
   exact for_next (_, _) h2p ⟨by rw [hout, take_succ' _ h2p, List.map_append]; rfl, o⟩ rfl
  ·have h2p : k = (secL f).length := by have := of_ndecide h2; omega
   try simp only [go_sem]
   refine fz_own o rfl fun H o => ?_
   try simp only [go_sem]
   exact rets_ret (.inl ⟨h1p, by rw [hout, h2p, List.take_length]⟩) o.sub
end Go.Proofs.Shf
namespace Go.Shf
open Go.AW
theorem labs_iff {n : Nat} {ps : List (List Int)} (hp : ∀ q, q ∈ ps → (0 ≤ ix q 0 ∧ (ix q 0).toNat < n) ∧ 0 ≤ ix q 1 ∧ (ix q 1).toNat < n) {u v : Nat} (hu : u < n) (hv : v < n) :
  (labs n ps).getD u default = (labs n ps).getD v default ↔ EqN (prN ps) (u : Int) (v : Int) := by
 constructor
 ·intro e
  have h := labs_min n ps hp ps.length (Nat.le_refl _) u v hu hv
  rw [List.take_length] at h
  exact h e
 ·intro e
  have hr : ∀ q, q ∈ [] ++ ps → (ix q 0).toNat < ((List.range n).map Int.ofNat).length ∧ (ix q 1).toNat < ((List.range n).map Int.ofNat).length := fun q hq => by
   have := hp q (by simpa using hq)
   simp only [List.length_map, List.length_range]
   exact ⟨this.1.2, this.2.2⟩
  have hg : Glued ps (labs n ps) := by
   have := (labs_fold ps [] ((List.range n).map Int.ofNat) hr (fun q hq => by simp at hq)).2
   simpa [labs] using this
  have key : ∀ x y, EqN (prN ps) x y → ix (labs n ps) x = ix (labs n ps) y := by
   intro x y e
   induction e with
   | gen x y h =>
    obtain ⟨q, hq, e⟩ := List.mem_map.mp h
    injection e with e1 e2
    rw [← e1, ← e2]; exact hg q hq
   | refl x => rfl
   | symm _ ih => exact ih.symm
   | trans _ _ ih1 ih2 => exact ih1.trans ih2
  have := key _ _ e
  rwa [ix_nat, ix_nat] at this
theorem class_join {n : Nat} {ps : List (List Int)} (hp : ∀ q, q ∈ ps → (0 ≤ ix q 0 ∧ (ix q 0).toNat < n) ∧ 0 ≤ ix q 1 ∧ (ix q 1).toNat < n) {R : List Int} (hR : R.length = n) {N : List (Int × Int)} (hN : ∀ q, q ∈ N ↔ q ∈ prN ps)
  (h : ∀ u v : Nat, u < n → v < n → (R.getD u default = R.getD v default ↔ EqN N u v)) : classL R = joinL n ps := by
 refine classL_congr (by rw [hR, labs_len]) fun i j hi hj => ?_
 rw [h i j (by omega) (by omega), labs_iff hp (by omega) (by omega)]
 exact ⟨fun e => e.mono fun p hp => (hN p).mp hp, fun e => e.mono fun p hp => (hN p).mpr hp⟩
theorem joinL_same {n : Nat} {ps qs : List (List Int)} (hp : ∀ q, q ∈ ps → (0 ≤ ix q 0 ∧ (ix q 0).toNat < n) ∧ 0 ≤ ix q 1 ∧ (ix q 1).toNat < n) (hq : ∀ q, q ∈ qs → (0 ≤ ix q 0 ∧ (ix q 0).toNat < n) ∧ 0 ≤ ix q 1 ∧ (ix q 1).toNat < n)
  (h : ∀ q, q ∈ prN qs ↔ q ∈ prN ps) : joinL n qs = joinL n ps :=
 class_join hp (labs_len n qs) h fun u v hu hv => labs_iff hq hu hv
section
variable {f : SF}
def offN (f : SF) (x : Nat) : Nat := (pairsN f x).length
theorem offN_succ (x : Nat) : offN f (x + 1) = offN f x + (f.sizes.getD x default).toNat := by simp [offN, pairsN, pairsX]
theorem offN_le {x y : Nat} (h : x ≤ y) : offN f x ≤ offN f y := by
 induction y with
 | zero =>
  obtain rfl : x = 0 := by omega
  exact Nat.le_refl _
 | succ y ih =>
  by_cases e : x = y + 1
  ·rw [e]; exact Nat.le_refl _
  ·rw [offN_succ]; have := ih (by omega); omega
theorem off_sum (hz : ∀ y, y ∈ f.sizes → 0 ≤ y ∧ y < 17) : ∀ x, x ≤ f.sizes.length → (f.sizes.take x).sum = (offN f x : Int)
 | 0, _ => by simp [offN, pairsN]
 | x + 1, h => by
  have h0 := (hz _ (mem_getD.mpr ⟨x, by omega, rfl⟩)).1
  have e : (f.sizes.take (x + 1)).sum = (f.sizes.take x).sum + f.sizes.getD x default := by rw [take_succ' _ (by omega)]; simp
  rw [e, off_sum hz x (by omega), offN_succ]; omega
theorem pairs_at {n x e : Nat} (hx : x < n) (he : e < (f.sizes.getD x default).toNat) : offN f x + e < (pairsN f n).length ∧ (pairsN f n).getD (offN f x + e) default = pairsE x e := by
 induction n with
 | zero => omega
 | succ n ih =>
  have hl : (pairsN f (n + 1)).length = offN f (n + 1) := rfl
  rw [offN_succ] at hl
  by_cases h : x = n
  ·subst h
   refine ⟨by omega, ?_⟩
   rw [pairsN, List.getD_eq_getElem?_getD, List.getElem?_append_right (by simp [offN]), show offN f x + e - (pairsN f x).length = e by simp [offN]]
   rw [pairsX, List.getElem?_map, List.getElem?_range he]; rfl
  ·obtain ⟨h1, h2⟩ := ih (by omega)
   refine ⟨by have : (pairsN f n).length = offN f n := rfl; omega, ?_⟩
   rw [pairsN, List.getD_eq_getElem?_getD, List.getElem?_append_left h1, ← List.getD_eq_getElem?_getD, h2]
theorem pairs_ex {n i : Nat} (hi : i < (pairsN f n).length) : ∃ x e, x < n ∧ e < (f.sizes.getD x default).toNat ∧ i = offN f x + e := by
 induction n with
 | zero => simp [pairsN] at hi
 | succ n ih =>
  have hl : (pairsN f (n + 1)).length = offN f (n + 1) := rfl
  rw [offN_succ] at hl
  by_cases h : i < (pairsN f n).length
  ·obtain ⟨x, e, h1, h2, h3⟩ := ih h
   exact ⟨x, e, by omega, h2, h3⟩
  ·have : (pairsN f n).length = offN f n := rfl
   exact ⟨n, i - offN f n, by omega, by omega, by omega⟩
def plI (f : SF) (x e : Int) : Int := (offN f x.toNat : Int) + e
theorem plI_in (h : f.Shape) {x e : Int} (hx : 0 ≤ x ∧ x < f.shape.objs) (he : 0 ≤ e ∧ e < ix f.sizes x) : 0 ≤ plI f x e ∧ (plI f x e).toNat < (pairsF f).length := by
 have hX := h.inX hx
 have e0 : ix f.sizes x = f.sizes.getD x.toNat default := rfl
 have := (pairs_at (f := f) (n := f.sizes.length) (x := x.toNat) (e := e.toNat) hX.2 (by omega)).1
 have hF : (pairsF f).length = (pairsN f f.sizes.length).length := rfl
 simp only [plI]; omega
theorem plI_at (h : f.Shape) {x e : Int} (hx : 0 ≤ x ∧ x < f.shape.objs) (he : 0 ≤ e ∧ e < ix f.sizes x) : ix (pairsF f) (plI f x e) = [x, e] := by
 have hX := h.inX hx
 have e0 : ix f.sizes x = f.sizes.getD x.toNat default := rfl
 have h1 := (pairs_at (f := f) (n := f.sizes.length) (x := x.toNat) (e := e.toNat) hX.2 (by omega)).2
 have h2 : (plI f x e).toNat = offN f x.toNat + e.toNat := by simp only [plI]; omega
 rw [ix, h2, pairsF, h1, pairsE, Int.toNat_of_nonneg hx.1, Int.toNat_of_nonneg he.1]
theorem plI_ex (h : f.Shape) {i : Int} (hi : 0 ≤ i ∧ i.toNat < (pairsF f).length) : ∃ x e : Int, (0 ≤ x ∧ x < f.shape.objs) ∧ (0 ≤ e ∧ e < ix f.sizes x) ∧ i = plI f x e := by
 obtain ⟨x, e, h1, h2, h3⟩ := pairs_ex (f := f) (n := f.sizes.length) hi.2
 have hs := h.sl
 have hz := (h.sz _ (mem_getD.mpr ⟨x, h1, rfl⟩)).1
 refine ⟨x, e, by omega, by rw [ix_nat]; omega, ?_⟩
 simp only [plI, Int.toNat_natCast]; omega
def psE (f : SF) (a e : Nat) : List Int := [plI f (f.shape.frm.getD a default) e, plI f (f.shape.to.getD a default) ((f.acts.getD a default).getD e default)]
def psA (f : SF) (a n : Nat) : List (List Int) := (List.range n).map (psE f a)
theorem psA_succ (a n : Nat) : psA f a (n + 1) = psA f a n ++ [psE f a n] := by simp [psA, List.range_succ]
def psN (f : SF) : Nat → List (List Int)
 | 0 => []
 | a + 1 => psN f a ++ psA f a (f.acts.getD a default).length
def psF (f : SF) : List (List Int) := psN f f.acts.length
theorem mem_psN {q : List Int} : ∀ {n : Nat}, q ∈ psN f n ↔ ∃ a e : Nat, a < n ∧ e < (f.acts.getD a default).length ∧ q = psE f a e
 | 0 => by simp [psN]
 | n + 1 => by
  simp only [psN, List.mem_append, mem_psN (n := n), psA, List.mem_map, List.mem_range]
  constructor
  ·rintro (⟨x, e, h1, h2, h3⟩ | ⟨e, h2, h3⟩)
   ·exact ⟨x, e, by omega, h2, h3⟩
   ·exact ⟨n, e, by omega, h2, h3.symm⟩
  ·rintro ⟨x, e, h1, h2, h3⟩
   by_cases hx : x = n
   ·subst hx; exact .inr ⟨e, h2, h3.symm⟩
   ·exact .inl ⟨x, e, by omega, h2, h3⟩
theorem psE_in (h : f.Shape) {a e : Nat} (ha : a < f.acts.length) (he : e < (f.acts.getD a default).length) :
  (0 ≤ f.shape.frm.getD a default ∧ f.shape.frm.getD a default < f.shape.objs) ∧ (0 ≤ (e : Int) ∧ (e : Int) < ix f.sizes (f.shape.frm.getD a default)) ∧
  (0 ≤ f.shape.to.getD a default ∧ f.shape.to.getD a default < f.shape.objs) ∧ (0 ≤ (f.acts.getD a default).getD e default ∧ (f.acts.getD a default).getD e default < ix f.sizes (f.shape.to.getD a default)) := by
 have hal := h.al
 have h1 := h.is.1.frmObj (f := (a : Int)) (by omega)
 have h2 := h.is.1.toObj (f := (a : Int)) (by omega)
 rw [ix_nat] at h1 h2
 have h3 := h.act a ha
 exact ⟨h1, by omega, h2, h3.2 _ (mem_getD.mpr ⟨e, he, rfl⟩)⟩
theorem psF_in (h : f.Shape) : ∀ q, q ∈ psF f → (0 ≤ ix q 0 ∧ (ix q 0).toNat < (pairsF f).length) ∧ 0 ≤ ix q 1 ∧ (ix q 1).toNat < (pairsF f).length := by
 intro q hq
 obtain ⟨a, e, ha, he, rfl⟩ := mem_psN.mp hq
 obtain ⟨h1, h2, h3, h4⟩ := psE_in h ha he
 exact ⟨plI_in h h1 h2, plI_in h h3 h4⟩
def compN (f : SF) : List Int := joinL (pairsF f).length (psF f)
theorem compN_len : (compN f).length = (pairsF f).length := joinL_len _ _
def compR (f : SF) (x : Nat) : List Int := ((compN f).take (offN f x + (f.sizes.getD x default).toNat)).drop (offN f x)
def compF (f : SF) : List (List Int) := (List.range f.sizes.length).map (compR f)
theorem compF_at (h : f.Shape) {x e : Int} (hx : 0 ≤ x ∧ x < f.shape.objs) (he : 0 ≤ e ∧ e < ix f.sizes x) : (x.toNat < (compF f).length ∧ e.toNat < (ix (compF f) x).length) ∧ ix (ix (compF f) x) e = ix (compN f) (plI f x e) := by
 have hX := h.inX hx
 have e0 : ix f.sizes x = f.sizes.getD x.toNat default := rfl
 have h1 := (pairs_at (f := f) (n := f.sizes.length) (x := x.toNat) (e := e.toNat) hX.2 (by omega)).1
 have hle : offN f x.toNat + (f.sizes.getD x.toNat default).toNat ≤ (pairsF f).length := by
  rw [← offN_succ]; exact offN_le (by omega)
 have er : ix (compF f) x = compR f x.toNat := getD_map_range _ _ hX.2
 have h2 : (plI f x e).toNat = offN f x.toNat + e.toNat := by simp only [plI]; omega
 rw [er]
 refine ⟨⟨by simpa [compF] using hX.2, ?_⟩, ?_⟩
 ·rw [compR, List.length_drop, List.length_take, compN_len]; omega
 ·rw [ix, compR, List.getD_eq_getElem?_getD, List.getElem?_drop, List.getElem?_take_of_lt (by omega), ← List.getD_eq_getElem?_getD, ix, h2]
end
end Go.Shf
namespace Go.Shf
open Go.AW
theorem hom_homC (c : Cat) (x y : Int) : hom c x y = homC c x y := by rw [← homK_full]; rfl
section
variable {f : SF}
def arrP (f : SF) (i j : Nat) (a : Int) : Bool := decide (ix (ix f.acts a) (((pairsF f).getD i default).getD 1 default) = ((pairsF f).getD j default).getD 1 default)
def arrH (f : SF) (i j : Nat) : List Int := homC f.shape (((pairsF f).getD i default).getD 0 default) (((pairsF f).getD j default).getD 0 default)
def arrE (i j : Nat) (a : Int) : List Int := [(i : Int), (j : Int), a]
def arrK (f : SF) (i j k : Nat) : List (List Int) := (((arrH f i j).take k).filter (arrP f i j)).map (arrE i j)
def arrJ (f : SF) (i : Nat) : Nat → List (List Int)
 | 0 => []
 | j + 1 => arrJ f i j ++ arrK f i j (arrH f i j).length
def arrI (f : SF) : Nat → List (List Int)
 | 0 => []
 | i + 1 => arrI f i ++ arrJ f i (pairsF f).length
def arrF (f : SF) : List (List Int) := arrI f (pairsF f).length
theorem arrK_t {i j k : Nat} (hk : k < (arrH f i j).length) (h : arrP f i j ((arrH f i j).getD k default) = true) : arrK f i j (k + 1) = arrK f i j k ++ [arrE i j ((arrH f i j).getD k default)] := by
 rw [arrK, take_one _ hk, List.filter_append, List.filter_cons, if_pos h, List.map_append]; rfl
theorem arrK_f {i j k : Nat} (hk : k < (arrH f i j).length) (h : arrP f i j ((arrH f i j).getD k default) = false) : arrK f i j (k + 1) = arrK f i j k := by
 rw [arrK, take_one _ hk, List.filter_append, List.filter_cons, if_neg (by rw [h]; simp), List.map_append]; simp [arrK]
theorem arrK_len (i j k : Nat) : (arrK f i j k).length ≤ k := by
 rw [arrK, List.length_map]
 refine Nat.le_trans (List.length_filter_le _ _) ?_
 rw [List.length_take]; omega
theorem mem_arrK {i j : Nat} {s : List Int} : s ∈ arrK f i j (arrH f i j).length ↔ ∃ a, a ∈ arrH f i j ∧ arrP f i j a = true ∧ s = arrE i j a := by
 rw [arrK, List.take_length]
 simp only [List.mem_map, List.mem_filter]
 exact ⟨fun ⟨a, ⟨h1, h2⟩, h3⟩ => ⟨a, h1, h2, h3.symm⟩, fun ⟨a, h1, h2, h3⟩ => ⟨a, ⟨h1, h2⟩, h3.symm⟩⟩
theorem mem_arrJ {i : Nat} {s : List Int} : ∀ {n : Nat}, s ∈ arrJ f i n ↔ ∃ j a, j < n ∧ a ∈ arrH f i j ∧ arrP f i j a = true ∧ s = arrE i j a
 | 0 => by simp [arrJ]
 | n + 1 => by
  rw [arrJ, List.mem_append, mem_arrJ (n := n), mem_arrK]
  constructor
  ·rintro (⟨j, a, h1, h2⟩ | ⟨a, h2⟩)
   ·exact ⟨j, a, by omega, h2⟩
   ·exact ⟨n, a, by omega, h2⟩
  ·rintro ⟨j, a, h1, h2⟩
   by_cases e : j = n
   ·subst e; exact .inr ⟨a, h2⟩
   ·exact .inl ⟨j, a, by omega, h2⟩
theorem mem_arrI {s : List Int} : ∀ {n : Nat}, s ∈ arrI f n ↔ ∃ i j a, i < n ∧ j < (pairsF f).length ∧ a ∈ arrH f i j ∧ arrP f i j a = true ∧ s = arrE i j a
 | 0 => by simp [arrI]
 | n + 1 => by
  rw [arrI, List.mem_append, mem_arrI (n := n), mem_arrJ]
  constructor
  ·rintro (⟨i, j, a, h1, h2⟩ | ⟨j, a, h2⟩)
   ·exact ⟨i, j, a, by omega, h2⟩
   ·exact ⟨n, j, a, by omega, h2⟩
  ·rintro ⟨i, j, a, h1, h2⟩
   by_cases e : i = n
   ·subst e; exact .inr ⟨j, a, h2⟩
   ·exact .inl ⟨i, j, a, by omega, h2⟩
theorem arrJ_len (i : Nat) : ∀ n, (arrJ f i n).length ≤ n * f.shape.frm.length
 | 0 => by simp [arrJ]
 | n + 1 => by
  rw [arrJ, List.length_append, Nat.succ_mul]
  have h1 := arrJ_len i n
  have h2 := arrK_len (f := f) i n (arrH f i n).length
  have h3 : (arrH f i n).length ≤ f.shape.frm.length := homC_len _ _
  omega
theorem arrI_len : ∀ n, (arrI f n).length ≤ n * ((pairsF f).length * f.shape.frm.length)
 | 0 => by simp [arrI]
 | n + 1 => by
  rw [arrI, List.length_append, Nat.succ_mul]
  have h1 := arrI_len n
  have h2 := arrJ_len (f := f) n (pairsF f).length
  omega
theorem homC_nodup (c : Cat) (x y : Int) : (homC c x y).Nodup := by rw [← hom_homC]; exact hom_nodup
theorem arrF_nodup : (arrF f).Nodup := by
 have hK : ∀ i j, (arrK f i j (arrH f i j).length).Nodup := fun i j => by
  rw [arrK, List.take_length]
  refine List.Pairwise.map _ (fun a b h => ?_) ((homC_nodup _ _ _).filter _)
  intro e
  simp only [arrE, List.cons.injEq] at e
  exact h e.2.2.1
 have hJ : ∀ i n, (arrJ f i n).Nodup := fun i n => by
  induction n with
  | zero => exact List.nodup_nil
  | succ n ih =>
   rw [arrJ, List.nodup_append]
   refine ⟨ih, hK i n, fun s hs t ht e => ?_⟩
   subst e
   obtain ⟨j, a, h1, _, _, e1⟩ := mem_arrJ.mp hs
   obtain ⟨b, _, _, e2⟩ := mem_arrK.mp ht
   rw [e1] at e2
   simp only [arrE, List.cons.injEq] at e2
   omega
 have hI : ∀ n, (arrI f n).Nodup := fun n => by
  induction n with
  | zero => exact List.nodup_nil
  | succ n ih =>
   rw [arrI, List.nodup_append]
   refine ⟨ih, hJ n _, fun s hs t ht e => ?_⟩
   subst e
   obtain ⟨i, j, a, h1, _, _, _, e1⟩ := mem_arrI.mp hs
   obtain ⟨j2, b, _, _, _, e2⟩ := mem_arrJ.mp ht
   rw [e1] at e2
   simp only [arrE, List.cons.injEq] at e2
   omega
 exact hI _
structure ArrOk (f : SF) (s : List Int) (x d y e a : Int) : Prop where
 hx : 0 ≤ x ∧ x < f.shape.objs
 hd : 0 ≤ d ∧ d < ix f.sizes x
 hy : 0 ≤ y ∧ y < f.shape.objs
 he : 0 ≤ e ∧ e < ix f.sizes y
 ha : 0 ≤ a ∧ a.toNat < f.shape.frm.length
 fr : ix f.shape.frm a = x
 to : ix f.shape.to a = y
 act : ix (ix f.acts a) d = e
 eq : s = [plI f x d, plI f y e, a]
theorem arrOk_ex (h : f.Shape) {s : List Int} (hs : s ∈ arrF f) : ∃ x d y e a, ArrOk f s x d y e a := by
 obtain ⟨i, j, a, hi, hj, ha, hp, rfl⟩ := mem_arrI.mp hs
 obtain ⟨x, d, hx, hd, ei⟩ := plI_ex h (i := (i : Int)) (by omega)
 obtain ⟨y, e, hy, he, ej⟩ := plI_ex h (i := (j : Int)) (by omega)
 have p1 := plI_at h hx hd
 have p2 := plI_at h hy he
 rw [← ei, ix_nat] at p1
 rw [← ej, ix_nat] at p2
 rw [arrH, ← hom_homC, mem_hom, p1, p2] at ha
 rw [arrP, decide_eq_true_eq, p1, p2] at hp
 exact ⟨x, d, y, e, a, hx, hd, hy, he, ha.1, ha.2.1, ha.2.2, hp, by rw [arrE, ei, ej]⟩
theorem ArrOk.mem (h : f.Shape) {s : List Int} {x d y e a : Int} (k : ArrOk f s x d y e a) : s ∈ arrF f := by
 have i1 := plI_in h k.hx k.hd
 have i2 := plI_in h k.hy k.he
 have p1 := plI_at h k.hx k.hd
 have p2 := plI_at h k.hy k.he
 obtain ⟨i, ei⟩ : ∃ i : Nat, plI f x d = i := ⟨_, (Int.toNat_of_nonneg i1.1).symm⟩
 obtain ⟨j, ej⟩ : ∃ j : Nat, plI f y e = j := ⟨_, (Int.toNat_of_nonneg i2.1).symm⟩
 rw [ei, ix_nat] at p1
 rw [ej, ix_nat] at p2
 refine mem_arrI.mpr ⟨i, j, a, by omega, by omega, ?_, ?_, by rw [k.eq, arrE, ei, ej]⟩
 ·rw [arrH, ← hom_homC, mem_hom, p1, p2]
  exact ⟨k.ha, k.fr, k.to⟩
 ·rw [arrP, decide_eq_true_eq, p1, p2]; exact k.act
theorem ArrOk.then (h : f.Is) {s t : List Int} {x d y e a y' e' z g b : Int} (k : ArrOk f s x d y e a) (l : ArrOk f t y' e' z g b) (hm : plI f y e = plI f y' e') : (y = y' ∧ e = e') ∧ ArrOk f [plI f x d, plI f z g, ix (ix f.shape.comp a) b] x d z g (ix (ix f.shape.comp a) b) := by
 have p1 := plI_at h.1 k.hy k.he
 have p2 := plI_at h.1 l.hx l.hd
 rw [hm, p2] at p1
 simp only [List.cons.injEq, and_true] at p1
 obtain ⟨rfl, rfl⟩ := p1
 have hc := h.1.is.1.comp k.ha l.ha (by rw [k.to, l.fr])
 refine ⟨⟨rfl, rfl⟩, k.hx, k.hd, l.hy, l.he, hc.1, by rw [hc.2.1, k.fr], by rw [hc.2.2, l.to], ?_, rfl⟩
 have := h.compL a b k.ha l.ha (by rw [k.to, l.fr]) d (h.1.inAct k.ha (by rw [k.fr]; exact k.hd))
 rw [this, k.act, l.act]
theorem ArrOk.one (h : f.Is) {x d : Int} (hx : 0 ≤ x ∧ x < f.shape.objs) (hd : 0 ≤ d ∧ d < ix f.sizes x) : ArrOk f [plI f x d, plI f x d, ix f.shape.idn x] x d x d (ix f.shape.idn x) := by
 have hi := h.1.is.1.idArr hx
 exact ⟨hx, hd, hx, hd, hi.1, hi.2.1, hi.2.2, h.idAct hx hd, rfl⟩
def catE (f : SF) : Cat where
 objs := (pairsF f).length
 frm := (arrF f).map fun s => s.getD 0 default
 to := (arrF f).map fun s => s.getD 1 default
 idn := (List.range (pairsF f).length).map fun i : Nat => indexOf (arrF f) [(i : Int), (i : Int), ix f.shape.idn (((pairsF f).getD i default).getD 0 default)]
 comp := (List.range (arrF f).length).map fun a => (List.range (arrF f).length).map fun b =>
  if ((arrF f).getD a default).getD 1 default = ((arrF f).getD b default).getD 0 default then
   indexOf (arrF f) [((arrF f).getD a default).getD 0 default, ((arrF f).getD b default).getD 1 default, ix (ix f.shape.comp (((arrF f).getD a default).getD 2 default)) (((arrF f).getD b default).getD 2 default)] else -1
theorem catE_comp {a b : Int} (ha : 0 ≤ a ∧ a.toNat < (arrF f).length) (hb : 0 ≤ b ∧ b.toNat < (arrF f).length) : ix (ix (catE f).comp a) b =
  if (ix (arrF f) a).getD 1 default = (ix (arrF f) b).getD 0 default then
   indexOf (arrF f) [(ix (arrF f) a).getD 0 default, (ix (arrF f) b).getD 1 default, ix (ix f.shape.comp ((ix (arrF f) a).getD 2 default)) ((ix (arrF f) b).getD 2 default)] else -1 := by
 have e1 : ix (catE f).comp a = (List.range (arrF f).length).map fun b =>
  if ((arrF f).getD a.toNat default).getD 1 default = ((arrF f).getD b default).getD 0 default then
   indexOf (arrF f) [((arrF f).getD a.toNat default).getD 0 default, ((arrF f).getD b default).getD 1 default, ix (ix f.shape.comp (((arrF f).getD a.toNat default).getD 2 default)) (((arrF f).getD b default).getD 2 default)] else -1 := getD_map_range _ _ ha.2
 rw [e1]
 exact getD_map_range _ _ hb.2
theorem catE_frm {a : Int} (ha : 0 ≤ a ∧ a.toNat < (arrF f).length) : ix (catE f).frm a = (ix (arrF f) a).getD 0 default := map_getD _ ha.2
theorem catE_to {a : Int} (ha : 0 ≤ a ∧ a.toNat < (arrF f).length) : ix (catE f).to a = (ix (arrF f) a).getD 1 default := map_getD _ ha.2
structure AtE (f : SF) (k x d y e a : Int) : Prop where
 hk : 0 ≤ k ∧ k.toNat < (arrF f).length
 ok : ArrOk f (ix (arrF f) k) x d y e a
theorem AtE.ex (h : f.Shape) {k : Int} (hk : 0 ≤ k ∧ k.toNat < (arrF f).length) : ∃ x d y e a, AtE f k x d y e a := by
 obtain ⟨x, d, y, e, a, h1⟩ := arrOk_ex h (ix_mem (l := arrF f) hk.2)
 exact ⟨x, d, y, e, a, hk, h1⟩
theorem AtE.frm {k x d y e a : Int} (s : AtE f k x d y e a) : ix (catE f).frm k = plI f x d := by rw [catE_frm s.hk, s.ok.eq]; rfl
theorem AtE.to {k x d y e a : Int} (s : AtE f k x d y e a) : ix (catE f).to k = plI f y e := by rw [catE_to s.hk, s.ok.eq]; rfl
theorem ArrOk.at (h : f.Shape) {s : List Int} {x d y e a : Int} (k : ArrOk f s x d y e a) : AtE f (indexOf (arrF f) s) x d y e a := by
 have h1 := indexOf_in (k.mem h)
 exact ⟨⟨h1.1, h1.2.1⟩, by rw [h1.2.2]; exact k⟩
theorem AtE.uniq {k l x d y e a : Int} (s : AtE f k x d y e a) (t : AtE f l x d y e a) : k = l := by
 have h1 := indexOf_ix arrF_nodup s.hk
 have h2 := indexOf_ix arrF_nodup t.hk
 rw [s.ok.eq] at h1
 rw [t.ok.eq] at h2
 exact h1.symm.trans h2
theorem AtE.comp (h : f.Is) {k l x d y e a y' e' z g b : Int} (s : AtE f k x d y e a) (t : AtE f l y' e' z g b) (hm : plI f y e = plI f y' e') : AtE f (ix (ix (catE f).comp k) l) x d z g (ix (ix f.shape.comp a) b) := by
 have e1 : (ix (arrF f) k).getD 1 default = plI f y e := by rw [s.ok.eq]; rfl
 have e2 : (ix (arrF f) l).getD 0 default = plI f y' e' := by rw [t.ok.eq]; rfl
 have e3 : (ix (arrF f) k).getD 0 default = plI f x d := by rw [s.ok.eq]; rfl
 have e4 : (ix (arrF f) l).getD 1 default = plI f z g := by rw [t.ok.eq]; rfl
 have e5 : (ix (arrF f) k).getD 2 default = a := by rw [s.ok.eq]; rfl
 have e6 : (ix (arrF f) l).getD 2 default = b := by rw [t.ok.eq]; rfl
 rw [catE_comp s.hk t.hk, e1, e2, if_pos hm, e3, e4, e5, e6]
 exact (s.ok.then h t.ok hm).2.at h.1
theorem catE_idn (h : f.Is) {x d : Int} (hx : 0 ≤ x ∧ x < f.shape.objs) (hd : 0 ≤ d ∧ d < ix f.sizes x) : AtE f (ix (catE f).idn (plI f x d)) x d x d (ix f.shape.idn x) := by
 have hi := plI_in h.1 hx hd
 have hp := plI_at h.1 hx hd
 have e1 : ix (catE f).idn (plI f x d) = indexOf (arrF f) [((plI f x d).toNat : Int), ((plI f x d).toNat : Int), ix f.shape.idn (((pairsF f).getD (plI f x d).toNat default).getD 0 default)] := getD_map_range _ _ hi.2
 rw [Int.toNat_of_nonneg hi.1, show (pairsF f).getD (plI f x d).toNat default = [x, d] from hp] at e1
 rw [e1]
 exact (ArrOk.one h hx hd).at h.1
theorem catE_sh (h : f.Is) (hn : (pairsF f).length ≤ 8) (hm : (arrF f).length ≤ 40) : (catE f).Shape where
 o := by simp only [catE]; omega
 m := by simpa [catE] using hm
 frm y hy := by
  obtain ⟨s, hs, rfl⟩ := List.mem_map.mp hy
  obtain ⟨x, d, y, e, a, k⟩ := arrOk_ex h.1 hs
  have := plI_in h.1 k.hx k.hd
  rw [k.eq]
  simp only [catE, List.getD_cons_zero]; omega
 tol := by simp [catE]
 to y hy := by
  obtain ⟨s, hs, rfl⟩ := List.mem_map.mp hy
  obtain ⟨x, d, y, e, a, k⟩ := arrOk_ex h.1 hs
  have := plI_in h.1 k.hy k.he
  rw [k.eq]
  simp only [catE, List.getD_cons_zero, List.getD_cons_succ]; omega
 cl := by simp [catE]
 il := by simp [catE]
 idn y hy := by
  obtain ⟨i, hi, rfl⟩ := List.mem_map.mp hy
  rw [List.mem_range] at hi
  obtain ⟨x, d, hx, hd, ei⟩ := plI_ex h.1 (i := (i : Int)) (by omega)
  have hp := plI_at h.1 hx hd
  rw [← ei, ix_nat] at hp
  have := ((ArrOk.one h hx hd).at h.1).hk
  rw [hp, ei]
  simp only [catE, List.length_map, List.getD_cons_zero]; omega
 ide i hi := by
  have hi2 : i < (pairsF f).length := by simpa [catE] using hi
  obtain ⟨x, d, hx, hd, ei⟩ := plI_ex h.1 (i := (i : Int)) (by omega)
  have k := catE_idn h hx hd
  rw [← ei, ix_nat] at k
  rw [k.frm, k.to, ei]; exact ⟨rfl, rfl⟩
 row a ha := by
  have ha2 : a < (arrF f).length := by simpa [catE] using ha
  have e1 : (catE f).comp.getD a default = _ := getD_map_range _ _ ha2
  rw [e1]; simp [catE]
 non a b ha hb hne := by
  have ha2 : a < (arrF f).length := by simpa [catE] using ha
  have hb2 : b < (arrF f).length := by simpa [catE] using hb
  have e1 := catE_comp (f := f) (a := (a : Int)) (b := (b : Int)) (by omega) (by omega)
  have e2 := catE_to (f := f) (a := (a : Int)) (by omega)
  have e3 := catE_frm (f := f) (a := (b : Int)) (by omega)
  rw [← e2, ← e3] at e1
  simp only [ix_nat] at e1
  rw [e1, if_neg hne]
 yes a b ha hb he := by
  have ha2 : a < (arrF f).length := by simpa [catE] using ha
  have hb2 : b < (arrF f).length := by simpa [catE] using hb
  obtain ⟨x, d, y, e, g, k⟩ := AtE.ex h.1 (k := (a : Int)) (by omega)
  obtain ⟨y', e', z, i, g', l⟩ := AtE.ex h.1 (k := (b : Int)) (by omega)
  have k1 := k.frm
  have k2 := k.to
  have l1 := l.frm
  have l2 := l.to
  rw [ix_nat] at k1 k2 l1 l2
  have hc := k.comp h l (by rw [← k2, ← l1]; exact he)
  rw [ix_nat, ix_nat] at hc
  rw [k1, l2]
  exact ⟨⟨hc.hk.1, by have := hc.hk; simp only [catE, List.length_map] at this ⊢; omega⟩, hc.frm, hc.to⟩
theorem catE_is (h : f.Is) (hn : (pairsF f).length ≤ 8) (hm : (arrF f).length ≤ 40) : (catE f).Is := by
 refine ⟨catE_sh h hn hm, fun a ha => ?_, fun a b c ha hb hc hab hbc => ?_⟩
 ·have ha2 : a < (arrF f).length := by simpa [catE] using ha
  obtain ⟨x, d, y, e, g, k⟩ := AtE.ex h.1 (k := (a : Int)) (by omega)
  have k1 := k.frm
  have k2 := k.to
  rw [ix_nat] at k1 k2
  have hl := h.1.is.2.idl g.toNat k.ok.ha.2
  have e1 : ix (ix f.shape.comp (ix f.shape.idn x)) g = g := by
   have := hl.1
   rw [show f.shape.frm.getD g.toNat default = x from k.ok.fr, Int.toNat_of_nonneg k.ok.ha.1] at this; exact this
  have e2 : ix (ix f.shape.comp g) (ix f.shape.idn y) = g := by
   have := hl.2
   rw [show f.shape.to.getD g.toNat default = y from k.ok.to, Int.toNat_of_nonneg k.ok.ha.1] at this; exact this
  rw [k1, k2]
  constructor
  ·have := (catE_idn h k.ok.hx k.ok.hd).comp h k rfl
   rw [e1] at this
   exact this.uniq k
  ·have := k.comp h (catE_idn h k.ok.hy k.ok.he) rfl
   rw [e2, ix_nat] at this
   exact this.uniq k
 ·have ha2 : a < (arrF f).length := by simpa [catE] using ha
  have hb2 : b < (arrF f).length := by simpa [catE] using hb
  have hc2 : c < (arrF f).length := by simpa [catE] using hc
  obtain ⟨x, d, y, e, g, k⟩ := AtE.ex h.1 (k := (a : Int)) (by omega)
  obtain ⟨y', e', z, i, g', l⟩ := AtE.ex h.1 (k := (b : Int)) (by omega)
  obtain ⟨z', i', w, j, g'', m⟩ := AtE.ex h.1 (k := (c : Int)) (by omega)
  have k2 := k.to
  have l1 := l.frm
  have l2 := l.to
  have m1 := m.frm
  rw [ix_nat] at k2 l1 l2 m1
  have h1 : plI f y e = plI f y' e' := by rw [← k2, ← l1]; exact hab
  have h2 : plI f z i = plI f z' i' := by rw [← l2, ← m1]; exact hbc
  have c1 := (k.comp h l h1).comp h m h2
  have c2 := k.comp h (l.comp h m h2) h1
  have t1 : ix f.shape.to g = ix f.shape.frm g' := by rw [k.ok.to, l.ok.fr, (k.ok.then h l.ok h1).1.1]
  have t2 : ix f.shape.to g' = ix f.shape.frm g'' := by rw [l.ok.to, m.ok.fr, (l.ok.then h m.ok h2).1.1]
  have ea := h.1.is.2.assoc g.toNat g'.toNat g''.toNat k.ok.ha.2 l.ok.ha.2 m.ok.ha.2 t1 t2
  rw [Int.toNat_of_nonneg m.ok.ha.1] at ea
  have ea2 : ix (ix f.shape.comp (ix (ix f.shape.comp g) g')) g'' = ix (ix f.shape.comp g) (ix (ix f.shape.comp g') g'') := ea
  rw [ea2] at c1
  have := c1.uniq c2
  simp only [ix_nat] at this ⊢
  exact this
def conF (f : SF) : List (List Int) := (List.range (arrF f).length).map fun k => [(catE f).frm.getD k default, (catE f).to.getD k default]
theorem mem_conF (h : f.Is) (q : Int × Int) : q ∈ prN (conF f) ↔ q ∈ prN (psF f) := by
 simp only [prN, List.mem_map, conF, List.mem_range]
 constructor
 ·rintro ⟨_, ⟨k, hk, rfl⟩, rfl⟩
  obtain ⟨x, d, y, e, a, s⟩ := AtE.ex h.1 (k := (k : Int)) (by omega)
  have s1 := s.frm
  have s2 := s.to
  rw [ix_nat] at s1 s2
  have hal := h.1.al
  have hin := h.1.inAct s.ok.ha (e := d) (by rw [s.ok.fr]; exact s.ok.hd)
  refine ⟨psE f a.toNat d.toNat, mem_psN.mpr ⟨a.toNat, d.toNat, by have := s.ok.ha; omega, hin.2, rfl⟩, ?_⟩
  have e1 : f.shape.frm.getD a.toNat default = x := s.ok.fr
  have e2 : f.shape.to.getD a.toNat default = y := s.ok.to
  have e3 : (f.acts.getD a.toNat default).getD d.toNat default = e := s.ok.act
  rw [psE, e1, e2, e3, Int.toNat_of_nonneg s.ok.hd.1, s1, s2]
 ·rintro ⟨_, hq, rfl⟩
  obtain ⟨a, e, ha, he, rfl⟩ := mem_psN.mp hq
  obtain ⟨h1, h2, h3, h4⟩ := psE_in h.1 ha he
  have hal := h.1.al
  have k : ArrOk f [plI f (f.shape.frm.getD a default) e, plI f (f.shape.to.getD a default) ((f.acts.getD a default).getD e default), (a : Int)] (f.shape.frm.getD a default) e (f.shape.to.getD a default) ((f.acts.getD a default).getD e default) a :=
   ⟨h1, h2, h3, h4, by omega, by rw [ix_nat], by rw [ix_nat], by rw [ix_nat, ix_nat], rfl⟩
  have s := k.at h.1
  refine ⟨_, ⟨(indexOf (arrF f) [plI f (f.shape.frm.getD a default) e, plI f (f.shape.to.getD a default) ((f.acts.getD a default).getD e default), (a : Int)]).toNat, s.hk.2, rfl⟩, ?_⟩
  have s1 := s.frm
  have s2 := s.to
  exact Prod.ext s1 s2
theorem conF_in (h : f.Is) : ∀ q, q ∈ conF f → (0 ≤ ix q 0 ∧ (ix q 0).toNat < (pairsF f).length) ∧ 0 ≤ ix q 1 ∧ (ix q 1).toNat < (pairsF f).length := by
 intro q hq
 have : (ix q 0, ix q 1) ∈ prN (psF f) := (mem_conF h _).mp (List.mem_map.mpr ⟨q, hq, rfl⟩)
 obtain ⟨r, hr, e⟩ := List.mem_map.mp this
 injection e with e1 e2
 have := psF_in h.1 r hr
 rwa [e1, e2] at this
theorem con_comp (h : f.Is) : joinL (pairsF f).length (conF f) = compN f := joinL_same (psF_in h.1) (conF_in h) (mem_conF h)
end
end Go.Shf
namespace Go.Proofs.Shf
open Go.AW Go.Proofs Go.Shf
noncomputable def rootK (j : List Int) (n k : Nat) : List Int := (List.range n).map fun i : Nat => if i < k then rootF j i else 0
theorem rootK_zero (j : List Int) (n : Nat) : rootK j n 0 = List.replicate n 0 := by
 refine List.ext_getElem (by simp [rootK]) fun i h1 h2 => ?_
 simp [rootK]
theorem rootK_succ (j : List Int) (n k : Nat) (hk : k < n) : (rootK j n k).set k (rootF j k) = rootK j n (k + 1) := by
 refine List.ext_getElem (by simp [rootK]) fun i h1 h2 => ?_
 simp only [rootK, List.getElem_set, List.getElem_map, List.getElem_range]
 by_cases e : k = i
 ·subst e; rw [if_pos rfl, if_pos (by omega)]
 ·rw [if_neg e]
  by_cases e2 : i < k
  ·rw [if_pos e2, if_pos (by omega)]
  ·rw [if_neg e2, if_neg (by omega)]
theorem rootK_at (j : List Int) (n : Nat) {i : Nat} (hi : i < n) : (rootK j n n).getD i default = rootF j i := by rw [rootK, getD_map_range _ _ hi, if_pos hi]
def PartK (n : Nat) (N : List (Int × Int)) (H0 : Heap) (l : Ob) : Kont := fun r H' => ∃ R : List Int, r = iL (classL R) ∧ R.length = n ∧ (∀ u v : Nat, u < n → v < n → (R.getD u default = R.getD v default ↔ EqN N u v)) ∧ Owns H0 H' l
theorem partition_own (B : Nat) {n : Nat} (hn : n ≤ 1048576) {N : List (Int × Int)} {j : List Int} (k : JoinOk n N j) {H0 H : Heap} {l : Ob} {id : Nat} (o : Owns H0 H ((id, .cells 1 (j.map iI) 0) :: l)) :
  CallH Tryz.prog B 188 [.buf id n] H (PartK n N H0 l) := by
 refine c188p (by simp) fun _ => ?_
 unfold s188p
 try simp only [go_sem, reduceAdd]
 refine ⟨⟨by omega, by simp only [maxL]; omega⟩, mks_list iI 0 rfl o fun id3 H o => ?_⟩
 try simp only [go_sem]
 refine awp_for [0, 3, 9] (G := List Int × List Int) (fun i _ => [(10, some (.int .i64 (i : Int)))])
  (fun i G H => G.1 = rootK j n i ∧ JoinOk n N G.2 ∧ (∀ y r, InR n y → Root j y r → Root G.2 y r) ∧ Owns H0 H ((id3, .cells 1 (G.1.map iI) 0) :: (id, .cells 1 (G.2.map iI) 0) :: l)) n (List.replicate n 0, j) ⟨(rootK_zero j n).symm, k, fun y r _ h => h, o⟩ rfl ?_
 clear o
 rintro i ⟨A, j2⟩ H hi ⟨hA, k2, hp, o⟩
 replace hA : A = rootK j n i := hA
 replace k2 : JoinOk n N j2 := k2
 replace o : Owns H0 H ((id3, .cells 1 (A.map iI) 0) :: (id, .cells 1 (j2.map iI) 0) :: l) := o
 have hAl : A.length = n := by rw [hA]; simp [rootK]
 try simp only [go_sem]
 refine ⟨fun h1 => At.mk ?_, fun h1 => At.mk ?_⟩
 ·have h1p : i < n := by have := of_decide h1; omega
  have w1 := wsucc (k := i) (by omega)
  have hin : InR n (i : Int) := ⟨by omega, by simpa using h1p⟩
  try simp only [go_sem]
  refine (root_own B k2 (i : Int) hin o.swap).mono ?_
  clear o
  rintro r H ⟨a, j3, rfl, k3, hr, _, hp3, o⟩
  have ea : a = rootF j i := hr.uniq (hp _ _ hin (k.rootE hin))
  try simp only [go_sem]
  refine ⟨h1p, ?_⟩
  refine set_own (f := iI) a o.swap rfl (by rw [hAl]; exact h1p) fun H o => ?_
  try simp only [go_sem, w1]
  exact for_next (A.set i a, j3) h1p ⟨by rw [hA, ea, rootK_succ j n i h1p], k3, fun y r hy h => hp3 y r hy (hp y r hy h), o⟩ rfl
 ·have h1p : i = n := by have := of_ndecide h1; omega
  try simp only [go_sem]
  refine fz_own o (by rw [hAl]) fun H o => ?_
  try simp only [go_sem]
  refine (normal_ok B A).go fun _ => ?_
  try simp only [go_sem]
  refine ⟨H, .refl H, A, rfl, hAl, fun u v hu hv => ?_, o.tl⟩
  rw [hA, h1p, rootK_at j n hu, rootK_at j n hv]
  exact k.rootR u v ⟨by omega, by simpa using hu⟩ ⟨by omega, by simpa using hv⟩
def offL (f : SF) : List Int := (List.range f.sizes.length).map fun x : Nat => (offN f x : Int)
theorem offL_at {f : SF} {x : Int} (hx : 0 ≤ x ∧ x.toNat < f.sizes.length) : (offL f).getD x.toNat default = (offN f x.toNat : Int) := getD_map_range _ _ hx.2
theorem offL_len (f : SF) : (offL f).length = f.sizes.length := by simp [offL]
theorem offs_ok (B : Nat) (f : SF) (hl : f.sizes.length ≤ 8) (hz : ∀ y, y ∈ f.sizes → 0 ≤ y ∧ y < 17) : Pur Tryz.prog B 187 [.ptr f.cells] (iL (offL f)) := by
 refine ⟨fun H0 => c187 (by simp) fun _ => ?_⟩
 unfold s187
 have o : Owns H0 H0 [] := .nil _
 have hpl := fun n hn => pairsN_len (f := f) hz (n := n) hn
 try simp only [go_sem, reduceAdd]
 refine new_list iI o fun id H o => ?_
 try simp only [go_sem, reduceAdd, reduceLeDiff]
 refine awp_for [11, 12] (G := Nat × List Int) (fun k g => [(3, some (.buf g.1 g.2.length)), (4, some (.int .i64 (offN f k : Int))), (13, some (.int .i64 (k : Int)))])
  (fun k G H => G.2 = (List.range k).map (fun x : Nat => (offN f x : Int)) ∧ Owns H0 H [(G.1, .cells 1 (G.2.map iI) 0)]) f.sizes.length (id, []) ⟨rfl, o⟩ rfl ?_
 clear o
 rintro k ⟨id, out⟩ H hk ⟨hout, o⟩
 replace hout : out = (List.range k).map (fun x : Nat => (offN f x : Int)) := hout
 replace o : Owns H0 H [(id, .cells 1 (out.map iI) 0)] := o
 have hol : out.length = k := by rw [hout]; simp
 try simp only [go_sem]
 refine ⟨fun h1 => At.mk ?_, fun h1 => At.mk ?_⟩
 ·have h1p : k < f.sizes.length := by have := of_decide h1; omega
  have w1 := wsucc (k := k) (by omega)
  have hzk := hz _ (mem_getD.mpr ⟨k, h1p, rfl⟩)
  have hpk := hpl k (by omega)
  have e1 : (pairsN f k).length = offN f k := rfl
  have w2 : IntKind.i64.wrap ((offN f k : Int) + f.sizes.getD k default) = (offN f (k + 1) : Int) := by rw [wrap_i64 (by omega) (by omega), offN_succ]; omega
  try simp only [go_sem, reduceAdd]
  refine ⟨h1p, ?_⟩
  refine app_own (offN f k : Int) o rfl rfl (by simp only [maxL]; omega) fun id H o => ?_
  try simp only [go_sem, w1, w2]
  exact for_next (_, _) h1p ⟨by rw [hout, List.range_succ]; simp, o⟩ rfl
 ·have h1p : k = f.sizes.length := by have := of_ndecide h1; omega
  try simp only [go_sem]
  refine fz_own o rfl fun H o => ?_
  try simp only [go_sem]
  exact pure_ret (by rw [hout, h1p]; rfl) o.sub
def conG (c : Cat) : List (List Int) := (List.range c.frm.length).map fun k => [c.frm.getD k default, c.to.getD k default]
theorem conG_take (c : Cat) {k : Nat} (hk : k < c.frm.length) : (conG c).take (k + 1) = (conG c).take k ++ [[c.frm.getD k default, c.to.getD k default]] := by
 rw [take_one _ (by simpa [conG] using hk)]
 congr 2
 exact getD_map_range _ _ hk
theorem connected_ok (B : Nat) (c : Cat) (hc : c.Shape) : Pur Tryz.prog B 92 [.ptr c.cells] (iL (joinL c.objs.toNat (conG c))) := by
 refine ⟨fun H0 => c92p (by simp) fun _ => ?_⟩
 have hm := hc.m
 have htl := hc.tol
 have hob := hc.o
 obtain ⟨n, hn⟩ : ∃ n : Nat, c.objs = n := ⟨_, (Int.toNat_of_nonneg hob.1).symm⟩
 have hin : ∀ q, q ∈ conG c → (0 ≤ ix q 0 ∧ (ix q 0).toNat < n) ∧ 0 ≤ ix q 1 ∧ (ix q 1).toNat < n := fun q hq => by
  obtain ⟨k, hk, rfl⟩ := List.mem_map.mp hq
  rw [List.mem_range] at hk
  have h1 := hc.frmObj (f := (k : Int)) (by simpa using hk)
  have h2 := hc.toObj (f := (k : Int)) (by simpa using hk)
  rw [ix_nat] at h1 h2
  show (0 ≤ c.frm.getD k default ∧ (c.frm.getD k default).toNat < n) ∧ 0 ≤ c.to.getD k default ∧ (c.to.getD k default).toNat < n
  omega
 unfold s92p
 have o : Owns H0 H0 [] := .nil _
 rw [hn]
 try simp only [go_sem, reduceAdd, reduceLeDiff]
 rw [hn]
 refine (joinerOf_own B n (by omega) o).mono ?_
 clear o
 rintro r H ⟨id, rfl, o⟩
 try simp only [go_sem, reduceAdd, reduceLeDiff]
 refine awp_for [0, 3, 14] (G := List Int) (fun k _ => [(15, some (.int .i64 (k : Int)))])
  (fun k j H => JoinOk n (prN ((conG c).take k)) j ∧ Owns H0 H [(id, .cells 1 (j.map iI) 0)]) c.frm.length ((List.range n).map Int.ofNat) ⟨.start n, o⟩ rfl ?_
 clear o
 rintro k j H hk ⟨hj, o⟩
 try simp only [go_sem]
 refine ⟨fun h1 => At.mk ?_, fun h1 => At.mk ?_⟩
 ·have h1p : k < c.frm.length := by have := of_decide h1; omega
  have w1 := wsucc (k := k) (by omega)
  have hq := hin [c.frm.getD k default, c.to.getD k default] (List.mem_map.mpr ⟨k, by simpa using h1p, rfl⟩)
  try simp only [go_sem, reduceAdd, reduceLeDiff]
  refine ⟨h1p, ?_⟩
  refine ⟨by omega, ?_⟩
  refine (join_own B hj _ _ hq.1 hq.2 o).mono ?_
  clear o
  rintro r H ⟨b, j2, rfl, hj2, o⟩
  try simp only [go_sem, w1]
  exact for_next j2 h1p ⟨by rw [conG_take c h1p, prN_snoc]; exact hj2, o⟩ rfl
 ·have h1p : k = c.frm.length := by have := of_ndecide h1; omega
  rw [h1p, List.take_of_length_le (by simp [conG])] at hj
  try simp only [go_sem]
  refine (partition_own B (by omega) hj o).mono ?_
  clear o
  rintro r H ⟨R, rfl, hRl, hR, o⟩
  try simp only [go_sem]
  have ej := class_join hin hRl (fun q => Iff.rfl) hR
  refine pure_ret ?_ o.sub
  rw [ej]
theorem connectedI_ok (B : Nat) (c : Cat) (hc : c.Is) : Pur Tryz.prog B 26 [.agg c.cells] (.tup [iL (joinL c.objs.toNat (conG c)), iI 0]) := by
 refine ⟨fun H0 => c26 (by simp) fun _ => ?_⟩
 unfold s26
 try simp only [go_sem, reduceAdd]
 refine (isCategory_ok B c).go fun _ => ?_
 rw [dec_t hc]
 try simp only [go_sem]
 refine (connected_ok B c hc.1).go fun _ => ?_
 try simp only [go_sem]
 exact pure_ret rfl (.refl _)
end Go.Proofs.Shf
namespace Go.Shf
open Go.AW
theorem total_le {f : SF} (hl : f.sizes.length ≤ 8) (hz : ∀ y, y ∈ f.sizes → 0 ≤ y ∧ y < 17) : (pairsF f).length ≤ 128 := by
 have := pairsN_len (f := f) hz (n := f.sizes.length) (Nat.le_refl _)
 have : (pairsF f).length = (pairsN f f.sizes.length).length := rfl
 omega
theorem total_sum {f : SF} (hz : ∀ y, y ∈ f.sizes → 0 ≤ y ∧ y < 17) : f.sizes.sum = ((pairsF f).length : Int) := by
 have := off_sum (f := f) hz f.sizes.length (Nat.le_refl _)
 rwa [List.take_length] at this
theorem compR_bd {f : SF} {x : Nat} (hx : x < f.sizes.length) : offN f x + (f.sizes.getD x default).toNat ≤ (pairsF f).length := by rw [← offN_succ]; exact offN_le (by omega)
end Go.Shf
namespace Go.Proofs.Shf
open Go.AW Go.Proofs Go.Shf
theorem comps_ok (B : Nat) {f : SF} (h : f.Shape) : Pur Tryz.prog B 88 [.ptr f.cells] (.tup [iLL (compF f), iI (mxL (compN f))]) := by
 refine ⟨fun H0 => c88p (by simp) fun _ => ?_⟩
 have hm := h.is.1.m
 have htl := h.is.1.tol
 have hob := h.is.1.o
 have hsl := h.sl
 have hal := h.al
 have htot := total_le (f := f) (by omega) h.sz
 have hsum := total_sum (f := f) h.sz
 obtain ⟨n, hn⟩ : ∃ n : Nat, (pairsF f).length = n := ⟨_, rfl⟩
 rw [hn] at hsum
 have hpin := psF_in h
 rw [hn] at hpin htot
 unfold s88p
 have o : Owns H0 H0 [] := .nil _
 try simp only [go_sem, reduceAdd]
 refine (offs_ok B f (by omega) h.sz).go fun _ => ?_
 try simp only [go_sem]
 refine (elems_ok B f (by omega) h.sz).go fun _ => ?_
 rw [hsum]
 try simp only [go_sem]
 refine (joinerOf_own B n (by omega) o).mono ?_
 clear o
 rintro r H ⟨id, rfl, o⟩
 try simp only [go_sem, reduceAdd, reduceLeDiff]
 refine awp_for [0, 4, 5, 22, 23] (G := List Int) (fun k _ => [(24, some (.int .i64 (k : Int)))])
  (fun k j H => JoinOk n (prN (psN f k)) j ∧ Owns H0 H [(id, .cells 1 (j.map iI) 0)]) f.acts.length ((List.range n).map Int.ofNat) ⟨.start n, o⟩ rfl ?_
 clear o
 rintro a j H ha ⟨hj, o⟩
 try simp only [go_sem]
 refine ⟨fun h1 => At.mk ?_, fun h1 => At.mk ?_⟩
 ·have h1p : a < f.acts.length := by have := of_decide h1; omega
  have w1 := wsucc (k := a) (by omega)
  have hj0 : JoinOk n (prN (psN f a ++ psA f a 0)) j := by simpa [psA] using hj
  have hact := (h.act a h1p).1
  have hszl := fun y hy => h.sz y hy
  have hfo := h.is.1.frmObj (f := (a : Int)) (by omega)
  have hs16 := h.sz _ (ix_mem (h.inX hfo).2)
  rw [ix_nat] at hfo hs16
  try simp only [go_sem]
  refine ⟨h1p, ?_⟩
  refine awp_for [0, 4, 5, 6, 22, 23, 24, 29, 30] (G := List Int) (fun e _ => [(31, some (.int .i64 (e : Int)))])
   (fun e j H => JoinOk n (prN (psN f a ++ psA f a e)) j ∧ Owns H0 H [(id, .cells 1 (j.map iI) 0)]) (f.acts.getD a default).length j ⟨hj0, o⟩ rfl ?_
  clear o hj hj0
  rintro e j H he ⟨hj, o⟩
  try simp only [go_sem]
  refine ⟨fun h2 => At.mk ?_, fun h2 => At.mk ?_⟩
  ·have h2p : e < (f.acts.getD a default).length := by have := of_decide h2; omega
   have w2 := wsucc (k := e) (by omega)
   obtain ⟨q1, q2, q3, q4⟩ := psE_in h h1p h2p
   have hq := hpin (psE f a e) (mem_psN.mpr ⟨a, e, h1p, h2p, rfl⟩)
   have hX1 := h.inX q1
   have hX2 := h.inX q3
   have hq1 : 0 ≤ plI f (f.shape.frm.getD a default) e ∧ (plI f (f.shape.frm.getD a default) e).toNat < n := hq.1
   have hq2 : 0 ≤ plI f (f.shape.to.getD a default) ((f.acts.getD a default).getD e default) ∧ (plI f (f.shape.to.getD a default) ((f.acts.getD a default).getD e default)).toNat < n := hq.2
   have w3 : IntKind.i64.wrap (ix (offL f) (f.shape.frm.getD a default) + (e : Int)) = plI f (f.shape.frm.getD a default) e := by
    rw [show ix (offL f) _ = _ from offL_at hX1, wrap_i64 (by simp only [plI] at hq1; omega) (by simp only [plI] at hq1; omega)]; rfl
   have w4 : IntKind.i64.wrap (ix (offL f) (f.shape.to.getD a default) + (f.acts.getD a default).getD e default) = plI f (f.shape.to.getD a default) ((f.acts.getD a default).getD e default) := by
    rw [show ix (offL f) _ = _ from offL_at hX2, wrap_i64 (by simp only [plI] at hq2; omega) (by simp only [plI] at hq2; omega)]; rfl
   have hol := offL_len f
   try simp only [go_sem, reduceAdd, reduceLeDiff]
   refine ⟨h2p, ?_⟩
   refine ⟨by omega, ⟨q1.1, by omega⟩, by omega, ⟨q3.1, by omega⟩, ?_⟩
   try simp only [go_sem, w3, w4]
   refine (join_own B hj _ _ hq1 hq2 o).mono ?_
   clear o
   rintro r H ⟨b, j2, rfl, hj2, o⟩
   try simp only [go_sem, w2]
   exact for_next j2 h2p ⟨by rw [psA_succ, ← List.append_assoc, prN_snoc]; exact hj2, o⟩ rfl
  ·have h2p : e = (f.acts.getD a default).length := by have := of_ndecide h2; omega
   try simp only [go_sem, w1]
   exact for_next j h1p ⟨by rw [h2p] at hj; exact hj, o⟩ rfl
 ·have h1p : a = f.acts.length := by have := of_ndecide h1; omega
  rw [h1p] at hj
  try simp only [go_sem]
  refine (partition_own B (by omega) hj o).mono ?_
  clear o
  rintro r H ⟨R, rfl, hRl, hR, o⟩
  have ej : classL R = compN f := by
   rw [compN, hn]; exact class_join hpin hRl (fun q => Iff.rfl) hR
  rw [ej]
  have hcl : (compN f).length = n := by rw [compN_len, hn]
  have hol := offL_len f
  try simp only [go_sem]
  refine new_list iL o fun id11 H o => ?_
  try simp only [go_sem, reduceAdd, reduceLeDiff]
  refine awp_for [4, 10, 72, 73] (G := Nat × List (List Int)) (fun k g => [(11, some (.buf g.1 g.2.length)), (74, some (.int .i64 (k : Int)))])
   (fun k G H => G.2 = (List.range k).map (compR f) ∧ Owns H0 H [(G.1, .cells 1 (G.2.map iL) 0)]) f.sizes.length (id11, []) ⟨rfl, o⟩ rfl ?_
  clear o
  rintro k ⟨id11, out⟩ H hk ⟨hout, o⟩
  replace hout : out = (List.range k).map (compR f) := hout
  replace o : Owns H0 H [(id11, .cells 1 (out.map iL) 0)] := o
  have houl : out.length = k := by rw [hout]; simp
  try simp only [go_sem]
  refine ⟨fun h3 => At.mk ?_, fun h3 => At.mk ?_⟩
  ·have h3p : k < f.sizes.length := by have := of_decide h3; omega
   have w1 := wsucc (k := k) (by omega)
   have hzk := h.sz _ (mem_getD.mpr ⟨k, h3p, rfl⟩)
   have hbd := compR_bd h3p
   rw [hn] at hbd
   have eo : (offL f).getD k default = (offN f k : Int) := getD_map_range _ _ h3p
   have w2 : IntKind.i64.wrap ((offN f k : Int) + f.sizes.getD k default) = ((offN f k + (f.sizes.getD k default).toNat : Nat) : Int) := by rw [wrap_i64 (by omega) (by omega)]; omega
   try simp only [go_sem, reduceAdd]
   refine ⟨h3p, ?_⟩
   refine ⟨by omega, by omega, ?_⟩
   rw [eo]
   try simp only [go_sem, w2]
   refine ⟨by omega, ?_⟩
   refine ⟨_, (clone_ok B _).run, ?_⟩
   try simp only [go_sem, reduceAdd]
   refine app_own (f := iL) (compR f k) o rfl rfl (by simp only [maxL]; omega) fun id11 H o => ?_
   try simp only [go_sem, w1]
   exact for_next (_, _) h3p ⟨by rw [hout, List.range_succ]; simp, o⟩ rfl
  ·have h3p : k = f.sizes.length := by have := of_ndecide h3; omega
   try simp only [go_sem]
   refine (classesI_ok B (compN f) fun v hv => by
    have := joinL_ran hv
    rw [hcl]; rw [hn] at this; exact this).go fun _ => ?_
   try simp only [go_sem]
   refine fz_own o rfl fun H o => ?_
   try simp only [go_sem]
   exact pure_ret (by rw [hout, h3p]; rfl) o.sub
end Go.Proofs.Shf
namespace Go.Shf
open Go.AW
theorem psN_len {f : SF} (h : f.Shape) : ∀ n, n ≤ f.acts.length → (psN f n).length ≤ 16 * n
 | 0, _ => by simp [psN]
 | n + 1, hn => by
  have ih := psN_len h n (by omega)
  have h1 := (h.act n (by omega)).1
  have hal := h.al
  have hfo := h.is.1.frmObj (f := (n : Int)) (by omega)
  have hs := h.sz _ (ix_mem (h.inX hfo).2)
  rw [ix_nat] at hfo hs
  simp only [psN, psA, List.length_append, List.length_map, List.length_range]
  omega
end Go.Shf
namespace Go.Proofs.Shf
open Go.AW Go.Proofs Go.Shf
theorem refComps_ok (B : Nat) {f : SF} (h : f.Shape) : Pur Tryz.prog B 90 [.agg f.cells] (.tup [iLL (compF f), iI (mxL (compN f))]) := by
 refine ⟨fun H0 => c90p (by simp) fun _ => ?_⟩
 have hm := h.is.1.m
 have htl := h.is.1.tol
 have hob := h.is.1.o
 have hsl := h.sl
 have hal := h.al
 have htot := total_le (f := f) (by omega) h.sz
 obtain ⟨n, hn⟩ : ∃ n : Nat, (pairsF f).length = n := ⟨_, rfl⟩
 have hpin := psF_in h
 rw [hn] at hpin htot
 have hofl : offN f f.sizes.length = n := hn
 have hole : ∀ k, k ≤ f.sizes.length → offN f k ≤ n := fun k hk => by rw [← hofl]; exact offN_le hk
 unfold s90p
 have o : Owns H0 H0 [] := .nil _
 try simp only [go_sem, reduceAdd]
 refine new_list iI o fun id4 H o => ?_
 try simp only [go_sem]
 refine awp_for [1] (G := Nat × List Int) (fun k g => [(4, some (.buf g.1 g.2.length)), (5, some (.int .i64 (offN f k : Int))), (6, some (.int .i64 (k : Int)))])
  (fun k G H => G.2 = (List.range k).map (fun x : Nat => (offN f x : Int)) ∧ Owns H0 H [(G.1, .cells 1 (G.2.map iI) 0)]) f.sizes.length (id4, []) ⟨rfl, o⟩ rfl ?_
 clear o
 rintro k ⟨id4, out⟩ H hk ⟨hout, o⟩
 replace hout : out = (List.range k).map (fun x : Nat => (offN f x : Int)) := hout
 replace o : Owns H0 H [(id4, .cells 1 (out.map iI) 0)] := o
 have houl : out.length = k := by rw [hout]; simp
 try simp only [go_sem, reduceAdd, reduceLeDiff]
 refine ⟨fun h1 => At.mk ?_, fun h1 => At.mk ?_⟩
 ·have h1p : k < f.sizes.length := by have := of_decide h1; omega
  have w1 := wsucc (k := k) (by omega)
  have hzk := h.sz _ (mem_getD.mpr ⟨k, h1p, rfl⟩)
  have h2 := hole k (by omega)
  have w2 : IntKind.i64.wrap ((offN f k : Int) + f.sizes.getD k default) = (offN f (k + 1) : Int) := by rw [wrap_i64 (by omega) (by omega), offN_succ]; omega
  try simp only [go_sem, reduceAdd]
  refine app_own (offN f k : Int) o rfl rfl (by simp only [maxL]; omega) fun id4 H o => ?_
  try simp only [go_sem, reduceAdd, reduceLeDiff]
  refine ⟨h1p, ?_⟩
  try simp only [go_sem, w1, w2]
  exact for_next (_, _) h1p ⟨by rw [hout, List.range_succ]; simp, o⟩ rfl
 have h1p : k = f.sizes.length := by have := of_ndecide h1; omega
 have eo : out = offL f := by rw [hout, h1p]; rfl
 rw [h1p, hofl]
 clear hout houl h1 h1p
 subst eo
 have hol := offL_len f
 try simp only [go_sem]
 refine fz_own o rfl fun H o => ?_
 try simp only [go_sem]
 refine new_list iL o fun id7 H o => ?_
 try simp only [go_sem]
 clear hk
 refine awp_for [1, 4, 5] (G := Nat × List (List Int)) (fun k g => [(7, some (.buf g.1 g.2.length)), (8, some (.int .i64 (k : Int)))])
  (fun k G H => G.2 = psN f k ∧ Owns H0 H [(G.1, .cells 1 (G.2.map iL) 0)]) f.acts.length (id7, []) ⟨rfl, o⟩ rfl ?_
 clear o
 rintro a ⟨id7, P⟩ H ha ⟨hP, o⟩
 replace hP : P = psN f a := hP
 replace o : Owns H0 H [(id7, .cells 1 (P.map iL) 0)] := o
 have hPl := psN_len h a ha
 try simp only [go_sem, reduceAdd, reduceLeDiff]
 refine ⟨fun h1 => At.mk ?_, fun h1 => At.mk ?_⟩
 ·have h1p : a < f.acts.length := by have := of_decide h1; omega
  have w1 := wsucc (k := a) (by omega)
  have hact := (h.act a h1p).1
  have hfo := h.is.1.frmObj (f := (a : Int)) (by omega)
  have hs16 := h.sz _ (ix_mem (h.inX hfo).2)
  rw [ix_nat] at hfo hs16
  try simp only [go_sem]
  refine awp_for [1, 4, 5, 8] (G := Nat × List (List Int)) (fun e g => [(7, some (.buf g.1 g.2.length)), (9, some (.int .i64 (e : Int)))])
   (fun e G H => G.2 = psN f a ++ psA f a e ∧ Owns H0 H [(G.1, .cells 1 (G.2.map iL) 0)]) (f.acts.getD a default).length (id7, P) ⟨by simp [psA, hP], o⟩ rfl ?_
  clear o hP
  rintro e ⟨id7, P⟩ H he ⟨hP, o⟩
  replace hP : P = psN f a ++ psA f a e := hP
  replace o : Owns H0 H [(id7, .cells 1 (P.map iL) 0)] := o
  have hPl2 : P.length ≤ 16 * a + e := by rw [hP, List.length_append, psA, List.length_map, List.length_range]; omega
  try simp only [go_sem, reduceAdd, reduceLeDiff]
  refine ⟨h1p, ?_⟩
  refine ⟨fun h2 => At.mk ?_, fun h2 => At.mk ?_⟩
  ·have h2p : e < (f.acts.getD a default).length := by have := of_decide h2; omega
   have w2 := wsucc (k := e) (by omega)
   obtain ⟨q1, q2, q3, q4⟩ := psE_in h h1p h2p
   have hq := hpin (psE f a e) (mem_psN.mpr ⟨a, e, h1p, h2p, rfl⟩)
   have hX1 := h.inX q1
   have hX2 := h.inX q3
   have hq1 : 0 ≤ plI f (f.shape.frm.getD a default) e ∧ (plI f (f.shape.frm.getD a default) e).toNat < n := hq.1
   have hq2 : 0 ≤ plI f (f.shape.to.getD a default) ((f.acts.getD a default).getD e default) ∧ (plI f (f.shape.to.getD a default) ((f.acts.getD a default).getD e default)).toNat < n := hq.2
   have w3 : IntKind.i64.wrap (ix (offL f) (f.shape.frm.getD a default) + (e : Int)) = plI f (f.shape.frm.getD a default) e := by
    rw [show ix (offL f) _ = _ from offL_at hX1, wrap_i64 (by simp only [plI] at hq1; omega) (by simp only [plI] at hq1; omega)]; rfl
   have w4 : IntKind.i64.wrap (ix (offL f) (f.shape.to.getD a default) + (f.acts.getD a default).getD e default) = plI f (f.shape.to.getD a default) ((f.acts.getD a default).getD e default) := by
    rw [show ix (offL f) _ = _ from offL_at hX2, wrap_i64 (by simp only [plI] at hq2; omega) (by simp only [plI] at hq2; omega)]; rfl
   try simp only [go_sem, reduceAdd, reduceLeDiff]
   refine ⟨by omega, ⟨q1.1, by omega⟩, by omega, ⟨q3.1, by omega⟩, h1p, h2p, ?_⟩
   try simp only [go_sem, w3, w4]
   refine app_own (f := iL) (psE f a e) o rfl rfl (by simp only [maxL]; omega) fun id7 H o => ?_
   try simp only [go_sem, w2]
   exact for_next (_, _) h2p ⟨by rw [hP, psA_succ, List.append_assoc], o⟩ rfl
  ·have h2p : e = (f.acts.getD a default).length := by have := of_ndecide h2; omega
   try simp only [go_sem, w1]
   exact for_next (_, _) h1p ⟨by rw [hP, h2p]; rfl, o⟩ rfl
 have h1p : a = f.acts.length := by have := of_ndecide h1; omega
 have eP : P = psF f := by rw [hP, h1p]; rfl
 subst eP
 clear hP
 try simp only [go_sem]
 refine fz_own o rfl fun H o => ?_
 try simp only [go_sem]
 refine (join_pok B n (by omega) (psF f) fun q hq => by
  obtain ⟨a, e, h1, h2, rfl⟩ := mem_psN.mp hq
  have := hpin _ hq
  exact ⟨by simp [psE], this⟩).go fun _ => ?_
 rw [show joinL n (psF f) = compN f by rw [compN, hn]]
 have hcl : (compN f).length = n := by rw [compN_len, hn]
 have hcr : ∀ v, v ∈ compN f → 0 ≤ v ∧ v < n := fun v hv => by
  have := joinL_ran hv
  rwa [hn] at this
 try simp only [go_sem]
 refine new_list iL o fun id11 H o => ?_
 try simp only [go_sem]
 refine awp_for [1, 4, 10, 12] (G := Nat × List (List Int)) (fun k g => [(11, some (.buf g.1 g.2.length)), (13, some (.int .i64 (k : Int)))])
  (fun k G H => G.2 = (List.range k).map (compR f) ∧ Owns H0 H [(G.1, .cells 1 (G.2.map iL) 0)]) f.sizes.length (id11, []) ⟨rfl, o⟩ rfl ?_
 clear o
 rintro k ⟨id11, out⟩ H hk ⟨hout, o⟩
 replace hout : out = (List.range k).map (compR f) := hout
 replace o : Owns H0 H [(id11, .cells 1 (out.map iL) 0)] := o
 have houl : out.length = k := by rw [hout]; simp
 try simp only [go_sem, reduceAdd, reduceLeDiff]
 refine ⟨fun h3 => At.mk ?_, fun h3 => At.mk ?_⟩
 ·have h3p : k < f.sizes.length := by have := of_decide h3; omega
  have w1 := wsucc (k := k) (by omega)
  have hzk := h.sz _ (mem_getD.mpr ⟨k, h3p, rfl⟩)
  have hbd := compR_bd h3p
  rw [hn] at hbd
  have eo : (offL f).getD k default = (offN f k : Int) := getD_map_range _ _ h3p
  have w2 : IntKind.i64.wrap ((offN f k : Int) + f.sizes.getD k default) = ((offN f k + (f.sizes.getD k default).toNat : Nat) : Int) := by rw [wrap_i64 (by omega) (by omega)]; omega
  try simp only [go_sem, reduceAdd, reduceLeDiff]
  refine ⟨by omega, by omega, by omega, ?_⟩
  rw [eo]
  try simp only [go_sem, w2]
  refine ⟨by omega, ?_⟩
  refine ⟨_, (l01Own_ok B _).run, ?_⟩
  try simp only [go_sem, reduceAdd]
  refine app_own (f := iL) (compR f k) o rfl rfl (by simp only [maxL]; omega) fun id11 H o => ?_
  try simp only [go_sem, w1]
  exact for_next (_, _) h3p ⟨by rw [hout, List.range_succ]; simp, o⟩ rfl
 have h3p : k = f.sizes.length := by have := of_ndecide h3; omega
 have eR : out = compF f := by rw [hout, h3p]; rfl
 subst eR
 clear hout
 try simp only [go_sem]
 refine awp_for [10, 11] (G := Unit) (fun k _ => [(12, some (.int .i64 (mxL ((compN f).take k)))), (14, some (.int .i64 (k : Int)))])
  (fun k _ H => Owns H0 H [(id11, .cells 1 ((compF f).map iL) 0)]) n () o rfl ?_
 clear o
 rintro i _ H hi o
 try simp only [go_sem]
 refine ⟨fun h4 => At.mk ?_, fun h4 => At.mk ?_⟩
 ·have h4p : i < n := by have := of_decide h4; omega
  have w1 := wsucc (k := i) (by omega)
  have hv := hcr _ (mem_getD.mpr ⟨i, by omega, rfl⟩)
  have w2 : IntKind.i64.wrap ((compN f).getD i default + 1) = (compN f).getD i default + 1 := wrap_i64 (by omega) (by omega)
  try simp only [go_sem, ↓reduceIte]
  refine ⟨by omega, ?_⟩
  try simp only [go_sem, w2, w1]
  exact for_next () h4p o (by rw [mxL_succ (compN f) (k := i) (by omega)])
 ·have h4p : i = n := by have := of_ndecide h4; omega
  try simp only [go_sem]
  refine fz_own o rfl fun H o => ?_
  try simp only [go_sem]
  exact pure_ret (by rw [h4p, List.take_of_length_le (by omega)]) o.sub
theorem setComps_ok (B : Nat) {f : SF} (h : f.Is) : Pur Tryz.prog B 22 [.agg f.cells] (.tup [iLL (compF f), iI (mxL (compN f)), iI 0]) := by
 refine ⟨fun H0 => c22 (by simp) fun _ => ?_⟩
 unfold s22
 try simp only [go_sem, reduceAdd]
 refine (isSetFunctor_ok B f).go fun _ => ?_
 rw [dec_t h]
 try simp only [go_sem]
 refine (comps_ok B h.1).go fun _ => ?_
 try simp only [go_sem, reduceAdd, reduceLT]
 exact pure_ret rfl (.refl _)
theorem refSetComps_ok (B : Nat) {f : SF} (h : f.Is) : Pur Tryz.prog B 24 [.agg f.cells] (.tup [iLL (compF f), iI (mxL (compN f)), iI 0]) := by
 refine ⟨fun H0 => c24 (by simp) fun _ => ?_⟩
 unfold s24
 try simp only [go_sem, reduceAdd]
 refine (l19Is_ok B f).go fun _ => ?_
 rw [dec_t h]
 try simp only [go_sem, reduceAdd]
 refine (refComps_ok B h.1).go fun _ => ?_
 try simp only [go_sem, reduceAdd, reduceLT]
 exact pure_ret rfl (.refl _)
end Go.Proofs.Shf
namespace Go.Shf
open Go.AW
theorem arrF_small {f : SF} (h : f.Is) (hn : (pairsF f).length ≤ 8) : ∀ l, l ∈ arrF f → ∀ y, y ∈ l → 0 ≤ y ∧ y < 255 := by
 intro l hl y hy
 obtain ⟨x, d, y', e, a, k⟩ := arrOk_ex h.1 hl
 have h1 := plI_in h.1 k.hx k.hd
 have h2 := plI_in h.1 k.hy k.he
 have h3 := k.ha
 have hm := h.1.is.1.m
 rw [k.eq] at hy
 simp only [List.mem_cons, List.not_mem_nil, or_false] at hy
 rcases hy with rfl | rfl | rfl <;> omega
end Go.Shf
namespace Go.Proofs.Shf
open Go.AW Go.Proofs Go.Shf
@[go_sem] noncomputable def gkE (f : SF) (X : AV) : MObj := .cells 9 [iI (pairsF f).length, iL (catE f).frm, iL (catE f).to, iL (catE f).idn, X, iLL (pairsF f), iLL (arrF f),
 .imap (plS (pairsF f) (pairsF f).length).1 (plS (pairsF f) (pairsF f).length).2, .imap (plS (arrF f) (arrF f).length).1 (plS (arrF f) (arrF f).length).2] 0
theorem elc_ok (B : Nat) {f : SF} (h : f.Is) (hn : (pairsF f).length ≤ 8) {a b : Nat} (ha : a < (arrF f).length) (hb : b < (arrF f).length) (hab : (catE f).to.getD a default = (catE f).frm.getD b default) {idK : Nat} {X : AV} {H : Heap} (hg : H.get idK = some (gkE f X)) :
  CallH Tryz.prog B 196 [iI a, iI b, .ptr [.ref idK 0], .ptr [.ptr f.shape.cells]] H fun r H' => r = iI (((catE f).comp.getD a default).getD b default) ∧ H' = H := by
 refine c196p (by simp) fun _ => ?_
 obtain ⟨x, d, y, e, g, k⟩ := AtE.ex h.1 (k := (a : Int)) (by omega)
 obtain ⟨y', e', z, i, g', l⟩ := AtE.ex h.1 (k := (b : Int)) (by omega)
 have k2 := k.to
 have l1 := l.frm
 rw [ix_nat] at k2 l1
 have hm : plI f y e = plI f y' e' := by rw [← k2, ← l1]; exact hab
 have et := k.ok.then h l.ok hm
 have ek := k.ok.eq
 have el := l.ok.eq
 rw [ix_nat] at ek el
 have hc := h.1.is.1
 have hcl := hc.cl
 have hrow := hc.row' (a := g) k.ok.ha.2
 have ec := catE_comp (f := f) (a := (a : Int)) (b := (b : Int)) (by omega) (by omega)
 simp only [ix_nat] at ec
 rw [ek, el] at ec
 rw [if_pos (show ([plI f x d, plI f y e, g] : List Int).getD 1 default = ([plI f y' e', plI f z i, g'] : List Int).getD 0 default from hm)] at ec
 unfold s196p
 try simp only [go_sem, reduceAdd]
 refine rd_get hg (by simp) ?_
 try simp only [go_sem, reduceAdd]
 refine ⟨ha, rd_get hg (by simp) ?_⟩
 try simp only [go_sem, reduceAdd]
 refine ⟨hb, ?_⟩
 rw [ek, el]
 refine rd_get hg (by simp) ?_
 try simp only [go_sem, reduceAdd]
 refine ⟨by simp, by simp, by simp, by simp, _, (catThen_ok B f.shape g g' (by have := k.ok.ha; omega) (by have := l.ok.ha; omega)).run, ?_⟩
 try simp only [go_sem, reduceAdd]
 refine ⟨_, (key_ok B [[plI f x d, plI f z i, ix (ix f.shape.comp g) g']] (by simp [keyB])).run, okKey_plS _ _ _, ?_⟩
 rw [plS_get arrF_nodup (arrF_small h hn) (et.2.mem h.1)]
 refine ⟨H, .refl H, ?_, rfl⟩
 rw [ec]; rfl
theorem arrowsR_ok (B : Nat) {idK : Nat} {H : Heap} {cs : List AV} {l : List Int} {fr : Nat} (hg : H.get idK = some (.cells 9 cs fr)) (h1 : 1 < cs.length) (h2 : cs.getD 1 nv = iL l) :
  CallH Tryz.prog B 205 [.ref idK 0] H fun r H' => r = iI l.length ∧ H' = H := by
 refine c205 (by simp) fun _ => ?_
 unfold s205
 try simp only [go_sem, reduceAdd]
 refine rd_get hg h1 ?_
 rw [h2]
 try simp only [go_sem]
 exact ⟨H, .refl H, rfl, rfl⟩
def rowE (f : SF) (a k : Nat) : List Int := (List.range (arrF f).length).map fun b => if b < k then ((catE f).comp.getD a default).getD b default else 0
def tabE (f : SF) (k : Nat) : List (List Int) := (List.range (arrF f).length).map fun a => if a < k then (catE f).comp.getD a default else []
theorem tabE_zero (f : SF) : tabE f 0 = List.replicate (arrF f).length [] := by
 refine List.ext_getElem (by simp [tabE]) fun i h1 h2 => ?_
 simp [tabE]
theorem tabE_full (f : SF) : tabE f (arrF f).length = (catE f).comp := by
 refine List.ext_getElem (by simp [tabE, catE]) fun i h1 h2 => ?_
 have hi : i < (arrF f).length := by simpa [tabE] using h1
 simp only [tabE, List.getElem_map, List.getElem_range]
 rw [if_pos hi, List.getD_eq_getElem?_getD, List.getElem?_eq_getElem h2]; rfl
theorem rowE_zero (f : SF) (a : Nat) : rowE f a 0 = List.replicate (arrF f).length 0 := by
 refine List.ext_getElem (by simp [rowE]) fun i h1 h2 => ?_
 simp [rowE]
theorem rowE_len (f : SF) (a k : Nat) : (rowE f a k).length = (arrF f).length := by simp [rowE]
theorem rowE_full (f : SF) {a : Nat} (ha : a < (arrF f).length) : rowE f a (arrF f).length = (catE f).comp.getD a default := by
 have e1 : ((catE f).comp.getD a default).length = (arrF f).length := by
  have : (catE f).comp.getD a default = _ := getD_map_range _ _ ha
  rw [this]; simp
 refine List.ext_getElem (by rw [rowE_len, e1]) fun i h1 h2 => ?_
 have hi : i < (arrF f).length := by simpa [rowE] using h1
 simp only [rowE, List.getElem_map, List.getElem_range]
 rw [if_pos hi, List.getD_eq_getElem?_getD, List.getElem?_eq_getElem h2]; rfl
theorem rowE_succ (f : SF) (a : Nat) {k : Nat} (hk : k < (arrF f).length) : (rowE f a k).set k (((catE f).comp.getD a default).getD k default) = rowE f a (k + 1) := by
 refine List.ext_getElem (by simp [rowE]) fun i h1 h2 => ?_
 simp only [rowE, List.getElem_set, List.getElem_map, List.getElem_range]
 by_cases e : k = i
 ·subst e; rw [if_pos rfl, if_pos (by omega)]
 ·rw [if_neg e]
  by_cases e2 : i < k
  ·rw [if_pos e2, if_pos (by omega)]
  ·rw [if_neg e2, if_neg (by omega)]
theorem tabE_set (f : SF) {a : Nat} (R : List Int) (hR : R = (catE f).comp.getD a default) : (tabE f a).set a R = tabE f (a + 1) := by
 refine List.ext_getElem (by simp [tabE]) fun i h1 h2 => ?_
 simp only [tabE, List.getElem_set, List.getElem_map, List.getElem_range]
 by_cases e : a = i
 ·subst e; rw [if_pos rfl, if_pos (by omega), hR]
 ·rw [if_neg e]
  by_cases e2 : i < a
  ·rw [if_pos e2, if_pos (by omega)]
  ·rw [if_neg e2, if_neg (by omega)]
theorem tableE_ok (B : Nat) {f : SF} (h : f.Is) (hn : (pairsF f).length ≤ 8) (hm : (arrF f).length ≤ 40) {idK : Nat} {l : Ob} {H0 H : Heap} (o : Owns H0 H ((idK, gkE f .nilsl) :: l)) :
  CallH Tryz.prog B 195 [.ref idK 0, .fn (.func 196) [.ptr [.ref idK 0], .ptr [.ptr f.shape.cells]]] H fun r H' => ∃ idT Xs ob, LsR iI Xs (catE f).comp ob ∧ Xs.length = (arrF f).length ∧ Owns H0 H' ((idK, gkE f (.buf idT Xs.length)) :: (idT, .cells 1 Xs 0) :: (ob ++ l)) := by
 refine c195p (by simp) fun _ => ?_
 obtain ⟨m, hme⟩ : ∃ m, (arrF f).length = m := ⟨_, rfl⟩
 have hfl : (catE f).frm.length = m := by simp [catE, hme]
 have htl : (catE f).to.length = m := by simp [catE, hme]
 unfold s195p
 try simp only [go_sem, reduceAdd]
 refine (arrowsR_ok B (l := (catE f).frm) o.h0 (by simp) rfl).mono ?_
 rintro r H' ⟨rfl, rfl⟩
 rw [hfl]
 try simp only [go_sem]
 refine ⟨⟨by omega, by simp only [maxL]; omega⟩, ?_⟩
 rw [rep_one]
 refine newBuf_own o fun idT H o => ?_
 try simp only [go_sem, reduceAdd]
 refine stc o.swap fun H o => ?_
 simp only [wr_cons, wr_nil, List.set_cons_zero, List.set_cons_succ] at o
 try simp only [go_sem, reduceAdd]
 refine rd_cells o (by simp) ?_
 try simp only [go_sem]
 have hr0 : LsR iI (List.replicate m .nilsl) (tabE f 0) [] := by rw [tabE_zero, hme]; exact LsR.rep iI m
 have o : Owns H0 H ((idK, gkE f (.buf idT m)) :: (idT, .cells 1 (List.replicate m .nilsl) 0) :: ([] ++ l)) := o
 refine awp_for [0, 1, 4, 18] (G := List AV × Ob) (fun a _ => [(19, some (.int .i64 (a : Int)))])
  (fun a G H => LsR iI G.1 (tabE f a) G.2 ∧ G.1.length = m ∧ Owns H0 H ((idK, gkE f (.buf idT m)) :: (idT, .cells 1 G.1 0) :: (G.2 ++ l))) m (List.replicate m .nilsl, []) ⟨hr0, by simp, o⟩ rfl ?_
 clear o hr0
 rintro a ⟨Xs, ob⟩ H ha ⟨hR, hXl, o⟩
 replace hR : LsR iI Xs (tabE f a) ob := hR
 replace hXl : Xs.length = m := hXl
 replace o : Owns H0 H ((idK, gkE f (.buf idT m)) :: (idT, .cells 1 Xs 0) :: (ob ++ l)) := o
 try simp only [go_sem]
 refine ⟨fun h1 => At.mk ?_, fun h1 => At.mk ?_⟩
 ·have h1p : a < m := by have := of_decide h1; omega
  have w1 := wsucc (k := a) (by omega)
  try simp only [go_sem, reduceAdd]
  refine rd_cells o (by simp) ?_
  try simp only [go_sem]
  refine ⟨⟨by omega, by simp only [maxL]; omega⟩, mks_list iI 0 rfl o fun idr H o => ?_⟩
  try simp only [go_sem]
  refine ⟨h1p, ?_⟩
  refine st_cells (o.pull [_, _]) (by omega) rfl (by simp [AV.one]) fun H o => ?_
  simp only [wr_cons, wr_nil] at o
  have op : Owns H0 H ((idT, .cells 1 (Xs.set a (.buf idr m)) 0) :: ([(idr, .cells 1 ((List.replicate m (0 : Int)).map iI) 0)] ++ (ob ++ ((idK, gkE f (.buf idT m)) :: l)))) := by
   simp only [gkE] at o ⊢
   exact o.perm (permC fun x => by (try dsimp only); simp only [List.append_eq, List.count_append, List.count_cons, List.count_nil, List.map_nil, List.length_nil, List.length_append, List.length_cons, List.length_set, Nat.zero_add, List.nil_append, iI, iL]; omega)
  obtain ⟨ob2, hR2, o2⟩ := hR.put (i := a) (by omega) (p := [(idr, .cells 1 ((List.replicate m (0 : Int)).map iI) 0)]) (X := .buf idr m) (A := List.replicate m 0) (.inr ⟨idr, rfl, by simp⟩) op
  have hX2l : (Xs.set a (.buf idr m)).length = m := by rw [List.length_set, hXl]
  have e0 : List.replicate m (0 : Int) = rowE f a 0 := by rw [rowE_zero, hme]
  rw [e0] at hR2
  generalize hXX : Xs.set a (.buf idr m) = X2 at *
  have hXa : X2.getD a nv = .buf idr m := by rw [← hXX]; simp [List.getD_eq_getElem?_getD, show a < Xs.length by omega]
  have o : Owns H0 H ((idK, gkE f (.buf idT m)) :: (idT, .cells 1 X2 0) :: (ob2 ++ l)) := by
   simp only [gkE] at o2 ⊢
   exact o2.perm (permC fun x => by (try dsimp only); simp only [List.append_eq, List.count_append, List.count_cons, List.count_nil, List.map_nil, List.length_nil, List.length_append, List.length_cons, List.length_set, Nat.zero_add, List.nil_append, iI, iL]; omega)
  clear o2 op hR hXX
  try simp only [go_sem, reduceAdd]
  refine rd_cells o (by simp) ?_
  try simp only [go_sem]
  refine ⟨h1p, rd_cells o.tl (by omega) ?_⟩
  rw [hXa]
  try simp only [go_sem]
  refine awp_for [0, 1, 4, 5, 18, 19, 37] (G := Ob) (fun b _ => [(38, some (.int .i64 (b : Int)))])
   (fun b G H => LsR iI X2 ((tabE f a).set a (rowE f a b)) G ∧ Owns H0 H ((idK, gkE f (.buf idT m)) :: (idT, .cells 1 X2 0) :: (G ++ l))) m ob2 ⟨hR2, o⟩ rfl ?_
  clear o hR2
  rintro b ob H hb ⟨hR, o⟩
  have hrl := rowE_len f a b
  have htl2 : (tabE f a).length = m := by simp [tabE, hme]
  have hgd : ((tabE f a).set a (rowE f a b)).getD a [] = rowE f a b := by simp [List.getD_eq_getElem?_getD, show a < (tabE f a).length by omega]
  try simp only [go_sem]
  refine ⟨fun h2 => At.mk ?_, fun h2 => At.mk ?_⟩
  ·have h2p : b < m := by have := of_decide h2; omega
   have w2 := wsucc (k := b) (by omega)
   try simp only [go_sem, reduceAdd]
   refine rd_cells o (by simp) ?_
   try simp only [go_sem]
   refine ⟨h1p, rd_cells o.tl (by omega) ?_⟩
   rw [hXa]
   try simp only [go_sem]
   refine ⟨h2p, ?_⟩
   obtain ⟨idr', e1, hset⟩ := hR.row (i := a) (by omega) (by rw [hgd, hrl]; omega)
   obtain ⟨rfl, _⟩ := AV.buf.inj (hXa.symm.trans e1)
   have oT : Owns H0 H ((idT, .cells 1 X2 0) :: (ob ++ ((idK, gkE f (.buf idT m)) :: l))) := by
    simp only [gkE] at o ⊢
    exact o.perm (permC fun x => by (try dsimp only); simp only [List.append_eq, List.count_append, List.count_cons, List.count_nil, List.map_nil, List.length_nil, List.length_append, List.length_cons, List.length_set, Nat.zero_add, List.nil_append, iI, iL]; omega)
   refine hset oT b (by rw [hgd, hrl]; omega) (-1) rfl fun H ob hR o => ?_
   clear hset oT
   rw [hgd, List.set_set] at hR
   have o : Owns H0 H ((idK, gkE f (.buf idT m)) :: (idT, .cells 1 X2 0) :: (ob ++ l)) := by
    simp only [gkE] at o ⊢
    exact o.perm (permC fun x => by (try dsimp only); simp only [List.append_eq, List.count_append, List.count_cons, List.count_nil, List.map_nil, List.length_nil, List.length_append, List.length_cons, List.length_set, Nat.zero_add, List.nil_append, iI, iL]; omega)
   try simp only [go_sem, reduceAdd]
   refine rd_cells o (by simp) ?_
   try simp only [go_sem, reduceAdd]
   refine ⟨by omega, rd_cells o (by simp) ?_⟩
   try simp only [go_sem]
   refine ⟨by omega, ?_⟩
   have hsh := catE_sh h hn hm
   by_cases hab : (catE f).to.getD a default = (catE f).frm.getD b default
   ·rw [decide_eq_true hab]
    try simp only [go_sem, reduceAdd]
    refine rd_cells o (by simp) ?_
    try simp only [go_sem]
    refine ⟨h1p, rd_cells o.tl (by omega) ?_⟩
    rw [hXa]
    try simp only [go_sem]
    refine (elc_ok B h hn (by omega) (by omega) hab (X := .buf idT m) o.h0).mono ?_
    rintro r H' ⟨rfl, rfl⟩
    refine ⟨.refl _, ?_⟩
    try simp only [go_sem]
    refine ⟨h2p, ?_⟩
    have hgd2 : ((tabE f a).set a ((rowE f a b).set b (-1))).getD a [] = (rowE f a b).set b (-1) := by simp [List.getD_eq_getElem?_getD, show a < (tabE f a).length by omega]
    obtain ⟨idr', e1, hset⟩ := hR.row (i := a) (by omega) (by rw [hgd2, List.length_set, hrl]; omega)
    obtain ⟨rfl, _⟩ := AV.buf.inj (hXa.symm.trans e1)
    have oT : Owns H0 H' ((idT, .cells 1 X2 0) :: (ob ++ ((idK, gkE f (.buf idT m)) :: l))) := by
     simp only [gkE] at o ⊢
     exact o.perm (permC fun x => by (try dsimp only); simp only [List.append_eq, List.count_append, List.count_cons, List.count_nil, List.map_nil, List.length_nil, List.length_append, List.length_cons, List.length_set, Nat.zero_add, List.nil_append, iI, iL]; omega)
    refine hset oT b (by rw [hgd2, List.length_set, hrl]; omega) (((catE f).comp.getD a default).getD b default) rfl fun H ob hR o => ?_
    rw [hgd2, List.set_set, List.set_set, rowE_succ f a (by omega)] at hR
    try simp only [go_sem, w2]
    refine for_next ob h2p ⟨hR, ?_⟩ rfl
    simp only [gkE] at o ⊢
    exact o.perm (permC fun x => by (try dsimp only); simp only [List.append_eq, List.count_append, List.count_cons, List.count_nil, List.map_nil, List.length_nil, List.length_append, List.length_cons, List.length_set, Nat.zero_add, List.nil_append, iI, iL]; omega)
   ·rw [decide_eq_false hab]
    have hno := hsh.non a b (by omega) (by omega) hab
    rw [← hno, rowE_succ f a (by omega)] at hR
    try simp only [go_sem, w2]
    exact for_next ob h2p ⟨hR, o⟩ rfl
  ·have h2p : b = m := by have := of_ndecide h2; omega
   try simp only [go_sem, w1]
   refine for_next (X2, ob) h1p ⟨?_, hX2l, o⟩ rfl
   rw [h2p, ← hme, rowE_full f (by omega), tabE_set f _ rfl] at hR
   exact hR
 ·have h1p : a = m := by have := of_ndecide h1; omega
  rw [h1p, ← hme, tabE_full] at hR
  try simp only [go_sem]
  exact ⟨H, .refl H, idT, Xs, ob, hR, by rw [hXl, hme], by rw [hXl]; exact o⟩
end Go.Proofs.Shf
