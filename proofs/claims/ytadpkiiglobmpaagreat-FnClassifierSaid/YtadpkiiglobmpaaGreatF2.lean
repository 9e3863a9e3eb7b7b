/- Contracts, part 2. -/
import Derived.Test.YtadpkiiglobmpaaGreatF1
set_option linter.unusedVariables false
set_option linter.unusedSimpArgs false
set_option linter.unusedSectionVars false
open Nat (reduceEqDiff reduceAdd reduceMul reduceLeDiff reduceLT)
namespace Go.Proofs.Shf
open Go.AW Go.Proofs Go.Shf
theorem l25Close_ok (B : Nat) (c : Cat) (hs : c.Shape) (l : List Int) (hl : ∀ a, a ∈ l → 0 ≤ a ∧ a.toNat < c.frm.length) : Pur Tryz.prog B 202 [.agg c.cells, iL l] (iL (closeS c l)) := by
 refine ⟨fun H0 => c202 (by simp) fun ⟨_, hf, _⟩ => ?_⟩
 have hll := fine_mL_le hf
 simp only [maxL] at hll
 have hm := hs.m
 have hcl := hs.cl
 have htl := hs.tol
 unfold s202
 try simp only [go_sem, reduceAdd, reduceLeDiff]
 refine ⟨⟨by omega, by simp only [maxL]; omega⟩, mks_list AV.bool false rfl (.nil _) fun id H o => ?_⟩
 try simp only [go_sem]
 refine awp_for [1, 2, 5] (fun k _ => [(6, some (.int .i64 (k : Int)))]) (fun k A H => CloseI c l k 0 A ∧ Owns H0 H [(id, .cells 1 (A.map AV.bool) 0)]) l.length _ ⟨CloseI.zero c l, o⟩ rfl ?_
 rintro k A H hk ⟨hI, o⟩
 try simp only [go_sem]
 refine ⟨fun h1 => At.mk ?_, fun h1 => At.mk ?_⟩
 ·try simp only [go_sem]
  have h1p := h1; simp only [decide_eq_true_eq] at h1p
  have w1 := wsucc (k := k) (by omega)
  have ha := hl _ (mem_getD.mpr ⟨k, h1p, rfl⟩)
  have hr := hs.row' (a := l.getD k default) ha.2
  refine awp_for [1, 2, 5, 6] (fun b _ => [(7, some (.int .i64 (b : Int)))]) (fun b A H => CloseI c l k b A ∧ Owns H0 H [(id, .cells 1 (A.map AV.bool) 0)]) c.frm.length A ⟨hI, o⟩ rfl ?_
  rintro b A H hb ⟨hI, o⟩
  try simp only [go_sem, reduceAdd, reduceLeDiff]
  refine ⟨fun h2 => At.mk ?_, fun h2 => At.mk ?_⟩
  ·try simp only [go_sem, reduceAdd, reduceLeDiff]
   have h2p := h2; simp only [decide_eq_true_eq] at h2p
   have w2 := wsucc (k := b) (by omega)
   refine ⟨h1p, ⟨ha.1, by omega⟩, h2p, ?_⟩
   refine ⟨fun h3 => At.mk ?_, fun h3 => At.mk ?_⟩
   ·try simp only [go_sem, reduceAdd]
    have h3p := h3; simp only [decide_eq_true_eq] at h3p
    have hc := hs.comp ha ⟨Int.natCast_nonneg b, by simpa using h2p⟩ (by simpa [ix] using h3p)
    simp only [ix_nat] at hc
    refine ⟨h1p, _, (l02Then_ok B c (l.getD k default) b ⟨ha.1, by omega⟩ ⟨by omega, by omega⟩).run, ?_⟩
    try simp only [go_sem]
    refine ⟨⟨hc.1.1, by omega⟩, ?_⟩
    refine set_own true o rfl (by rw [hI.1]; omega) fun H o => ?_
    try simp only [go_sem, w2]
    exact for_next _ (by omega) ⟨hI.set h3p hc.1.1, o⟩ rfl
   ·try simp only [go_sem, w2]
    have h3p := h3; simp only [decide_eq_false_iff_not] at h3p
    exact for_next _ (by omega) ⟨hI.skip h3p, o⟩ rfl
  ·try simp only [go_sem, w1]
   have h2p := h2; simp only [decide_eq_false_iff_not, Nat.not_lt] at h2p
   obtain rfl : b = c.frm.length := by omega
   exact for_next _ (by omega) ⟨hI.row, o⟩ rfl
 ·try simp only [go_sem]
  have h1p := h1; simp only [decide_eq_false_iff_not, Nat.not_lt] at h1p
  have hd := hI.done (by omega)
  refine new_list iI o fun id2 H o => ?_
  try simp only [go_sem]
  refine awp_for [5] (G := Nat × List Int) (fun k g => [(8, some (.buf g.1 g.2.length)), (9, some (.int .i64 (k : Int)))]) (fun k g H => g.2 = nats (fun i => A.getD i default) k ∧ Owns H0 H [(g.1, .cells 1 (g.2.map iI) 0), (id, .cells 1 (A.map AV.bool) 0)]) A.length (id2, []) ⟨rfl, o⟩ rfl ?_
  rintro k ⟨id2, out⟩ H hk ⟨hout, o⟩
  replace hout : out = nats (fun i => A.getD i default) k := hout
  have hlen : out.length ≤ k := by rw [hout]; exact nats_len _ _
  have hAl := hI.1
  try simp only [go_sem]
  rw [← hAl]
  refine ⟨fun h2 => At.mk ?_, fun h2 => At.mk ?_⟩
  ·try simp only [go_sem]
   have h2p := h2; simp only [decide_eq_true_eq] at h2p
   have w2 := wsucc (k := k) (by omega)
   refine ⟨by omega, ?_⟩
   refine rd_own o.swap h2p ?_
   try simp only [go_sem]
   refine ⟨fun h3 => At.mk ?_, fun h3 => At.mk ?_⟩
   ·try simp only [go_sem, reduceAdd]
    refine app_own (k : Int) o rfl rfl (by simp only [maxL]; omega) fun id2 H o => ?_
    try simp only [go_sem, w2]
    exact for_next (_, _) (by omega) ⟨by rw [hout, nats_t h3], o⟩ rfl
   ·try simp only [go_sem, w2]
    exact for_next (_, _) (by omega) ⟨by rw [hout, nats_f h3], o⟩ rfl
  ·try simp only [go_sem]
   have h2p := h2; simp only [decide_eq_false_iff_not, Nat.not_lt] at h2p
   refine fz_own o rfl fun H o => ?_
   try simp only [go_sem]
   exact pure_ret (by rw [hout, ← hd, show k = A.length by omega]) o.sub
theorem sieveOf_ok (B : Nat) (c : Cat) (hs : c.Shape) (l : List Int) (hl : ∀ a, a ∈ l → 0 ≤ a ∧ a.toNat < c.frm.length) : Pur Tryz.prog B 209 [.ptr c.cells, iL l] (iL (closeS c l)) := by
 refine ⟨fun H0 => c209p (by simp) fun ⟨_, hf, _⟩ => ?_⟩
 have hll := fine_mL_le hf
 simp only [maxL] at hll
 have hm := hs.m
 have hcl := hs.cl
 have htl := hs.tol
 unfold s209p
 try simp only [go_sem, reduceAdd]
 refine (arrows_ok B c).go fun _ => ?_
 try simp only [go_sem]
 refine ⟨⟨by omega, by simp only [maxL]; omega⟩, mks_list AV.bool false rfl (.nil _) fun id H o => ?_⟩
 try simp only [go_sem]
 refine awp_for [0, 5, 13, 14] (fun k _ => [(15, some (.int .i64 (k : Int)))]) (fun k A H => CloseI c l k 0 A ∧ Owns H0 H [(id, .cells 1 (A.map AV.bool) 0)]) l.length _ ⟨CloseI.zero c l, o⟩ rfl ?_
 rintro k A H hk ⟨hI, o⟩
 try simp only [go_sem]
 refine ⟨fun h1 => At.mk ?_, fun h1 => At.mk ?_⟩
 ·try simp only [go_sem, reduceAdd, reduceLeDiff]
  have h1p := h1; simp only [decide_eq_true_eq] at h1p
  have w1 := wsucc (k := k) (by omega)
  have ha := hl _ (mem_getD.mpr ⟨k, h1p, rfl⟩)
  have hr := hs.row' (a := l.getD k default) ha.2
  refine ⟨h1p, ⟨ha.1, by omega⟩, (outOf_ok B c _).go fun hfo => ?_⟩
  have hlo := fine_mL_le hfo
  simp only [maxL] at hlo
  have hI := hI.out
  try simp only [go_sem]
  refine awp_for [0, 5, 7, 13, 14, 15, 27, 28] (fun b _ => [(29, some (.int .i64 (b : Int)))]) (fun b A H => CloseO c l k b A ∧ Owns H0 H [(id, .cells 1 (A.map AV.bool) 0)]) (outs c (ix c.to (l.getD k default))).length A ⟨hI, o⟩ rfl ?_
  rintro b A H hb ⟨hI, o⟩
  try simp only [go_sem]
  refine ⟨fun h2 => At.mk ?_, fun h2 => At.mk ?_⟩
  ·try simp only [go_sem]
   have h2p := h2; simp only [decide_eq_true_eq] at h2p
   have w2 := wsucc (k := b) (by omega)
   have hmem : (outs c (ix c.to (l.getD k default))).getD b default ∈ outs c (ix c.to (l.getD k default)) := mem_getD.mpr ⟨b, h2p, rfl⟩
   rw [mem_outs] at hmem
   have hc := hs.comp ha ⟨hmem.1, hmem.2.1⟩ hmem.2.2.symm
   refine ⟨h2p, (catThen_ok B c _ _ ⟨ha.1, by omega⟩ ⟨hmem.1, by omega⟩).go fun _ => ?_⟩
   try simp only [go_sem]
   refine ⟨⟨hc.1.1, by omega⟩, ?_⟩
   refine set_own true o rfl (by rw [hI.1]; omega) fun H o => ?_
   try simp only [go_sem, w2]
   exact for_next _ (by omega) ⟨hI.set h2p hc.1.1, o⟩ rfl
  ·try simp only [go_sem, w1]
   have h2p := h2; simp only [decide_eq_false_iff_not, Nat.not_lt] at h2p
   exact for_next _ (by omega) ⟨hI.row (by omega), o⟩ rfl
 ·try simp only [go_sem]
  have h1p := h1; simp only [decide_eq_false_iff_not, Nat.not_lt] at h1p
  have hd := hI.done (by omega)
  rw [← hI.1]
  refine fz_own o rfl fun H o => ?_
  try simp only [go_sem]
  refine (marked_ok B A).go fun _ => ?_
  try simp only [go_sem]
  exact pure_ret (by rw [← hd]; rfl) o.sub
theorem indexFunc_ok (B : Nat) (l : List (List Int)) (fn : FuncId) (ca : List AV) (p : List Int → Bool) (hp : ∀ t, t ∈ l → PureF Tryz.prog B fn (iL t :: ca) (.bool (p t))) :
  Pur Tryz.prog B 245 [iLL l, .fn (.func fn) ca] (.int .i64 (match l.findIdx? p with | some i => (i : Int) | none => -1)) := by
 refine ⟨fun H0 => c245 (by simp) fun ⟨hf, _⟩ => ?_⟩
 have hll := fine_mL_le hf
 simp only [maxL] at hll
 unfold s245
 try simp only [go_sem, reduceAdd]
 refine awp_for [0, 1, 7] (fun k _ => [(8, some (.int .i64 (k : Int)))]) (fun k _ H => H = H0 ∧ ∀ i, i < k → p (l.getD i default) = false) l.length () ⟨rfl, by simp⟩ rfl ?_
 rintro k _ H hk ⟨rfl, hall⟩
 try simp only [go_sem]
 refine ⟨fun h1 => At.mk ?_, fun h1 => At.mk ?_⟩
 ·try simp only [go_sem]
  have h1p := h1; simp only [decide_eq_true_eq] at h1p
  have w1 := wsucc (k := k) (by omega)
  refine ⟨h1p, (hp _ (mem_getD.mpr ⟨k, h1p, rfl⟩)).go fun _ => ?_⟩
  try simp only [go_sem]
  refine ⟨fun h2 => At.mk ?_, fun h2 => At.mk ?_⟩
  ·try simp only [go_sem]
   refine pure_ret ?_ (.refl _)
   have : l.findIdx? p = some k := by
    rw [List.findIdx?_eq_some_iff_getElem]
    refine ⟨h1p, by simpa [List.getD_eq_getElem?_getD, h1p] using h2, fun j hj => ?_⟩
    have := hall j hj
    simpa [List.getD_eq_getElem?_getD, show j < l.length by omega] using this
   rw [this]
  ·try simp only [go_sem, w1]
   exact for_next () (by omega) ⟨rfl, lt_succ_all hall h2⟩ rfl
 ·try simp only [go_sem]
  have h1p := h1; simp only [decide_eq_false_iff_not, Nat.not_lt] at h1p
  refine pure_ret ?_ (.refl _)
  have : l.findIdx? p = none := by
   rw [List.findIdx?_eq_none_iff]
   intro x hx
   obtain ⟨i, hi, rfl⟩ := mem_getD.mp hx
   exact hall i (by omega)
  rw [this]
theorem same1_ok (B : Nat) (s t : List Int) : Pur Tryz.prog B 246 [iL t, .ptr [iL s]] (.bool (dec (s = t))) := by
 refine ⟨fun H0 => c246 (by simp) fun _ => ?_⟩
 unfold s246
 try simp only [go_sem, reduceAdd]
 refine (same_ok ..).go fun _ => ?_
 try simp only [go_sem]
 exact pure_ret rfl (.refl _)
theorem same2_ok (B : Nat) (s t : List Int) : Pur Tryz.prog B 211 [iL t, .ptr [iL s]] (.bool (dec (s = t))) := by
 refine ⟨fun H0 => c211 (by simp) fun _ => ?_⟩
 unfold s211
 try simp only [go_sem, reduceAdd]
 refine (same_ok ..).go fun _ => ?_
 try simp only [go_sem]
 exact pure_ret rfl (.refl _)
theorem cmp2_ok (B : Nat) (s t : List Int) : Pur Tryz.prog B 213 [iL s, iL t] (.int .i64 (cmp s t)) := by
 refine ⟨fun H0 => c213 (by simp) fun _ => ?_⟩
 unfold s213
 try simp only [go_sem, reduceAdd]
 refine (compare_ok ..).go fun _ => ?_
 try simp only [go_sem]
 exact pure_ret rfl (.refl _)
theorem findIdx_same {α : Type} [DecidableEq α] (l : List α) (s : α) : (match l.findIdx? fun t => dec (s = t) with | some i => (i : Int) | none => -1) = indexOf l s := by
 rw [indexOf, List.idxOf?]
 have : (fun t => dec (s = t)) = fun t => t == s := by
  funext t; rw [← decide_dec, Bool.eq_iff_iff, decide_eq_true_eq, beq_iff_eq, eq_comm]
 rw [this]; rfl
theorem indexOf_mem {α : Type} [DecidableEq α] [Inhabited α] (l : List α) (s : α) : 0 ≤ indexOf l s ↔ s ∈ l := by
 constructor
 ·intro h
  apply Classical.byContradiction; intro hn
  rw [indexOf_miss fun i hi e => hn (mem_getD.mpr ⟨i, hi, e⟩)] at h
  omega
 ·intro h
  unfold indexOf
  split
  ·omega
  ·rename_i e; rw [List.idxOf?_eq_none_iff] at e; exact absurd h e
theorem containsFunc_ok (B : Nat) (l : List (List Int)) (s : List Int) : Pur Tryz.prog B 210 [iLL l, .fn (.func 211) [.ptr [iL s]]] (.bool (dec (s ∈ l))) := by
 refine ⟨fun H0 => c210 (by simp) fun _ => ?_⟩
 unfold s210
 try simp only [go_sem, reduceAdd]
 refine (indexFunc_ok B l 211 _ _ fun t _ => (same2_ok B s t).run).go fun _ => ?_
 rw [findIdx_same]
 try simp only [go_sem]
 refine pure_ret ?_ (.refl _)
 congr 1
 rw [decide_dec]; exact dec_congr (indexOf_mem l s)
end Go.Proofs.Shf
namespace Go.Proofs.Shf
open Go.AW Go.Proofs Go.Shf
def OwnK {α : Type} (f : α → AV) (H0 : Heap) (l : List (Nat × MObj)) (Q : List α → Prop) : Kont := fun r H' => ∃ id A, r = .buf id A.length ∧ Owns H0 H' ((id, .cells 1 (A.map f) 0) :: l) ∧ Q A
theorem own_ret {α : Type} {f : α → AV} {H0 H : Heap} {l : List (Nat × MObj)} {Q : List α → Prop} {id n : Nat} {A : List α} (o : Owns H0 H ((id, .cells 1 (A.map f) 0) :: l)) (hn : n = A.length) (hq : Q A) :
  subW (OwnK f H0 l Q) (.buf id n) H := ⟨H, .refl H, id, A, by rw [hn], o, hq⟩
end Go.Proofs.Shf
namespace Go.AW
open Go.Proofs Go.Shf Go.Proofs.Shf
theorem CallH.own {P : Program} {α : Type} {f : α → AV} {B : Nat} {fn : FuncId} {args : List AV} {H0 H : Heap} {l : List (Nat × MObj)} {Q : List α → Prop} {K : Kont} (h : CallH P B fn args H (OwnK f H0 l Q))
  (hk : ∀ id A H', Owns H0 H' ((id, .cells 1 (A.map f) 0) :: l) → Q A → K (.buf id A.length) H') : CallH P B fn args H K :=
 h.mono fun r H' ⟨id, A, e, o, q⟩ => by subst e; exact hk id A H' o q
end Go.AW
namespace Go.Proofs.Shf
open Go.AW Go.Proofs Go.Shf
theorem l01Own_own (B : Nat) (l : List Int) (H0 H : Heap) (r : List (Nat × MObj)) (o : Owns H0 H r) : CallH Tryz.prog B 114 [iL l] H (OwnK iI H0 r (· = l)) := by
 refine c114p (by simp) fun ⟨hf, _⟩ => ?_
 have hl := fine_mL_le hf
 unfold s114p
 try simp only [go_sem, reduceAdd]
 refine new_list iI o fun id H o => ?_
 try simp only [go_sem]
 refine app_list (f := iI) o rfl (by simpa using hl) fun id H o => ?_
 try simp only [go_sem]
 exact own_ret o rfl rfl
theorem clone_own (B : Nat) (l : List Int) (H0 H : Heap) (r : List (Nat × MObj)) (o : Owns H0 H r) : CallH Tryz.prog B 189 [iL l] H (OwnK iI H0 r (· = l)) := by
 refine c189p (by simp) fun ⟨hf, _⟩ => ?_
 have hl := fine_mL_le hf
 unfold s189p
 try simp only [go_sem, reduceAdd]
 refine new_list iI o fun id H o => ?_
 try simp only [go_sem]
 refine app_list (f := iI) o rfl (by simpa using hl) fun id H o => ?_
 try simp only [go_sem]
 exact own_ret o rfl rfl
theorem l25Grow_own (B : Nat) (c : Cat) (hc : c.Is) (x : Int) : ∀ (n : Nat) (s : List Int), missing c x s = n → c.Sieve x s → ∀ (H0 H : Heap) (l : List (Nat × MObj)) (id : Nat) (found : List (List Int)),
  Owns H0 H ((id, .cells 1 (found.map iL) 0) :: l) → found.Nodup → (∀ t, t ∈ found → c.Sieve x t) → found.length ≤ 17 →
  CallH Tryz.prog B 302 [.agg c.cells, iL (outs c x), iL s, .buf id found.length] H (OwnK iL H0 l (GrowQ c x s found)) := by
 intro n
 induction n using Nat.strongRecOn with
 | _ n ih =>
 intro s hn hs H0 H l id found o nd sv le
 refine c302p (by simp) fun ⟨_, hfo, hfs, _⟩ => ?_
 have hlo := fine_mL_le hfo
 have hls := fine_mL_le hfs
 simp only [maxL] at hlo hls
 have hsh := hc.1
 have hm := hsh.m
 unfold s302p
 try simp only [go_sem, reduceAdd]
 refine call_lent 0 rfl o rfl (.int _ _) (l05Place_ok ..).run ?_
 try simp only [go_sem]
 have hix := indexOf_mem found s
 refine ⟨fun h0 => At.mk ?_, fun h0 => At.mk ?_⟩
 rotate_left
 ·try simp only [go_sem, h0]
  have hin := hix.mp (of_decide h0)
  exact own_ret o rfl (GrowQ.stop nd sv le (.inl hin))
 try simp only [go_sem, h0]
 have hin : s ∉ found := fun h => of_ndecide h0 (hix.mpr h)
 refine ⟨fun h1 => At.mk ?_, fun h1 => At.mk ?_⟩
 ·try simp only [go_sem, h1]
  have h1p := h1; simp only [decide_eq_true_eq] at h1p
  exact own_ret o rfl (GrowQ.stop nd sv le (.inr (by omega)))
 try simp only [go_sem, reduceAdd, h1]
 have h1p := h1; simp only [decide_eq_false_iff_not, Int.not_lt] at h1p
 refine app_own s o rfl rfl (by simp only [maxL]; omega) fun id H o => ?_
 try simp only [go_sem]
 refine awp_for [1, 2, 4] (G := Nat × List (List Int)) (fun k g => [(3, some (.buf g.1 g.2.length)), (9, some (.int .i64 (k : Int)))]) (fun k g H => GrowL c x s found k g.2 ∧ Owns H0 H ((g.1, .cells 1 (g.2.map iL) 0) :: l)) (outs c x).length (id, found ++ [s]) ⟨.zero nd sv hs hin (by omega), o⟩ rfl ?_
 rintro k ⟨id, out⟩ H hk ⟨hq, o⟩
 replace hq : GrowL c x s found k out := hq
 replace o : Owns H0 H ((id, .cells 1 (out.map iL) 0) :: l) := o
 try simp only [go_sem]
 refine ⟨fun h2 => At.mk ?_, fun h2 => At.mk ?_⟩
 rotate_left
 ·try simp only [go_sem]
  have h2p := h2; simp only [decide_eq_false_iff_not, Nat.not_lt] at h2p
  exact own_ret o rfl (hq.done (by omega))
 try simp only [go_sem]
 have h2p := h2; simp only [decide_eq_true_eq] at h2p
 have w1 := wsucc (k := k) (by omega)
 have hmem : (outs c x).getD k default ∈ outs c x := mem_getD.mpr ⟨k, h2p, rfl⟩
 refine ⟨h2p, (l01Has_ok ..).go fun _ => ?_⟩
 try simp only [go_sem]
 refine ⟨fun h3 => At.mk ?_, fun h3 => At.mk ?_⟩
 rotate_left
 ·try simp only [go_sem, h3, w1]
  have h3p := h3; simp only [bnf, dect] at h3p
  exact for_next (_, _) (by omega) ⟨hq.skip h2p (add_self hc hs h3p), o⟩ rfl
 try simp only [go_sem, reduceAdd, h3]
 have h3p := h3; simp only [bnt, decf] at h3p
 refine ⟨h2p, (l01Own_own B s H0 H _ o).own ?_⟩
 rintro ida A H oa rfl
 have hAl := hs.len
 try simp only [go_sem]
 refine app_own ((outs c x).getD k default) oa rfl rfl (by simp only [maxL]; omega) fun ida H oa => ?_
 try simp only [go_sem]
 refine call_fz 1 rfl oa rfl fun H o => ?_
 simp only [List.set_cons_succ, List.set_cons_zero]
 have hlA : ∀ b, b ∈ A ++ [(outs c x).getD k default] → 0 ≤ b ∧ b.toNat < c.frm.length := by
  intro b hb
  rcases List.mem_append.mp hb with hb | hb
  ·exact (hs.arr hb).1
  ·rw [List.mem_singleton] at hb; subst hb; have := mem_outs.mp hmem; exact ⟨this.1, this.2.1⟩
 refine (l25Close_ok B c hsh _ hlA).go fun _ => ?_
 try simp only [go_sem]
 refine (ih _ (hn ▸ missing_lt hc hs hmem h3p) _ rfl (add_sieve hc hs hmem) H0 H l id out o hq.nd hq.sv hq.le).own ?_
 rintro id' out' H o q
 try simp only [go_sem, w1]
 exact for_next (_, _) (by omega) ⟨hq.step h2p q, o⟩ rfl
end Go.Proofs.Shf
namespace Go.Proofs.Shf
open Go.AW Go.Proofs Go.Shf
theorem l25Sorted_ok (B : Nat) (l : List (List Int)) (H0 : Heap) : CallH Tryz.prog B 303 [iLL l] H0 (fun r H' => H' = H0 ∧ ∃ M, r = iLL M ∧ M.Perm l ∧ M.Pairwise fun s t => cmp s t ≤ 0) := by
 refine c303 (by simp) fun ⟨hf, _⟩ => ?_
 have hl := fine_mL_le hf
 have hl2 := hl
 simp only [maxL] at hl
 unfold s303
 try simp only [go_sem, reduceAdd]
 refine new_list iL (.nil _) fun id H o => ?_
 try simp only [go_sem]
 refine app_list (f := iL) o rfl (by simpa using hl2) fun id H o => ?_
 rw [List.nil_append] at *
 try simp only [go_sem]
 refine awp_for [3] (fun k _ => [(4, some (.int .i64 ((k + 1 : Nat) : Int)))]) (fun k A H => (A.Perm l ∧ ∀ a b, a < b → b ≤ k → b < l.length → cmp (A.getD a default) (A.getD b default) ≤ 0) ∧ Owns H0 H [(id, .cells 1 (A.map iL) 0)]) l.length l ⟨⟨.refl _, fun a b h1 h2 => by omega⟩, o⟩ rfl ?_
 rintro k A H hk ⟨⟨hp, hs⟩, o⟩
 have hAl := hp.length_eq
 try simp only [go_sem]
 refine ⟨fun h1 => At.mk ?_, fun h1 => At.mk ?_⟩
 ·try simp only [go_sem]
  have h1p := h1; simp only [decide_eq_true_eq] at h1p
  have w1 := wsucc (k := k + 1) (by omega)
  refine awp_while [3, 4] (fun (g : Nat × List (List Int)) => [(5, some (.int .i64 (g.1 : Int)))]) (fun m g H => m = g.1 ∧ SortI l (k + 1) g.1 g.2 ∧ Owns H0 H [(id, .cells 1 (g.2.map iL) 0)]) (k + 1) (k + 1, A)
   ⟨rfl, ⟨hp, Nat.le_refl _, by omega, fun a b h2 h3 h4 => hs a b h2 (by omega) (by omega)⟩, o⟩ rfl ?_
  rintro j ⟨j', A⟩ H ⟨hj, hI, o⟩
  obtain rfl : j = j' := hj
  replace hI : SortI l (k + 1) j A := hI
  have hIl := hI.le
  have hIt := hI.lt
  have hIp := hI.pm.length_eq
  replace o : Owns H0 H [(id, .cells 1 (A.map iL) 0)] := o
  try simp only [go_sem]
  refine ⟨fun h2 => At.mk ?_, fun h2 => At.mk ?_⟩
  ·try simp only [go_sem, h2]
   have h2p := h2; simp only [decide_eq_true_eq] at h2p
   obtain ⟨j, rfl⟩ : ∃ i, j = i + 1 := ⟨j - 1, by omega⟩
   have w2 := wpred (k := j + 1) (by omega) (by omega)
   rw [Nat.add_sub_cancel] at w2
   refine ⟨by omega, rd_own o (by omega) ?_⟩
   try simp only [go_sem, w2]
   refine ⟨by omega, rd_own o (by omega) ?_⟩
   try simp only [go_sem]
   refine ⟨_, (l01Less_ok ..).run, ?_⟩
   try simp only [go_sem]
   refine ⟨fun h3 => At.mk ?_, fun h3 => At.mk ?_⟩
   ·try simp only [go_sem]
    have h3p := h3; simp only [dect] at h3p
    refine ⟨by omega, rd_own o (by omega) ?_⟩
    try simp only [go_sem, w2]
    refine ⟨by omega, rd_own o (by omega) ?_⟩
    try simp only [go_sem]
    refine ⟨by omega, set_own (A.getD j default) o rfl (by omega) fun H o => ?_⟩
    try simp only [go_sem, w2]
    refine ⟨by omega, set_own (A.getD (j + 1) default) o rfl (by rw [List.length_set]; omega) fun H o => ?_⟩
    try simp only [go_sem, w2]
    exact while_next j (j, _) (by omega) ⟨rfl, hI.swap h3p, o⟩ rfl
   ·try simp only [go_sem, w1]
    have h3p := h3; simp only [decf, Int.not_lt] at h3p
    exact for_next A (by omega) ⟨⟨hI.pm, fun a b h4 h5 h6 => hI.stop (.inr ⟨by omega, by simpa using h3p⟩) a b h4 (by omega)⟩, o⟩ rfl
  ·try simp only [go_sem, h2, w1]
   have h2p := h2; simp only [decide_eq_false_iff_not, Int.not_lt] at h2p
   exact for_next A (by omega) ⟨⟨hI.pm, fun a b h4 h5 h6 => hI.stop (.inl (by omega)) a b h4 (by omega)⟩, o⟩ rfl
 ·try simp only [go_sem]
  have h1p := h1; simp only [decide_eq_false_iff_not, Nat.not_lt] at h1p
  rw [← hAl]
  refine fz_own o rfl fun H o => ?_
  try simp only [go_sem]
  exact ⟨_, o.sub, rfl, A, rfl, hp, sorted_getD fun a b h2 h3 => hs a b h2 (by omega) (by omega)⟩
theorem l25All_ok (B : Nat) (c : Cat) (hc : c.Is) (x : Int) (H0 : Heap) : CallH Tryz.prog B 248 [.agg c.cells, .int .i64 x] H0 (fun r H' => H' = H0 ∧ ∃ L, r = .tup [iLL L, .bool (dec (Few c x))] ∧ (Few c x → L = allS c x)) := by
 refine c248p (by simp) fun _ => ?_
 have hs := hc.1
 have hm := hs.m
 unfold s248p
 try simp only [go_sem, reduceAdd]
 refine ⟨_, (l25Out_ok ..).run, ?_⟩
 refine new_list iL (.nil _) fun id H o => ?_
 try simp only [go_sem]
 refine (l25Grow_own B c hc x _ [] rfl (nil_sieve x) H0 H _ id [] o (by simp) (by simp) (by simp)).own ?_
 rintro id L H o q
 try simp only [go_sem]
 refine fz_own o rfl fun H o => ?_
 try simp only [go_sem]
 refine (l25Sorted_ok ..).mono ?_
 rintro r H' ⟨rfl, M, rfl, hp, hso⟩
 try simp only [go_sem]
 have ha := all_of_grow hc q.nd q.sv hp hso (q.all.imp_right fun ⟨h1, h2⟩ => ⟨h1, fun t ht => h2 t ht (by simp)⟩)
 refine ⟨_, o.sub, rfl, M, ?_, ha.2⟩
 congr 3
 rw [← ha.1, ← decide_dec]
 congr 1; rw [Bool.eq_iff_iff]; simp only [decide_eq_true_eq]; omega
end Go.Proofs.Shf
namespace Go.Proofs.Shf
open Go.AW Go.Proofs Go.Shf
theorem l25Lists_ok (B : Nat) (c : Cat) (hc : c.Is) : Pur Tryz.prog B 129 [.agg c.cells] (.tup [iLLL (tabS c), .bool (dec (AllFew c))]) := by
 refine ⟨fun H0 => c129 (by simp) fun ⟨_, _⟩ => ?_⟩
 have hs := hc.1
 have hm := hs.m
 have hob := hs.o
 unfold s129
 try simp only [go_sem, reduceAdd]
 refine new_list iLL (.nil _) fun id H o => ?_
 try simp only [go_sem]
 refine awp_for [1] (G := Nat × List (List (List Int))) (fun k g => [(4, some (.buf g.1 g.2.length)), (5, some (.int .i64 (k : Int)))]) (fun k g H => (g.2 = ((List.range k).map fun x : Nat => allS c (x : Int)) ∧ ∀ x, x < k → Few c x) ∧ Owns H0 H [(g.1, .cells 1 (g.2.map iLL) 0)]) c.objs.toNat (id, []) ⟨⟨by simp, by simp⟩, o⟩ rfl ?_
 rintro k ⟨id, out⟩ H hk ⟨hout, o⟩
 replace hout : out = ((List.range k).map fun x : Nat => allS c (x : Int)) ∧ ∀ x, x < k → Few c x := hout
 try simp only [go_sem, reduceAdd, reduceLeDiff]
 refine ⟨fun h1 => At.mk ?_, fun h1 => At.mk ?_⟩
 ·have h1 := of_decide h1
  have w1 := wsucc (k := k) (by omega)
  try simp only [go_sem, reduceAdd]
  refine (l25All_ok B c hc k H).mono ?_
  rintro r H' ⟨rfl, L, rfl, hL⟩
  try simp only [go_sem, reduceAdd, reduceLT]
  refine ⟨fun h2 => At.mk ?_, fun h2 => At.mk ?_⟩
  ·try simp only [go_sem]
   have h2p := h2; simp only [bnt, decf] at h2p
   have hno : ¬ AllFew c := fun h => h2p (h k (by omega))
   exact pure_ret (by rw [tabS_f hno, dec_f hno]; rfl) o.sub
  ·try simp only [go_sem, reduceAdd]
   have h2p := h2; simp only [bnf, dect] at h2p
   refine app_own (allS c k) o (by rw [hL h2p]) rfl (by simp only [maxL]; rw [hout.1]; simp; omega) fun id H o => ?_
   try simp only [go_sem, w1]
   exact for_next (_, _) (by omega) ⟨⟨by rw [hout.1, map_range_succ], lt_succ_all hout.2 h2p⟩, o⟩ rfl
 ·try simp only [go_sem]
  have h1 := of_ndecide h1
  refine fz_own o rfl fun H o => ?_
  try simp only [go_sem]
  exact pure_ret (by have hall : AllFew c := fun x hx => hout.2 x (by omega); rw [tabS_t hall, dec_t hall, hout.1, show k = c.objs.toNat by omega]; rfl) o.sub
end Go.Proofs.Shf
namespace Go.AW
open Go.Proofs Go.Shf Go.Proofs.Shf
theorem Owns.rc {H0 H : Heap} {l : List (Nat × MObj)} {id sz fr : Nat} {cs : List AV} (o : Owns H0 H ((id, .cells sz cs fr) :: l)) (n off : Nat) (h : off + n ≤ cs.length) : rc1 (some n) off (H.get id) = some (.agg ((cs.drop off).take n)) := by
 have h0 := o.h0
 simp only at h0
 rw [h0, rc1_n, if_pos h]
end Go.AW
namespace Go.Proofs.Shf
open Go.AW Go.Proofs Go.Shf
theorem l25Make_ok (B : Nat) (c : Cat) (hs : c.Shape) (L : List (List (List Int))) (hL : (L.length : Int) = c.objs) : Pur Tryz.prog B 132 [.agg c.cells, iLLL L] (.agg (c.cells ++ [iL (L.map fun l => (l.length : Int)), iLL (pullsOf c L)])) := by
 refine ⟨fun H0 => c132p (by simp) fun ⟨_, hfL, _⟩ => ?_⟩
 have hm := hs.m
 have hob := hs.o
 have htl := hs.tol
 unfold s132p
 try simp only [go_sem, reduceAdd]
 refine ⟨by simp [maxL], newRef_own (.nil _) fun id4 H o => ?_⟩
 try simp only [go_sem, reduceAdd]
 refine (l02Own_ok ..).go fun _ => ?_
 try simp only [go_sem, reduceAdd, reduceLeDiff]
 refine ⟨by simp [maxL], newRef_own o fun id5 H o => ?_⟩
 try simp only [go_sem]
 refine st_cells o (by simp) rfl (by simp only [memcons, memnil]; exact ⟨rfl, rfl, rfl, rfl, rfl, rfl, rfl, trivial⟩) fun H o => ?_
 simp only [wr_cons, wr_nil, List.set_cons_zero, List.set_cons_succ] at o
 try simp only [go_sem]
 have hfl := fine_mL_le hfL
 simp only [maxL] at hfl
 refine awp_for [1, 2, 4, 5] (fun k _ => [(6, some (.int .i64 (k : Int)))]) (fun k X H => LsO iI H0 H ((id5, .cells 7 [iI c.objs, iL c.frm, iL c.to, iL c.idn, iLL c.comp, X, .nilsl] 0) ::
  [(id4, .cells 7 [.int .i64 0, .nilsl, .nilsl, .nilsl, .nilsl, .nilsl, .nilsl] 0)]) X ((L.take k).map fun l => (l.length : Int))) L.length .nilsl (.inl ⟨rfl, rfl, o⟩) rfl ?_
 rintro k X H hk hX
 try simp only [go_sem]
 refine ⟨fun h1 => At.mk ?_, fun h1 => At.mk ?_⟩
 ·try simp only [go_sem, reduceAdd]
  have h1p := h1; simp only [decide_eq_true_eq] at h1p
  have w1 := wsucc (k := k) (by omega)
  refine rd_get hX.obj (by simp) ?_
  try simp only [go_sem, reduceAdd]
  refine ⟨h1p, ?_⟩
  refine hX.app ((L.getD k default).length : Int) rfl (by rw [List.length_map, List.length_take]; simp only [maxL]; omega) fun id H o => ?_
  try simp only [go_sem, reduceAdd]
  refine st_cells o.swap (by simp) rfl (by simp only [memcons, memnil]; exact ⟨rfl, trivial⟩) fun H o => ?_
  simp only [wr_cons, wr_nil, List.set_cons_zero, List.set_cons_succ] at o
  try simp only [go_sem, w1]
  exact for_next _ (by omega) (.inr ⟨id, rfl, by rw [take_map_succ L _ h1p]; exact o.swap⟩) rfl
 ·try simp only [go_sem]
  have h1p := h1; simp only [decide_eq_false_iff_not, Nat.not_lt] at h1p
  obtain rfl : k = L.length := by omega
  rw [List.take_length] at hX
  refine wk_ls 5 hX rfl fun H o => wkW_done ?_
  simp only [List.set_cons_zero, List.set_cons_succ] at o
  clear hX
  try simp only [go_sem]
  refine awp_for [1, 2, 4, 5] (fun k _ => [(7, some (.int .i64 (k : Int)))]) (fun k Y H => LsO iL H0 H ((id5, .cells 7 [iI c.objs, iL c.frm, iL c.to, iL c.idn, iLL c.comp, iL (L.map fun l => (l.length : Int)), Y] 0) ::
   [(id4, .cells 7 [.int .i64 0, .nilsl, .nilsl, .nilsl, .nilsl, .nilsl, .nilsl] 0)]) Y ((List.range k).map (rowP c L))) c.frm.length .nilsl (.inl ⟨rfl, rfl, o⟩) rfl ?_
  rintro k Y H hk hY
  try simp only [go_sem, reduceAdd, reduceLeDiff]
  refine ⟨fun h2 => At.mk ?_, fun h2 => At.mk ?_⟩
  ·try simp only [go_sem]
   have h2p := h2; simp only [decide_eq_true_eq] at h2p
   have w1 := wsucc (k := k) (by omega)
   have hf := hs.frm' h2p
   have ht := hs.to' h2p
   have hil := hs.il
   obtain ⟨p, o, hp⟩ := hY.split
   clear hY
   refine new_list iI o fun idr H o => ?_
   try simp only [go_sem]
   generalize hLf : L.getD (c.frm.getD k default).toNat default = Lf at *
   have hLL : Lf.length ≤ maxL := by
    rw [← hLf]; exact fine_mL_le (fine_mL_ix (i := c.frm.getD k default) hfL (by omega))
   simp only [maxL] at hLL
   refine awp_for [1, 2, 4, 5, 7] (G := Nat × List Int) (fun j g => [(8, some (.buf g.1 g.2.length)), (9, some (.int .i64 (j : Int)))])
    (fun j g H => g.2 = ((Lf.take j).map fun s => indexOf (L.getD (c.to.getD k default).toNat default) (pullS c k s)) ∧ Owns H0 H ((g.1, .cells 1 (g.2.map iI) 0) :: (p ++ [(id5, .cells 7 [iI c.objs, iL c.frm, iL c.to, iL c.idn, iLL c.comp, iL (L.map fun l => (l.length : Int)), Y] 0), (id4, .cells 7 [.int .i64 0, .nilsl, .nilsl, .nilsl, .nilsl, .nilsl, .nilsl] 0)]))) Lf.length (idr, []) ⟨by simp, o⟩ rfl ?_
   rintro j ⟨idr, row⟩ H hj ⟨hrow, o⟩
   replace hrow : row = ((Lf.take j).map fun s => indexOf (L.getD (c.to.getD k default).toNat default) (pullS c k s)) := hrow
   have hrl : row.length ≤ j := by rw [hrow]; simp; omega
   try simp only [go_sem, reduceAdd, reduceLeDiff]
   refine ⟨h2p, ⟨hf.1, by omega⟩, ?_⟩
   have hix : ix L (c.frm.getD k default) = Lf := by rw [← hLf]; rfl
   rw [hix]
   refine ⟨fun h3 => At.mk ?_, fun h3 => At.mk ?_⟩
   ·try simp only [go_sem, reduceAdd, reduceLeDiff]
    have h3p := h3; simp only [decide_eq_true_eq] at h3p
    have w3 := wsucc (k := j) (by omega)
    refine ⟨by omega, ⟨ht.1, by omega⟩, h2p, ⟨hf.1, by omega⟩, ?_⟩
    rw [hix]
    refine ⟨h3p, _, (l25Pull_ok B c hs k ⟨by omega, by simpa using h2p⟩ _).run, ?_⟩
    refine ⟨_, (l05Place_ok ..).run, ?_⟩
    try simp only [go_sem, reduceAdd]
    refine app_own _ o rfl rfl (by simp only [maxL]; omega) fun idr H o => ?_
    try simp only [go_sem, w3]
    exact for_next (_, _) (by omega) ⟨by rw [take_map_succ Lf _ h3p, hrow]; rfl, o⟩ rfl
   ·try simp only [go_sem]
    have h3p := h3; simp only [decide_eq_false_iff_not, Nat.not_lt] at h3p
    refine fz_own o rfl fun H o => ?_
    have hY := LsO.mk o hp
    have hg := hY.obj
    try simp only [go_sem, reduceAdd]
    refine rd_get hg (by simp) ?_
    try simp only [go_sem, reduceAdd]
    refine hY.app row rfl (by simp only [maxL]; simp; omega) fun id H o => ?_
    try simp only [go_sem, reduceAdd]
    refine st_cells o.swap (by simp) rfl (by simp only [memcons, memnil]; exact ⟨rfl, trivial⟩) fun H o => ?_
    simp only [wr_cons, wr_nil, List.set_cons_zero, List.set_cons_succ] at o
    try simp only [go_sem, w1]
    refine for_next _ (by omega) (.inr ⟨id, rfl, ?_⟩) rfl
    have e : row = rowP c L k := by rw [hrow, show j = Lf.length by omega, List.take_length, rowP, hLf]
    rw [map_range_succ, ← e]; exact o.swap
  ·try simp only [go_sem]
   have h2p := h2; simp only [decide_eq_false_iff_not, Nat.not_lt] at h2p
   obtain rfl : k = c.frm.length := by omega
   refine wk_ls 6 hY rfl fun H o => wkW_done ?_
   simp only [List.set_cons_zero, List.set_cons_succ] at o
   clear hY
   try simp only [go_sem]
   refine rd_celln o (by simp) ?_
   try simp only [go_sem]
   refine st_cells o.swap (by simp) rfl (by simp only [memcons, memnil]; exact ⟨rfl, rfl, rfl, rfl, rfl, rfl, rfl, trivial⟩) fun H o => ?_
   simp only [wr_cons, wr_nil, List.set_cons_zero, List.set_cons_succ] at o
   try simp only [go_sem]
   rw [o.rc 7 0 (by simp)]
   try simp only [go_sem]
   exact pure_ret rfl o.sub
end Go.Proofs.Shf
namespace Go.Proofs.Shf
open Go.AW Go.Proofs Go.Shf
end Go.Proofs.Shf
namespace Go.Proofs.Shf
open Go.AW Go.Proofs Go.Shf
end Go.Proofs.Shf
namespace Go.Proofs.Shf
open Go.AW Go.Proofs Go.Shf
end Go.Proofs.Shf
namespace Go.Proofs.Shf
open Go.AW Go.Proofs Go.Shf
theorem l19Shape_ok (B : Nat) (f : SF) : Pur Tryz.prog B 179 [.agg f.cells] (.bool (dec f.Shape)) := by
 refine ⟨fun H0 => c179 (by simp) fun ⟨hf, _⟩ => ?_⟩
 have hl := fine_mL_le (hf.agg (c := iL f.sizes) (by simp [SF.cells]))
 have hl2 := fine_mL_le (hf.agg (c := iLL f.acts) (by simp [SF.cells]))
 simp only [maxL] at hl hl2
 unfold s179
 try simp only [go_sem, reduceAdd, reduceLeDiff]
 refine (l02Is_ok B f.shape).go fun _ => ?_
 try simp only [go_sem]
 refine ⟨fun h1 => At.mk ?_, fun h1 => At.mk ?_⟩
 rotate_left
 ·try simp only [go_sem, h1]
  have h1p := h1; simp only [bnt, decf] at h1p
  exact pure_ret (by rw [dec_f]; intro s; exact h1p s.is) (.refl _)
 try simp only [go_sem, reduceAdd, reduceLeDiff, h1]
 have h1p := h1; simp only [bnf, dect] at h1p
 have hs := h1p.1
 have htl := hs.tol
 refine ⟨fun h2 => At.mk ?_, fun h2 => At.mk ?_⟩
 rotate_left
 ·try simp only [go_sem, h2]
  have h2p := h2; simp only [bnt, decide_eq_false_iff_not] at h2p
  exact pure_ret (by rw [dec_f]; intro s; exact h2p s.sl) (.refl _)
 try simp only [go_sem, reduceAdd, reduceLeDiff, h2]
 have h2p := h2; simp only [bnf, decide_eq_true_eq] at h2p
 refine ⟨fun h3 => At.mk ?_, fun h3 => At.mk ?_⟩
 ·try simp only [go_sem, h3]
  have h3p := h3; simp only [bnt, decide_eq_false_iff_not] at h3p
  exact pure_ret (by rw [dec_f]; intro s; exact h3p s.al) (.refl _)
 try simp only [go_sem, h3]
 have h3p := h3; simp only [bnf, decide_eq_true_eq] at h3p
 refine awp_for [1] (fun k _ => [(3, some (.int .i64 (k : Int)))]) (fun k _ H => H = H0 ∧ ∀ x, x < k → 0 ≤ f.sizes.getD x default ∧ f.sizes.getD x default < 17) f.sizes.length () ⟨rfl, by simp⟩ rfl ?_
 rintro x _ H hx ⟨rfl, hall⟩
 try simp only [go_sem, reduceAdd, reduceLeDiff]
 refine ⟨fun g1 => At.mk ?_, fun g1 => At.mk ?_⟩
 ·have g1p := g1; simp only [decide_eq_true_eq] at g1p
  have wx := wsucc (k := x) (by omega)
  try simp only [go_sem, reduceAdd, reduceLeDiff]
  refine ⟨g1p, (l01In_ok ..).go fun _ => ?_⟩
  try simp only [go_sem]
  refine ⟨fun g2 => At.mk ?_, fun g2 => At.mk ?_⟩
  ·try simp only [go_sem]
   have g2p := g2; simp only [bnt, decf] at g2p
   exact pure_ret (by rw [dec_f]; intro s; have := s.sz _ (mem_getD.mpr ⟨x, g1p, rfl⟩); omega) (.refl _)
  ·try simp only [go_sem, wx]
   have g2p := g2; simp only [bnf, dect] at g2p
   exact for_next () g1p ⟨rfl, lt_succ_all hall (by omega)⟩ rfl
 have g1p := g1; simp only [decide_eq_false_iff_not, Nat.not_lt] at g1p
 have hsz : ∀ y, y ∈ f.sizes → 0 ≤ y ∧ y < 17 := all_getD.mpr fun i hi => hall i (by omega)
 try simp only [go_sem]
 refine awp_for [1] (fun k _ => [(4, some (.int .i64 (k : Int)))]) (fun k _ H' => H' = H ∧ ∀ a, a < k → ((f.acts.getD a default).length : Int) = ix f.sizes (f.shape.frm.getD a default) ∧
  ∀ y, y ∈ f.acts.getD a default → 0 ≤ y ∧ y < ix f.sizes (f.shape.to.getD a default)) f.acts.length () ⟨rfl, by simp⟩ rfl ?_
 rintro a _ H' ha ⟨rfl, hact⟩
 try simp only [go_sem, reduceAdd, reduceLeDiff]
 refine ⟨fun g2 => At.mk ?_, fun g2 => At.mk ?_⟩
 rotate_left
 ·try simp only [go_sem]
  have g2p := g2; simp only [decide_eq_false_iff_not, Nat.not_lt] at g2p
  exact pure_ret (by rw [dec_t]; exact ⟨h1p, h2p, h3p, hsz, fun a h => hact a (by omega)⟩) (.refl _)
 have g2p := g2; simp only [decide_eq_true_eq] at g2p
 have wa := wsucc (k := a) (by omega)
 have haf : a < f.shape.frm.length := by omega
 have f1 := hs.frm' haf
 have f2 := hs.to' haf
 have hil := hs.il
 try simp only [go_sem, reduceAdd, reduceLeDiff]
 refine ⟨g2p, haf, ⟨f1.1, by omega⟩, ?_⟩
 refine ⟨fun g3 => At.mk ?_, fun g3 => At.mk ?_⟩
 rotate_left
 ·try simp only [go_sem, g3]
  have g3p := g3; simp only [bnt, decide_eq_false_iff_not] at g3p
  exact pure_ret (by rw [dec_f]; intro s; exact g3p (s.act a g2p).1) (.refl _)
 try simp only [go_sem, reduceAdd, reduceLeDiff, g3]
 have g3p := g3; simp only [bnf, decide_eq_true_eq] at g3p
 refine ⟨by omega, ⟨f2.1, by omega⟩, g2p, _, (l01Map_ok ..).run, ?_⟩
 try simp only [go_sem]
 refine ⟨fun g4 => At.mk ?_, fun g4 => At.mk ?_⟩
 ·try simp only [go_sem]
  have g4p := g4; simp only [bnt, decf] at g4p
  exact pure_ret (by rw [dec_f]; intro s; exact g4p (s.act a g2p).2) (.refl _)
 ·try simp only [go_sem, wa]
  have g4p := g4; simp only [bnf, dect] at g4p
  exact for_next () g2p ⟨rfl, lt_succ_all hact ⟨g3p, g4p⟩⟩ rfl
theorem sfIsShape_ok (B : Nat) (f : SF) : Pur Tryz.prog B 175 [.ptr f.cells] (.bool (dec f.Shape)) := by
 refine ⟨fun H0 => c175 (by simp) fun ⟨hf, _⟩ => ?_⟩
 have hl := fine_mL_le (hf.ptr (c := iL f.sizes) (by simp [SF.cells]))
 have hl2 := fine_mL_le (hf.ptr (c := iLL f.acts) (by simp [SF.cells]))
 simp only [maxL] at hl hl2
 unfold s175
 try simp only [go_sem, reduceAdd, reduceLeDiff]
 refine ⟨_, (isCategory_ok B f.shape).run, ?_⟩
 try simp only [go_sem]
 refine ⟨fun h1 => At.mk ?_, fun h1 => At.mk ?_⟩
 rotate_left
 ·try simp only [go_sem, h1]
  have h1p := h1; simp only [bnt, decf] at h1p
  exact pure_ret (by rw [dec_f]; intro s; exact h1p s.is) (.refl _)
 try simp only [go_sem, reduceAdd, reduceLeDiff, h1]
 have h1p := h1; simp only [bnf, dect] at h1p
 have hs := h1p.1
 have htl := hs.tol
 refine ⟨fun h2 => At.mk ?_, fun h2 => At.mk ?_⟩
 rotate_left
 ·try simp only [go_sem, h2]
  have h2p := h2; simp only [bnt, decide_eq_false_iff_not] at h2p
  exact pure_ret (by rw [dec_f]; intro s; exact h2p s.sl) (.refl _)
 try simp only [go_sem, reduceAdd, reduceLeDiff, h2]
 have h2p := h2; simp only [bnf, decide_eq_true_eq] at h2p
 refine ⟨_, (within_ok B f.sizes 17 (by omega)).run, ?_⟩
 try simp only [go_sem]
 refine ⟨fun h3 => At.mk ?_, fun h3 => At.mk ?_⟩
 rotate_left
 ·try simp only [go_sem, h3]
  have h3p := h3; simp only [bnt, decf] at h3p
  exact pure_ret (by rw [dec_f]; intro s; exact h3p s.sz) (.refl _)
 try simp only [go_sem, reduceAdd, reduceLeDiff, h3]
 have h3p := h3; simp only [bnf, dect] at h3p
 refine ⟨_, (arrows_ok B f.shape).run, ?_⟩
 try simp only [go_sem]
 refine ⟨fun h4 => At.mk ?_, fun h4 => At.mk ?_⟩
 ·try simp only [go_sem, h4]
  have h4p := h4; simp only [bnt, decide_eq_false_iff_not] at h4p
  exact pure_ret (by rw [dec_f]; intro s; exact h4p s.al) (.refl _)
 try simp only [go_sem, reduceAdd, reduceLeDiff, h4]
 have h4p := h4; simp only [bnf, decide_eq_true_eq] at h4p
 refine awp_for [0, 3, 45, 46] (fun k _ => [(47, some (.int .i64 (k : Int)))]) (fun k _ H' => H' = H0 ∧ ∀ a, a < k → ((f.acts.getD a default).length : Int) = ix f.sizes (f.shape.frm.getD a default) ∧
  ∀ y, y ∈ f.acts.getD a default → 0 ≤ y ∧ y < ix f.sizes (f.shape.to.getD a default)) f.acts.length () ⟨rfl, by simp⟩ rfl ?_
 rintro a _ H' ha ⟨rfl, hact⟩
 try simp only [go_sem]
 refine ⟨fun g2 => At.mk ?_, fun g2 => At.mk ?_⟩
 rotate_left
 ·try simp only [go_sem]
  have g2p := g2; simp only [decide_eq_false_iff_not, Nat.not_lt] at g2p
  exact pure_ret (by rw [dec_t]; exact ⟨h1p, h2p, h4p, h3p, fun a h => hact a (by omega)⟩) (.refl _)
 have g2p := g2; simp only [decide_eq_true_eq] at g2p
 have wa := wsucc (k := a) (by omega)
 have haf : a < f.shape.frm.length := by omega
 have f1 := hs.frm' haf
 have f2 := hs.to' haf
 have hil := hs.il
 have hto := h3p _ (ix_mem (l := f.sizes) (i := f.shape.to.getD a default) (by omega))
 try simp only [go_sem, reduceAdd, reduceLeDiff]
 refine ⟨g2p, haf, ⟨f1.1, by omega⟩, by omega, ⟨f2.1, by omega⟩, _, (isMapOf_ok B _ _ _ (by omega)).run, ?_⟩
 try simp only [go_sem]
 refine ⟨fun g4 => At.mk ?_, fun g4 => At.mk ?_⟩
 ·try simp only [go_sem]
  have g4p := g4; simp only [bnt, decf] at g4p
  exact pure_ret (by rw [dec_f]; intro s; exact g4p (s.act a g2p)) (.refl _)
 ·try simp only [go_sem, wa]
  have g4p := g4; simp only [bnf, dect] at g4p
  exact for_next () g2p ⟨rfl, lt_succ_all hact g4p⟩ rfl
end Go.Proofs.Shf
namespace Go.Proofs.Shf
open Go.AW Go.Proofs Go.Shf
theorem l19Fault_ok (B : Nat) (f : SF) (s : f.Shape) (H0 : Heap) : CallH Tryz.prog B 180 [.agg f.cells] H0 (faultK f.Laws H0) := by
 refine c180 (by simp) fun ⟨hf, _⟩ => ?_
 have hs := s.is.1
 have hm := hs.m
 have hcl := hs.cl
 have htl := hs.tol
 have hil := hs.il
 have hal := s.al
 have hsl := s.sl
 have hob := hs.o
 unfold s180
 try simp only [go_sem, reduceAdd, reduceLeDiff]
 refine ⟨by simp [maxL], fun i1 n1 => ?_⟩
 try simp only [go_sem, reduceAdd, reduceLeDiff]
 generalize hH : ((H0.set i1 _).set i1 _) = H1
 have hg : H1.get i1 = some (.cells 5 [iI f.shape.objs, iL f.shape.frm, iL f.shape.to, iL f.shape.idn, iLL f.shape.comp] 0) := by rw [← hH]; simp
 have hsub : H0.sub H1 := by rw [← hH]; exact sub_set (sub_set (.refl _) n1) n1
 clear hH
 refine awp_for [1, 6] (fun k _ => [(7, some (.int .i64 (k : Int)))]) (fun k _ H => H = H1 ∧ ∀ x, x < k → ∀ e : Nat, e < (ix f.acts (f.shape.idn.getD x default)).length → (ix f.acts (f.shape.idn.getD x default)).getD e default = e) f.shape.idn.length () ⟨rfl, by simp⟩ rfl ?_
 rintro x _ H hx ⟨rfl, hall⟩
 try simp only [go_sem, reduceAdd, reduceLT, hg]
 refine ⟨fun g1 => At.mk ?_, fun g1 => At.mk ?_⟩
 ·have g1p := g1; simp only [decide_eq_true_eq] at g1p
  have hxi : x < f.shape.idn.length := by omega
  have wx := wsucc (k := x) (by omega)
  have hid := hs.idn _ (mem_getD.mpr ⟨x, hxi, rfl⟩)
  have hlen := s.idLen hxi
  try simp only [go_sem, hg]
  refine awp_for [1, 6, 7] (fun k _ => [(8, some (.int .i64 (k : Int)))]) (fun k _ H' => H' = H ∧ ∀ e : Nat, e < k → (ix f.acts (f.shape.idn.getD x default)).getD e default = e) (ix f.acts (f.shape.idn.getD x default)).length () ⟨rfl, by simp⟩ rfl ?_
  rintro e _ H' he ⟨rfl, hall2⟩
  try simp only [go_sem, reduceAdd, reduceLeDiff, hg]
  refine ⟨by omega, ?_⟩
  refine ⟨fun g2 => At.mk ?_, fun g2 => At.mk ?_⟩
  rotate_left
  ·try simp only [go_sem, wx]
   have g2p := g2; simp only [decide_eq_false_iff_not, Int.not_lt] at g2p
   exact for_next () hxi ⟨rfl, lt_succ_all hall fun e he => hall2 e (by omega)⟩ rfl
  have g2p := g2; simp only [decide_eq_true_eq] at g2p
  have hel : e < (ix f.acts (f.shape.idn.getD x default)).length := by omega
  have hz : f.sizes.getD x default < 17 := (s.sz _ (mem_getD.mpr ⟨x, by omega, rfl⟩)).2
  have we := wsucc (k := e) (by omega)
  try simp only [go_sem, reduceAdd, reduceLeDiff, reduceLT, hg]
  refine ⟨hxi, ⟨hid.1, by omega⟩, hel, ?_⟩
  refine ⟨fun g3 => At.mk ?_, fun g3 => At.mk ?_⟩
  ·try simp only [go_sem]
   have g3p := g3; simp only [bnt, decide_eq_false_iff_not] at g3p
   exact fault_ret (by constructor; (intro h; cases h); intro l; exact absurd (l.idl x hxi e hel) g3p) hsub
  ·try simp only [go_sem, we]
   have g3p := g3; simp only [bnf, decide_eq_true_eq] at g3p
   exact for_next () hel ⟨rfl, lt_succ_all hall2 g3p⟩ rfl
 have g1p := g1; simp only [decide_eq_false_iff_not, Int.not_lt] at g1p
 have hidl : ∀ x : Nat, x < f.shape.idn.length → ∀ e : Nat, e < (ix f.acts (f.shape.idn.getD x default)).length → (ix f.acts (f.shape.idn.getD x default)).getD e default = e := fun x hx => hall x (by omega)
 try simp only [go_sem]
 refine awp_for [1, 6] (fun k _ => [(9, some (.int .i64 (k : Int)))]) (fun k _ H' => H' = H ∧ ∀ a, a < k → ∀ b, b < f.shape.frm.length → f.CompAt a b) f.shape.frm.length () ⟨rfl, by simp⟩ rfl ?_
 rintro a _ H' ha ⟨rfl, hA⟩
 try simp only [go_sem, reduceAdd, reduceLT, hg]
 refine ⟨fun g1 => At.mk ?_, fun g1 => At.mk ?_⟩
 rotate_left
 ·try simp only [go_sem]
  have g1p := g1; simp only [decide_eq_false_iff_not, Nat.not_lt] at g1p
  exact fault_ret (by simp only [true_iff]; exact ⟨hidl, fun a b ha hb => hA a (by omega) b hb⟩) hsub
 have g1p := g1; simp only [decide_eq_true_eq] at g1p
 have wa := wsucc (k := a) (by omega)
 have ra := hs.row a g1p
 have fa := hs.frm' g1p
 have la := s.actLen (a := (a : Int)) (by omega)
 rw [ix_nat2, ix_nat2] at la
 have za := s.sz _ (ix_mem (l := f.sizes) (i := f.shape.frm.getD a default) (by omega))
 try simp only [go_sem, hg]
 refine awp_for [1, 6, 9] (fun k _ => [(10, some (.int .i64 (k : Int)))]) (fun k _ H => H = H' ∧ ∀ b, b < k → f.CompAt a b) f.shape.frm.length () ⟨rfl, by simp⟩ rfl ?_
 rintro b _ H hb ⟨rfl, hB⟩
 try simp only [go_sem, reduceAdd, reduceLT, hg]
 refine ⟨fun g2 => At.mk ?_, fun g2 => At.mk ?_⟩
 rotate_left
 ·try simp only [go_sem, wa]
  have g2p := g2; simp only [decide_eq_false_iff_not, Nat.not_lt] at g2p
  exact for_next () g1p ⟨rfl, lt_succ_all hA fun b hb => hB b (by omega)⟩ rfl
 have g2p := g2; simp only [decide_eq_true_eq] at g2p
 have wb := wsucc (k := b) (by omega)
 try simp only [go_sem, reduceAdd, reduceLT, hg]
 refine ⟨by omega, g2p, ?_⟩
 refine ⟨fun g3 => At.mk ?_, fun g3 => At.mk ?_⟩
 ·try simp only [go_sem, wb]
  have g3p := g3; simp only [bnt, decide_eq_false_iff_not] at g3p
  exact for_next () g2p ⟨rfl, lt_succ_all hB fun e => absurd e g3p⟩ rfl
 have g3p := g3; simp only [bnf, decide_eq_true_eq] at g3p
 have hy := hs.yes a b g1p g2p g3p
 have lc := s.actLen (a := (f.shape.comp.getD a default).getD b default) (by omega)
 rw [hy.2.1] at lc
 have lb := s.actLen (a := (b : Int)) (by omega)
 rw [ix_nat2, ix_nat2] at lb
 try simp only [go_sem, hg]
 refine awp_for [1, 6, 9, 10] (fun k _ => [(11, some (.int .i64 (k : Int)))]) (fun k _ H' => H' = H ∧ ∀ e : Nat, e < k →
  (ix f.acts ((f.shape.comp.getD a default).getD b default)).getD e default = ix (f.acts.getD b default) ((f.acts.getD a default).getD e default)) (f.acts.getD a default).length () ⟨rfl, by simp⟩ rfl ?_
 rintro e _ H' he ⟨rfl, hE⟩
 try simp only [go_sem, reduceAdd, reduceLeDiff, reduceLT, hg]
 refine ⟨g1p, ⟨fa.1, by omega⟩, ?_⟩
 refine ⟨fun g4 => At.mk ?_, fun g4 => At.mk ?_⟩
 rotate_left
 ·try simp only [go_sem, wb]
  have g4p := g4; simp only [decide_eq_false_iff_not, Int.not_lt] at g4p
  exact for_next () g2p ⟨rfl, lt_succ_all hB fun _ e he => hE e (by omega)⟩ rfl
 have g4p := g4; simp only [decide_eq_true_eq] at g4p
 have we := wsucc (k := e) (by omega)
 have hel : e < (f.acts.getD a default).length := by omega
 have hv := (s.act a (by omega)).2 _ (mem_getD.mpr ⟨e, hel, rfl⟩)
 rw [g3p] at hv
 try simp only [go_sem, reduceAdd, reduceLeDiff, reduceLT, hg]
 refine ⟨by omega, by omega, ⟨hy.1.1, by omega⟩, by omega, by omega, by omega, hel, ⟨hv.1, by omega⟩, ?_⟩
 refine ⟨fun g5 => At.mk ?_, fun g5 => At.mk ?_⟩
 ·try simp only [go_sem]
  have g5p := g5; simp only [bnt, decide_eq_false_iff_not] at g5p
  exact fault_ret (by constructor; (intro h; cases h); intro l; exact absurd (l.comp a b g1p g2p g3p e hel) g5p) hsub
 ·try simp only [go_sem, we]
  have g5p := g5; simp only [bnf, decide_eq_true_eq] at g5p
  exact for_next () hel ⟨rfl, lt_succ_all hE g5p⟩ rfl
end Go.Proofs.Shf
