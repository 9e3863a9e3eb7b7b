/- Plain data, plain laws. -/
import Derived.Test.YtadpkiiglobmpaaGreatA2
set_option linter.unusedVariables false
set_option linter.unusedSimpArgs false
set_option linter.unusedSectionVars false
namespace Go.AW
class One {α : Type} (f : α → AV) : Prop where
 cells : ∀ a, (f a).cells = [f a]
 one : ∀ a, (f a).one = true
def mL {α : Type} (f : α → AV) (l : List α) : AV := .sl (l.map f)
abbrev iI : Int → AV := AV.int .i64
abbrev iL : List Int → AV := mL iI
abbrev iLL : List (List Int) → AV := mL iL
abbrev iLLL : List (List (List Int)) → AV := mL iLL
abbrev bL : List Bool → AV := mL AV.bool
abbrev bLL : List (List Bool) → AV := mL bL
instance : One iI := ⟨fun _ => rfl, fun _ => rfl⟩
instance : One AV.bool := ⟨fun _ => rfl, fun _ => rfl⟩
instance : One AV.str := ⟨fun _ => rfl, fun _ => rfl⟩
instance {α : Type} (f : α → AV) : One (mL f) := ⟨fun _ => rfl, fun _ => rfl⟩
def ix {α : Type} [Inhabited α] (l : List α) (i : Int) : α := l.getD i.toNat default
theorem ix_nat {α : Type} [Inhabited α] (l : List α) (k : Nat) : ix l (k : Int) = l.getD k default := by simp [ix]
section
variable {P : Program} {B : Nat} {F : Env → Heap → Prop} {σ : Env} {H : Heap} {d : Option Nat} {α : Type} [Inhabited α] {f : α → AV}
theorem getD_map (l : List α) {i : Nat} (h : i < l.length) : (l.map f).getD i nv = f (l.getD i default) := by
 simp [List.getD_eq_getElem?_getD, h]
theorem one_cells [One f] (a : α) : (f a).cells = [f a] := One.cells a
@[go_sem] theorem cells_mL (l : List α) : (mL f l).cells = [mL f l] := rfl
@[go_sem] theorem lenE_mL (l : List α) : lenE (some (mL f l)) = some (True, .int .i64 l.length) := by simp [mL, lenE]
@[go_sem] theorem idxE_mL [One f] (l : List α) (k : IntKind) (i : Int) :
  pE d F σ H (idxE 1 (some (mL f l)) (some (.int k i))) = ((0 ≤ i ∧ i.toNat < l.length) ∧ putK d F σ (.ptr [f (ix l i)]) H) := by
 simp only [mL, idxE, pE, pW, List.length_map, eq_iff_iff]
 constructor
 ·rintro ⟨⟨h1, h2, h3⟩, h4⟩;rw [getD_map l h2, one_cells] at h4;exact ⟨⟨h1, h2⟩, h4⟩
 ·rintro ⟨⟨h1, h2⟩, h4⟩;rw [getD_map l h2, one_cells];exact ⟨⟨h1, h2, rfl⟩, h4⟩
theorem flat_map [One f] (l : List α) : flat (l.map f) = l.map f := by
 induction l with
 | nil => rfl
 | cons a r ih => simp [flat, one_cells, ih]
theorem okEls_map [One f] (l : List α) : okEls 1 (l.map f) := by
 intro e he
 obtain ⟨a, _, rfl⟩ := List.mem_map.mp he;rw [one_cells];refine ⟨rfl, fun c hc => ?_⟩;rw [List.mem_singleton] at hc; subst hc; exact One.one a
@[go_sem] theorem srcOf_mL [One f] (l : List α) : srcOf 1 (some (mL f l)) H = some (True, l.length, l.map f) := by
 simp [mL, srcOf, okEls_map, flat_map]
@[go_sem] theorem slcE_lo [One f] (l : List α) (k : IntKind) (a : Int) : slcE 1 (some (mL f l)) (some (some (.int k a))) none = some (0 ≤ a ∧ a ≤ l.length, mL f (l.drop a.toNat)) := by
 have : List.take l.length (l.map f) = l.map f := List.take_of_length_le (by simp)
 simp [mL, slcE, slcA, slcB, slcL, okEls_map, this]
@[go_sem] theorem slcE_hi [One f] (l : List α) (k : IntKind) (b : Int) : slcE 1 (some (mL f l)) none (some (some (.int k b))) = some (0 ≤ b ∧ b ≤ l.length, mL f (l.take b.toNat)) := by
 simp [mL, slcE, slcA, slcB, slcL, okEls_map, ← List.map_take]
@[go_sem] theorem slcE_both [One f] (l : List α) (k k' : IntKind) (a b : Int) : slcE 1 (some (mL f l)) (some (some (.int k a))) (some (some (.int k' b))) = some (0 ≤ a ∧ a ≤ b ∧ b ≤ l.length, mL f ((l.take b.toNat).drop a.toNat)) := by
 simp [mL, slcE, slcA, slcB, slcL, okEls_map, ← List.map_take, ← List.map_drop]
@[go_sem] theorem okEls_nil (n : Nat) : okEls n [] = True := by simp [okEls]
@[go_sem] theorem okEls_cons (n : Nat) (a : AV) (r : List AV) : okEls n (a :: r) = ((a.cells.length = n ∧ ∀ c, c ∈ a.cells → c.one = true) ∧ okEls n r) := by
 simp [okEls]
theorem okEls_one [One f] (a : α) : okEls 1 [f a] := by
 intro e he;rw [List.mem_singleton] at he; subst he;rw [one_cells];refine ⟨rfl, fun c hc => ?_⟩;rw [List.mem_singleton] at hc; subst hc; exact One.one a
theorem fine_mL_le {l : List α} (h : AV.fine (mL f l)) : l.length ≤ maxL := by simpa using h.sl_le
theorem fine_mL_mem [One f] {l : List α} (h : AV.fine (mL f l)) {a : α} (ha : a ∈ l) : AV.fine (f a) :=
 h.sl_mem (List.mem_map_of_mem ha) (one_cells a)
theorem ix_mem {l : List α} {i : Int} (h : i.toNat < l.length) : ix l i ∈ l := by
 rw [ix, List.getD_eq_getElem?_getD]; simp [h]
theorem fine_mL_ix [One f] {l : List α} (h : AV.fine (mL f l)) {i : Int} (hi : i.toNat < l.length) : AV.fine (f (ix l i)) := fine_mL_mem h (ix_mem hi)
theorem take_succ' (l : List α) {k : Nat} (h : k < l.length) : l.take (k + 1) = l.take k ++ [l.getD k default] := by
 rw [List.take_add_one]; simp [List.getD_eq_getElem?_getD, h]
end
@[go_sem] theorem and_true_r (p : Prop) : (p ∧ True) = p := and_true p
@[go_sem] theorem true_and_r (p : Prop) : (True ∧ p) = p := true_and p
@[go_sem] theorem zle (n : Nat) : (0 ≤ n) = True := by simp
@[go_sem] theorem le_maxL1 : (1 ≤ maxL) = True := by simp [maxL]
@[go_sem] theorem le_maxL2 : (2 ≤ maxL) = True := by simp [maxL]
@[go_sem] theorem one_int (k : IntKind) (n : Int) : (AV.int k n).one = true := rfl
@[go_sem] theorem one_mL {α : Type} (f : α → AV) (l : List α) : (mL f l).one = true := rfl
@[go_sem] theorem one_bool (b : Bool) : (AV.bool b).one = true := rfl
@[go_sem] theorem one_str (b : List UInt8) : (AV.str b).one = true := rfl
@[go_sem] theorem one_sl (b : List AV) : (AV.sl b).one = true := rfl
@[go_sem] theorem one_buf (i n : Nat) : (AV.buf i n).one = true := rfl
@[go_sem] theorem one_ptr (b : List AV) : (AV.ptr b).one = true := rfl
@[go_sem] theorem memnil (p : AV → Prop) : (∀ c, c ∈ ([] : List AV) → p c) = True := by simp
@[go_sem] theorem memcons (p : AV → Prop) (a : AV) (r : List AV) : (∀ c, c ∈ a :: r → p c) = (p a ∧ ∀ c, c ∈ r → p c) := by simp
@[go_sem] theorem len1 (a : AV) : [a].length = 1 := rfl
@[go_sem] theorem len0 : ([] : List AV).length = 0 := rfl
theorem awp_for {P : Program} {B : Nat} {l : List Nat} {c : SC} {Q : AQ} {σ : Env} {H : Heap} (lf : List Nat) {G : Type} (E : Nat → G → Env) (J : Nat → G → Heap → Prop) (n : Nat) (g : G)
  (h0 : J 0 g H) (he : Env.keep l σ = E 0 g ++ Env.keep lf σ)
  (h : ∀ k g H, k ≤ n → J k g H → awp P B c (lpQ l (fun m σ' H => ∃ k g, k ≤ n ∧ m = n - k ∧ J k g H ∧ σ' = E k g ++ Env.keep lf σ) (n - k) Q) (E k g ++ Env.keep lf σ) H) :
  awp P B (.loop l c) Q σ H :=
 awp_loop (fun m σ' H => ∃ k g, k ≤ n ∧ m = n - k ∧ J k g H ∧ σ' = E k g ++ Env.keep lf σ) n ⟨0, g, by omega, rfl, h0, he⟩
  fun m σ H ⟨k, g, h1, h2, h3, h4⟩ => h2 ▸ h4 ▸ h k g H h1 h3
theorem for_next {G : Type} {S : Nat → G → Env} {J : Nat → G → Heap → Prop} {n k : Nat} {σ : Env} {H : Heap} (g : G) (h : k < n) (hj : J (k + 1) g H) (he : σ = S (k + 1) g) :
  ∃ m σ' H', m < n - k ∧ (∃ k g, k ≤ n ∧ m = n - k ∧ J k g H' ∧ σ' = S k g) ∧ Wk σ H σ' H' :=
 ⟨n - (k + 1), σ, H, by omega, ⟨k + 1, g, h, rfl, hj, he⟩, .refl _ _⟩
theorem awp_while {P : Program} {B : Nat} {l : List Nat} {c : SC} {Q : AQ} {σ : Env} {H : Heap} (lf : List Nat) {G : Type} (E : G → Env) (J : Nat → G → Heap → Prop) (n : Nat) (g : G)
  (h0 : J n g H) (he : Env.keep l σ = E g ++ Env.keep lf σ)
  (h : ∀ m g H, J m g H → awp P B c (lpQ l (fun m σ' H => ∃ g, J m g H ∧ σ' = E g ++ Env.keep lf σ) m Q) (E g ++ Env.keep lf σ) H) :
  awp P B (.loop l c) Q σ H :=
 awp_loop (fun m σ' H => ∃ g, J m g H ∧ σ' = E g ++ Env.keep lf σ) n ⟨g, h0, he⟩
  fun m σ H ⟨g, h3, h4⟩ => h4 ▸ h m g H h3
theorem while_next {G : Type} {S : G → Env} {J : Nat → G → Heap → Prop} {m : Nat} {σ : Env} {H : Heap} (m' : Nat) (g : G) (h : m' < m) (hj : J m' g H) (he : σ = S g) :
  ∃ m' σ' H', m' < m ∧ (∃ g, J m' g H' ∧ σ' = S g) ∧ Wk σ H σ' H' :=
 ⟨m', σ, H, h, ⟨g, hj, he⟩, .refl _ _⟩
@[go_sem] theorem env_app_cons (a : Nat × Option AV) (l r : Env) : (a :: l) ++ r = a :: (l ++ r) := rfl
@[go_sem] theorem env_app_nil (r : Env) : ([] : Env) ++ r = r := rfl
structure Owns (H0 H : Heap) (l : List (Nat × MObj)) : Prop where
 sub : H0.sub H
 get : ∀ x, x ∈ l → H.get x.1 = some x.2
 nd : (l.map Prod.fst).Nodup
 out : ∀ x, x ∈ l → H0.get x.1 = none
theorem Owns.nil (H : Heap) : Owns H H [] := ⟨.refl H, by simp, by simp, by simp⟩
theorem Owns.h0 {H0 H : Heap} {a : Nat × MObj} {l : List (Nat × MObj)} (h : Owns H0 H (a :: l)) : H.get a.1 = some a.2 := h.get a (by simp)
theorem Owns.tl {H0 H : Heap} {a : Nat × MObj} {l : List (Nat × MObj)} (h : Owns H0 H (a :: l)) : Owns H0 H l :=
 ⟨h.sub, fun x hx => h.get x (by simp [hx]), (by simpa using h.nd : _ ∧ _).2, fun x hx => h.out x (by simp [hx])⟩
theorem Owns.perm {H0 H : Heap} {l r : List (Nat × MObj)} (h : Owns H0 H l) (hp : l.Perm r) : Owns H0 H r :=
 ⟨h.sub, fun x hx => h.get x (hp.mem_iff.mpr hx), ((hp.map _).nodup_iff.mp h.nd), fun x hx => h.out x (hp.mem_iff.mpr hx)⟩
theorem Owns.swap {H0 H : Heap} {a b : Nat × MObj} {l : List (Nat × MObj)} (h : Owns H0 H (a :: b :: l)) : Owns H0 H (b :: a :: l) := h.perm (List.Perm.swap b a l)
theorem Owns.new {H0 H : Heap} {l : List (Nat × MObj)} (h : Owns H0 H l) {id : Nat} (hn : H.get id = none) (o : MObj) : Owns H0 (H.set id o) ((id, o) :: l) := by
 refine ⟨fun i x hx => ?_, fun x hx => ?_, ?_, fun x hx => ?_⟩
 ·have := h.sub i x hx;rw [Heap.get_set_ne]; exact this
  rintro rfl; rw [hn] at this; cases this
 ·simp only [List.mem_cons] at hx
  rcases hx with rfl | hx
  ·simp
  ·rw [Heap.get_set_ne]; exact h.get x hx
   intro e; have := h.get x hx; rw [e, hn] at this; cases this
 ·simp only [List.map_cons, List.nodup_cons];refine ⟨fun hm => ?_, h.nd⟩
  obtain ⟨x, hx, e⟩ := List.mem_map.mp hm
  have := h.get x hx; rw [e, hn] at this; cases this
 ·simp only [List.mem_cons] at hx
  rcases hx with rfl | hx
  ·cases hh : H0.get id with
   | none => rfl
   | some o' => have := h.sub _ _ hh; rw [hn] at this; cases this
  ·exact h.out x hx
theorem Owns.put {H0 H : Heap} {l : List (Nat × MObj)} {id : Nat} {o : MObj} (h : Owns H0 H ((id, o) :: l)) (o' : MObj) : Owns H0 (H.set id o') ((id, o') :: l) := by
 have hnd := h.nd;simp only [List.map_cons, List.nodup_cons] at hnd
 have hne : ∀ x, x ∈ l → x.1 ≠ id := fun x hx e => hnd.1 (e ▸ List.mem_map_of_mem hx)
 have ho := h.out (id, o) (by simp);refine ⟨fun i x hx => ?_, fun x hx => ?_, by simpa using hnd, fun x hx => ?_⟩
 ·rw [Heap.get_set_ne]; exact h.sub i x hx
  rintro rfl; simp only at ho; rw [ho] at hx; cases hx
 ·simp only [List.mem_cons] at hx
  rcases hx with rfl | hx
  ·simp
  ·rw [Heap.get_set_ne _ _ (hne x hx)]; exact h.get x (by simp [hx])
 ·simp only [List.mem_cons] at hx
  rcases hx with rfl | hx
  ·exact ho
  ·exact h.out x (by simp [hx])
theorem Owns.mv {H0 H : Heap} {l : List (Nat × MObj)} {id id' : Nat} {o : MObj} (h : Owns H0 H ((id, o) :: l)) (hn : H.get id' = none) (o' : MObj) : Owns H0 ((H.del id).set id' o') ((id', o') :: l) := by
 have hnd := h.nd;simp only [List.map_cons, List.nodup_cons] at hnd
 have hne : ∀ x, x ∈ l → x.1 ≠ id := fun x hx e => hnd.1 (e ▸ List.mem_map_of_mem hx)
 have ho := h.out (id, o) (by simp)
 have hd : Owns H0 (H.del id) l := by
  refine ⟨fun i x hx => ?_, fun x hx => ?_, hnd.2, fun x hx => h.out x (by simp [hx])⟩
  ·rw [Heap.get_del_ne]; exact h.sub i x hx
   rintro rfl; simp only at ho; rw [ho] at hx; cases hx
  ·rw [Heap.get_del_ne _ (hne x hx)]; exact h.get x (by simp [hx])
 refine hd.new ?_ o'
 by_cases e : id' = id
 ·subst e; exact Heap.get_del_same _ _
 ·rw [Heap.get_del_ne _ e]; exact hn
section
variable {α : Type} [Inhabited α] {f : α → AV} [One f] {H0 H : Heap} {l : List (Nat × MObj)} {K : Kont}
theorem newBuf_own {n sz : Nat} {cs : List AV} (h : Owns H0 H l) (hk : ∀ id H', Owns H0 H' ((id, .cells sz cs 0) :: l) → K (.buf id n) H') : newBuf n sz cs K H :=
 fun id hn => hk id _ (h.new hn _)
theorem newRef_own {sz : Nat} {cs : List AV} (h : Owns H0 H l) (hk : ∀ id H', Owns H0 H' ((id, .cells sz cs 0) :: l) → K (.ref id 0) H') : newRef sz cs K H :=
 fun id hn => hk id _ (h.new hn _)
omit [Inhabited α] in
/-- An empty list of ours. -/
theorem new_list (f : α → AV) (h : Owns H0 H l) (hk : ∀ id H', Owns H0 H' ((id, .cells 1 (([] : List α).map f) 0) :: l) → K (.buf id ([] : List α).length) H') : newBuf 0 1 [] K H :=
 newBuf_own h hk
theorem app_own {id fr n : Nat} {out : List α} (a : α) {v : AV} (h : Owns H0 H ((id, .cells 1 (out.map f) fr) :: l)) (hv : v = f a) (hn : n = out.length) (hm : out.length + 1 ≤ maxL)
  (hk : ∀ id' H', Owns H0 H' ((id', .cells 1 ((out ++ [a]).map f) fr) :: l) → K (.buf id' (out ++ [a]).length) H') :
  appW 1 (some (.buf id n)) (some (.sl [v])) K H := by
 subst hv hn
 have h0 := h.h0;simp only at h0;simp only [appW, h0, srcOf, app2];refine ⟨⟨trivial, by simp, by simpa using hm, by simpa using hm, okEls_one a⟩, fun id' hn => ?_⟩
 have := h.mv hn (.cells 1 ((out ++ [a]).map f) fr)
 have e : out.map f ++ flat [f a] = (out ++ [a]).map f := by simp [flat, one_cells]
 rw [e]
 have := hk id' _ this
 simpa using this
theorem app_list {id fr n : Nat} {out r : List α} (h : Owns H0 H ((id, .cells 1 (out.map f) fr) :: l)) (hn : n = out.length) (hm : out.length + r.length ≤ maxL)
  (hk : ∀ id' H', Owns H0 H' ((id', .cells 1 ((out ++ r).map f) fr) :: l) → K (.buf id' (out ++ r).length) H') :
  appW 1 (some (.buf id n)) (some (mL f r)) K H := by
 subst hn
 have h0 := h.h0;simp only at h0;simp only [appW, h0, app2, srcOf_mL];refine ⟨⟨trivial, by simp, hm, by simpa using hm⟩, fun id' hn => ?_⟩
 have := h.mv hn (.cells 1 ((out ++ r).map f) fr)
 have e : out.map f ++ r.map f = (out ++ r).map f := by simp
 rw [e]
 have := hk id' _ this
 simpa using this
theorem nil_own (a : α) {v : AV} (h : Owns H0 H l) (hv : v = f a)
  (hk : ∀ id' H', Owns H0 H' ((id', .cells 1 ([a].map f) 0) :: l) → K (.buf id' [a].length) H') :
  appW 1 (some .nilsl) (some (.sl [v])) K H := by
 subst hv;simp only [appW, srcOf, app1];refine ⟨⟨by simp [maxL], by simp [maxL], okEls_one a⟩, fun id hn => ?_⟩
 have := hk id _ (h.new hn (.cells 1 ([a].map f) 0))
 simpa [flat, one_cells] using this
end
section
variable {α : Type} {f : α → AV} [One f] {H0 H : Heap} {l : List (Nat × MObj)}
theorem fz_own {t id n fr : Nat} {out : List α} {F : Env → Heap → Prop} {σ : Env} (h : Owns H0 H ((id, .cells 1 (out.map f) fr) :: l)) (hn : n = out.length)
  (hk : ∀ H', Owns H0 H' l → F ((t, some (mL f out)) :: σ) H') : fz1 t id n F σ H (H.get id) := by
 subst hn
 have h0 := h.h0;simp only at h0;rw [h0, fz1_one];refine ⟨⟨by simp, fun c hc => ?_⟩, hk _ (h.put _).tl⟩
 obtain ⟨a, _, rfl⟩ := List.mem_map.mp hc;exact One.one a
end
theorem wsucc {k : Nat} (h : k < 1125899906842624) : IntKind.i64.wrap ((k : Int) + 1) = ((k + 1 : Nat) : Int) := by
 rw [wrap_i64 (by omega) (by omega)]; omega
theorem of_decide {p : Prop} [Decidable p] (h : decide p = true) : p := by simpa using h
theorem of_ndecide {p : Prop} [Decidable p] (h : decide p = false) : ¬ p := by simpa using h
end Go.AW
namespace Go.AW
structure Pur (P : Program) (B : Nat) (f : FuncId) (args : List AV) (r : AV) : Prop where
 run : PureF P B f args r
theorem Pur.go {P : Program} {B : Nat} {f : FuncId} {args : List AV} {r : AV} {H : Heap} {K : Kont} (h : Pur P B f args r) (hk : r.fine → K r H) : CallH P B f args H K :=
 h.run.go hk
end Go.AW
namespace Go.AW
noncomputable def dec (p : Prop) : Bool := @decide p (Classical.propDecidable p)
theorem dec_t {p : Prop} (h : p) : dec p = true := by simp [dec, h]
theorem dec_f {p : Prop} (h : ¬ p) : dec p = false := by simp [dec, h]
theorem dec_iff {p : Prop} : dec p = true ↔ p := by simp [dec]
theorem dec_niff {p : Prop} : dec p = false ↔ ¬ p := by simp [dec]
theorem dec_congr {p q : Prop} (h : p ↔ q) : dec p = dec q := by rw [show p = q from propext h]
theorem decide_dec (p : Prop) [Decidable p] : decide p = dec p := by
 by_cases h : p
 ·rw [dec_t h]; simpa using h
 ·rw [dec_f h]; simpa using h
theorem lt_succ_all {k : Nat} {p : Nat → Prop} (h : ∀ i, i < k → p i) (hk : p k) : ∀ i, i < k + 1 → p i := fun i hi => by
 by_cases e : i = k
 ·subst e; exact hk
 ·exact h i (by omega)
theorem mem_getD {α : Type} [Inhabited α] {l : List α} {a : α} : a ∈ l ↔ ∃ i, i < l.length ∧ l.getD i default = a := by
 rw [List.mem_iff_getElem]
 constructor
 ·rintro ⟨i, h, e⟩; exact ⟨i, h, by simpa [List.getD_eq_getElem?_getD, h] using e⟩
 ·rintro ⟨i, h, e⟩; exact ⟨i, h, by simpa [List.getD_eq_getElem?_getD, h] using e⟩
theorem all_getD {α : Type} [Inhabited α] {l : List α} {p : α → Prop} : (∀ a, a ∈ l → p a) ↔ ∀ i, i < l.length → p (l.getD i default) := by
 constructor
 ·intro h i hi; exact h _ (mem_getD.mpr ⟨i, hi, rfl⟩)
 ·rintro h a ha; obtain ⟨i, hi, rfl⟩ := mem_getD.mp ha; exact h i hi
@[go_sem] theorem ix_nat' {α : Type} [Inhabited α] (l : List α) (k : Nat) : ix l (k : Int) = l.getD k default := ix_nat l k
@[go_sem] theorem toNat_nat (k : Nat) : ((k : Int)).toNat = k := Int.toNat_natCast k
@[go_sem] theorem nat_nonneg (k : Nat) : (0 ≤ (k : Int)) = True := by simp
@[go_sem] theorem lt_nat (a b : Nat) : decide ((a : Int) < (b : Int)) = decide (a < b) := by simp
theorem wpred {k : Nat} (h : 0 < k) (h' : k < 1125899906842624) : IntKind.i64.wrap ((k : Int) - 1) = ((k - 1 : Nat) : Int) := by
 rw [wrap_i64 (by omega) (by omega)]; omega
def indexOf {α : Type} [DecidableEq α] (l : List α) (n : α) : Int := match l.idxOf? n with
 | some i => i
 | none => -1
theorem indexOf_hit {α : Type} [DecidableEq α] [Inhabited α] {l : List α} {n : α} {k : Nat} (hk : k < l.length) (hall : ∀ i, i < k → l.getD i default ≠ n) (he : l.getD k default = n) : indexOf l n = k := by
 have : l.idxOf? n = some k := by
  rw [List.idxOf?_eq_some_iff];refine ⟨hk, by simpa [List.getD_eq_getElem?_getD, hk] using he, fun j hj => ?_⟩
  have := hall j hj
  simpa [List.getD_eq_getElem?_getD, show j < l.length by omega] using this
 simp [indexOf, this]
theorem indexOf_miss {α : Type} [DecidableEq α] [Inhabited α] {l : List α} {n : α} (hall : ∀ i, i < l.length → l.getD i default ≠ n) : indexOf l n = -1 := by
 have : l.idxOf? n = none := by
  rw [List.idxOf?_eq_none_iff]
  intro h; obtain ⟨i, hi, e⟩ := mem_getD.mp h; exact hall i hi e
 simp [indexOf, this]
end Go.AW
namespace Go.AW
theorem indexOf_bd {α : Type} [DecidableEq α] (l : List α) (n : α) : -1 ≤ indexOf l n ∧ indexOf l n < l.length := by
 unfold indexOf
 split
 ·rename_i i h
  rw [List.idxOf?_eq_some_iff] at h
  obtain ⟨hi, _⟩ := h;omega
 ·omega
end Go.AW
namespace Go.AW
theorem bnt (b : Bool) : ((!b) = true) = (b = false) := by simp
theorem bnf (b : Bool) : ((!b) = false) = (b = true) := by simp
theorem dect (p : Prop) : (dec p = true) = p := propext dec_iff
theorem decf (p : Prop) : (dec p = false) = ¬ p := propext dec_niff
end Go.AW
namespace Go.AW
@[go_sem] theorem eq_nat (a b : Nat) : decide ((a : Int) = (b : Int)) = decide (a = b) := by simp [Int.ofNat_inj]
@[go_sem] theorem le_nat (a b : Nat) : decide ((a : Int) ≤ (b : Int)) = decide (a ≤ b) := by simp
def rc1 (n : Option Nat) (off : Nat) : Option MObj → Option AV
 | some (.cells _ cs _) => match n with
  | none => if off < cs.length then some (cs.getD off nv) else none
  | some n => if off + n ≤ cs.length then some (.agg ((cs.drop off).take n)) else none
 | _ => none
@[go_sem] theorem rcV_ref (n : Option Nat) (id off : Nat) (H : Heap) : rcV n (some (.ref id off)) H = rc1 n off (H.get id) := by
 unfold rcV rc1
 cases n <;> (dsimp only; split <;> simp_all)
@[go_sem] theorem rc1_1 (off sz f : Nat) (cs : List AV) : rc1 none off (some (.cells sz cs f)) = if off < cs.length then some (cs.getD off nv) else none := rfl
@[go_sem] theorem rc1_n (n off sz f : Nat) (cs : List AV) : rc1 (some n) off (some (.cells sz cs f)) = if off + n ≤ cs.length then some (.agg ((cs.drop off).take n)) else none := rfl
theorem drop_cons {α : Type} [Inhabited α] (l : List α) {k : Nat} (h : k < l.length) : l.drop k = l.getD k default :: l.drop (k + 1) := by
 rw [List.drop_eq_getElem_cons h]; simp [List.getD_eq_getElem?_getD, h]
attribute [go_sem] List.drop_succ_cons List.drop_zero List.take_succ_cons List.take_zero List.getD_cons_zero List.getD_cons_succ List.length_cons List.length_nil List.set_cons_succ List.set_cons_zero
end Go.AW
namespace Go.AW
theorem rep_one (z : AV) : ∀ n, rep n [z] = List.replicate n z
 | 0 => rfl
 | n + 1 => by simp [rep, rep_one z n, List.replicate_succ]
theorem take_map_succ {α β : Type} [Inhabited α] (l : List α) (g : α → β) {k : Nat} (h : k < l.length) : (l.take (k + 1)).map g = (l.take k).map g ++ [g (l.getD k default)] := by
 rw [take_succ' l h]; simp
theorem range_succ_filter (p : Nat → Bool) (k : Nat) : (List.range (k + 1)).filter p = (List.range k).filter p ++ if p k then [k] else [] := by
 rw [List.range_succ, List.filter_append]; simp [List.filter_cons]
end Go.AW
namespace Go.AW
theorem sub_set {H0 H : Heap} {i : Nat} {o : MObj} (h : H0.sub H) (n : H0.get i = none) : H0.sub (H.set i o) := by
 intro j x hx;rw [Heap.get_set_ne]
 ·exact h j x hx
 ·rintro rfl; rw [n] at hx; cases hx
attribute [go_sem] Heap.get_set_same
end Go.AW
namespace Go.AW
@[go_sem] theorem xor_tl (b : Bool) : (true ^^ b) = !b := by simp
@[go_sem] theorem xor_fl (b : Bool) : (false ^^ b) = b := by simp
@[go_sem] theorem and_dec (p q : Prop) [Decidable p] [Decidable q] : (decide p && decide q) = dec (p ∧ q) := by rw [← decide_dec]; simp
end Go.AW
namespace Go.AW
def faultK (P : Prop) (H0 : Heap) : Kont := fun r H' => H' = H0 ∧ ∃ k a b d : Int, r = .tup [.int .i64 k, .int .i64 a, .int .i64 b, .int .i64 d] ∧ (k = 0 ↔ P)
theorem fault_ret {P : Prop} {H0 H : Heap} {k a b d : Int} (h : k = 0 ↔ P) (hs : H0.sub H) : subW (faultK P H0) (.tup [.int .i64 k, .int .i64 a, .int .i64 b, .int .i64 d]) H :=
 ⟨H0, hs, rfl, k, a, b, d, rfl, h⟩
end Go.AW
namespace Go.Shf
open Go.AW
structure Cat where
 objs : Int
 frm : List Int
 to : List Int
 idn : List Int
 comp : List (List Int)
 deriving Inhabited
structure SF where
 shape : Cat
 sizes : List Int
 acts : List (List Int)
 deriving Inhabited
structure Top where
 shape : Cat
 covers : List (List (List Int))
 deriving Inhabited
structure SM where
 src : SF
 tgt : SF
 parts : List (List Int)
 deriving Inhabited
@[go_sem] def Cat.cells (c : Cat) : List AV := [iI c.objs, iL c.frm, iL c.to, iL c.idn, iLL c.comp]
@[go_sem] def SF.cells (f : SF) : List AV := [iI f.shape.objs, iL f.shape.frm, iL f.shape.to, iL f.shape.idn, iLL f.shape.comp, iL f.sizes, iLL f.acts]
@[go_sem] def Top.cells (j : Top) : List AV := [iI j.shape.objs, iL j.shape.frm, iL j.shape.to, iL j.shape.idn, iLL j.shape.comp, iLLL j.covers]
@[go_sem] def SM.cells (m : SM) : List AV := [iI m.src.shape.objs, iL m.src.shape.frm, iL m.src.shape.to, iL m.src.shape.idn, iLL m.src.shape.comp, iL m.src.sizes, iLL m.src.acts,
 iI m.tgt.shape.objs, iL m.tgt.shape.frm, iL m.tgt.shape.to, iL m.tgt.shape.idn, iLL m.tgt.shape.comp, iL m.tgt.sizes, iLL m.tgt.acts, iLL m.parts]
def cmp : List Int → List Int → Int
 | [], [] => 0
 | [], _ :: _ => -1
 | _ :: _, [] => 1
 | a :: r, b :: s => if a = b then cmp r s else if a < b then -1 else 1
theorem cmp_zero : ∀ {a b : List Int}, cmp a b = 0 ↔ a = b
 | [], [] => by simp [cmp]
 | [], _ :: _ => by simp [cmp]
 | _ :: _, [] => by simp [cmp]
 | a :: r, b :: s => by
  unfold cmp
  split
  ·rename_i h; rw [cmp_zero]; simp [h]
  ·rename_i h; split <;> simp [h]
theorem cmp_neg : ∀ (a b : List Int), cmp a b = - cmp b a
 | [], [] => by simp [cmp]
 | [], _ :: _ => by simp [cmp]
 | _ :: _, [] => by simp [cmp]
 | a :: r, b :: s => by
  unfold cmp
  by_cases h : a = b
  ·simp only [h, if_true]; exact cmp_neg r s
  ·have h3 : ¬ b = a := fun e => h e.symm;simp only [h, h3, if_false]
   by_cases h2 : a < b
   ·have h4 : ¬ b < a := by omega
    simp [h2, h4]
   ·have h4 : b < a := by omega
    simp [h2, h4]
theorem cmp_trans : ∀ {a b c : List Int}, cmp a b < 0 → cmp b c < 0 → cmp a c < 0
 | [], [], _, h, _ => by simp [cmp] at h
 | [], _ :: _, [], _, h => by simp [cmp] at h
 | [], _ :: _, _ :: _, _, _ => by simp [cmp]
 | _ :: _, [], _, h, _ => by simp [cmp] at h
 | _ :: _, _ :: _, [], _, h => by simp [cmp] at h
 | a :: r, b :: s, c :: t, h, k => by
  unfold cmp at h k ⊢
  by_cases e1 : a = b
  ·by_cases e2 : b = c
   ·simp only [e1, e2, if_true] at h k ⊢; exact cmp_trans h k
   ·subst e1; rw [if_neg e2] at k ⊢; exact k
  ·by_cases e2 : b = c
   ·subst e2; rw [if_neg e1] at h ⊢; exact h
   ·rw [if_neg e1] at h; rw [if_neg e2] at k
    split at h <;> split at k <;> first | omega | (rw [if_neg (by omega), if_pos (by omega)]; decide)
def Rising (l : List Int) : Prop := ∀ i, 0 < i → i < l.length → l.getD (i - 1) default < l.getD i default
def outs (c : Cat) (x : Int) : List Int := ((List.range c.frm.length).filter fun i => c.frm.getD i default = x).map Int.ofNat
end Go.Shf
namespace Go.Shf
open Go.AW
structure Cat.Shape (c : Cat) : Prop where
 o : 0 ≤ c.objs ∧ c.objs ≤ 8
 m : c.frm.length ≤ 40
 frm : ∀ y, y ∈ c.frm → 0 ≤ y ∧ y < c.objs
 tol : c.to.length = c.frm.length
 to : ∀ y, y ∈ c.to → 0 ≤ y ∧ y < c.objs
 cl : c.comp.length = c.frm.length
 il : (c.idn.length : Int) = c.objs
 idn : ∀ y, y ∈ c.idn → 0 ≤ y ∧ y < (c.frm.length : Int)
 ide : ∀ x : Nat, x < c.idn.length → ix c.frm (c.idn.getD x default) = x ∧ ix c.to (c.idn.getD x default) = x
 row : ∀ f : Nat, f < c.frm.length → (c.comp.getD f default).length = c.frm.length
 non : ∀ f g : Nat, f < c.frm.length → g < c.frm.length → c.to.getD f default ≠ c.frm.getD g default → (c.comp.getD f default).getD g default = -1
 yes : ∀ f g : Nat, f < c.frm.length → g < c.frm.length → c.to.getD f default = c.frm.getD g default →
  (0 ≤ (c.comp.getD f default).getD g default ∧ (c.comp.getD f default).getD g default < c.frm.length) ∧
  ix c.frm ((c.comp.getD f default).getD g default) = c.frm.getD f default ∧ ix c.to ((c.comp.getD f default).getD g default) = c.to.getD g default
structure Cat.Laws (c : Cat) : Prop where
 idl : ∀ f : Nat, f < c.frm.length → ix (ix c.comp (ix c.idn (c.frm.getD f default))) f = f ∧ ix (c.comp.getD f default) (ix c.idn (c.to.getD f default)) = f
 assoc : ∀ f g h : Nat, f < c.frm.length → g < c.frm.length → h < c.frm.length → c.to.getD f default = c.frm.getD g default → c.to.getD g default = c.frm.getD h default →
  ix (ix c.comp ((c.comp.getD f default).getD g default)) h = ix (c.comp.getD f default) ((c.comp.getD g default).getD h default)
def Cat.Is (c : Cat) : Prop := c.Shape ∧ c.Laws
end Go.Shf
namespace Go.Shf
open Go.AW
theorem Cat.Shape.frm' {c : Cat} (s : c.Shape) {f : Nat} (h : f < c.frm.length) : 0 ≤ c.frm.getD f default ∧ (c.frm.getD f default).toNat < c.idn.length := by
 have := s.frm _ (mem_getD.mpr ⟨f, h, rfl⟩); have := s.il; omega
theorem Cat.Shape.to' {c : Cat} (s : c.Shape) {f : Nat} (h : f < c.frm.length) : 0 ≤ c.to.getD f default ∧ (c.to.getD f default).toNat < c.idn.length := by
 have := s.to _ (mem_getD.mpr ⟨f, by have := s.tol; omega, rfl⟩); have := s.il; omega
theorem Cat.Shape.id' {c : Cat} (s : c.Shape) {x : Int} (h : x.toNat < c.idn.length) : 0 ≤ ix c.idn x ∧ (ix c.idn x).toNat < c.frm.length := by
 have := s.idn _ (ix_mem h); omega
theorem Cat.Shape.row' {c : Cat} (s : c.Shape) {a : Int} (h : a.toNat < c.frm.length) : (ix c.comp a).length = c.frm.length := s.row _ h
theorem Cat.Shape.pos {c : Cat} (s : c.Shape) {f g : Nat} (hf : f < c.frm.length) (hg : g < c.frm.length) : (0 ≤ (c.comp.getD f default).getD g default) ↔ c.to.getD f default = c.frm.getD g default := by
 constructor
 ·intro h; apply Classical.byContradiction; intro e; have := s.non f g hf hg e; omega
 ·intro e; exact (s.yes f g hf hg e).1.1
theorem Cat.Shape.lt {c : Cat} (s : c.Shape) {f g : Nat} (hf : f < c.frm.length) (hg : g < c.frm.length) : ((c.comp.getD f default).getD g default).toNat < c.frm.length := by
 by_cases e : c.to.getD f default = c.frm.getD g default
 ·have := (s.yes f g hf hg e).1; omega
 ·have := s.non f g hf hg e; omega
def Cat.IdAt (c : Cat) (f : Nat) : Prop := ix (ix c.comp (ix c.idn (c.frm.getD f default))) f = f ∧ ix (c.comp.getD f default) (ix c.idn (c.to.getD f default)) = f
def Cat.AssocAt (c : Cat) (f g h : Nat) : Prop := c.to.getD f default = c.frm.getD g default → c.to.getD g default = c.frm.getD h default →
  ix (ix c.comp ((c.comp.getD f default).getD g default)) h = ix (c.comp.getD f default) ((c.comp.getD g default).getD h default)
end Go.Shf
namespace Go.Shf
open Go.AW
structure Cat.Sieve (c : Cat) (x : Int) (l : List Int) : Prop where
 ris : Rising l
 ran : ∀ y, y ∈ l → 0 ≤ y ∧ y < (c.frm.length : Int)
 src : ∀ y, y ∈ l → ix c.frm y = x
 cls : ∀ a, a ∈ l → ∀ b : Nat, b < c.frm.length → ix c.to a = c.frm.getD b default → (ix c.comp a).getD b default ∈ l
theorem mem_outs {c : Cat} {x y : Int} : y ∈ outs c x ↔ 0 ≤ y ∧ y.toNat < c.frm.length ∧ ix c.frm y = x := by
 simp only [outs, List.mem_map, List.mem_filter, List.mem_range, decide_eq_true_eq]
 constructor
 ·rintro ⟨b, ⟨h1, h2⟩, rfl⟩; exact ⟨Int.natCast_nonneg b, by simpa using h1, by simpa [ix] using h2⟩
 ·rintro ⟨h1, h2, h3⟩; exact ⟨y.toNat, ⟨h2, h3⟩, Int.toNat_of_nonneg h1⟩
end Go.Shf
namespace Go.Shf
open Go.AW
structure Top.Form (j : Top) : Prop where
 is : j.shape.Is
 len : (j.covers.length : Int) = j.shape.objs
 sv : ∀ x : Nat, x < j.covers.length → ∀ k : Nat, k < (j.covers.getD x default).length → j.shape.Sieve x ((j.covers.getD x default).getD k default)
 ord : ∀ x : Nat, x < j.covers.length → ∀ k : Nat, k + 1 < (j.covers.getD x default).length →
  cmp ((j.covers.getD x default).getD k default) ((j.covers.getD x default).getD (k + 1) default) < 0
end Go.Shf
namespace Go.Shf
open Go.AW
structure SF.Shape (f : SF) : Prop where
 is : f.shape.Is
 sl : (f.sizes.length : Int) = f.shape.objs
 al : f.acts.length = f.shape.frm.length
 sz : ∀ y, y ∈ f.sizes → 0 ≤ y ∧ y < 17
 act : ∀ a : Nat, a < f.acts.length → ((f.acts.getD a default).length : Int) = ix f.sizes (f.shape.frm.getD a default) ∧
  ∀ y, y ∈ f.acts.getD a default → 0 ≤ y ∧ y < ix f.sizes (f.shape.to.getD a default)
end Go.Shf
namespace Go.Shf
open Go.AW
structure SF.Laws (f : SF) : Prop where
 idl : ∀ x : Nat, x < f.shape.idn.length → ∀ e : Nat, e < (ix f.acts (f.shape.idn.getD x default)).length → (ix f.acts (f.shape.idn.getD x default)).getD e default = e
 comp : ∀ a b : Nat, a < f.shape.frm.length → b < f.shape.frm.length → f.shape.to.getD a default = f.shape.frm.getD b default → ∀ e : Nat, e < (f.acts.getD a default).length →
  (ix f.acts ((f.shape.comp.getD a default).getD b default)).getD e default = ix (f.acts.getD b default) ((f.acts.getD a default).getD e default)
def SF.CompAt (f : SF) (a b : Nat) : Prop := f.shape.to.getD a default = f.shape.frm.getD b default → ∀ e : Nat, e < (f.acts.getD a default).length →
  (ix f.acts ((f.shape.comp.getD a default).getD b default)).getD e default = ix (f.acts.getD b default) ((f.acts.getD a default).getD e default)
def SF.Is (f : SF) : Prop := f.Shape ∧ f.Laws
theorem SF.Shape.actLen {f : SF} (s : f.Shape) {a : Int} (h : a.toNat < f.shape.frm.length) : ((ix f.acts a).length : Int) = ix f.sizes (ix f.shape.frm a) := (s.act a.toNat (by rw [s.al]; exact h)).1
theorem SF.Shape.idLen {f : SF} (s : f.Shape) {x : Nat} (h : x < f.shape.idn.length) : ((ix f.acts (f.shape.idn.getD x default)).length : Int) = f.sizes.getD x default := by
 have h1 := s.is.1.idn _ (mem_getD.mpr ⟨x, h, rfl⟩);rw [s.actLen (by omega), (s.is.1.ide x h).1, ix_nat]
end Go.Shf
namespace Go.Shf
open Go.AW
def nats (p : Nat → Bool) (n : Nat) : List Int := ((List.range n).filter p).map Int.ofNat
theorem mem_nats {p : Nat → Bool} {n : Nat} {y : Int} : y ∈ nats p n ↔ 0 ≤ y ∧ y.toNat < n ∧ p y.toNat = true := by
 simp only [nats, List.mem_map, List.mem_filter, List.mem_range]
 constructor
 ·rintro ⟨b, ⟨h1, h2⟩, rfl⟩; exact ⟨Int.natCast_nonneg b, by simpa using h1, by simpa using h2⟩
 ·rintro ⟨h1, h2, h3⟩; exact ⟨y.toNat, ⟨h2, h3⟩, Int.toNat_of_nonneg h1⟩
theorem nats_succ (p : Nat → Bool) (n : Nat) : nats p (n + 1) = nats p n ++ if p n then [(n : Int)] else [] := by
 rw [nats, range_succ_filter, List.map_append]; congr 1; split <;> rfl
theorem nats_t {p : Nat → Bool} {n : Nat} (h : p n = true) : nats p (n + 1) = nats p n ++ [(n : Int)] := by rw [nats_succ, if_pos h]
theorem nats_f {p : Nat → Bool} {n : Nat} (h : p n = false) : nats p (n + 1) = nats p n := by rw [nats_succ, if_neg (by simp [h]), List.append_nil]
@[simp] theorem nats_0 (p : Nat → Bool) : nats p 0 = [] := rfl
theorem nats_len (p : Nat → Bool) (n : Nat) : (nats p n).length ≤ n := by
 rw [nats, List.length_map]; exact Nat.le_trans (List.length_filter_le _ _) (by simp)
theorem outs_nats (c : Cat) (x : Int) : outs c x = nats (fun i => c.frm.getD i default = x) c.frm.length := rfl
theorem rising_pw {l : List Int} : Rising l ↔ l.Pairwise (· < ·) := by
 constructor
 ·intro h;rw [List.pairwise_iff_getElem]
  intro i j hi hj hij
  have key : ∀ d i, i + d < l.length → 0 < d → l.getD i default < l.getD (i + d) default := by
   intro d
   induction d with
   | zero => intro i _ h; omega
   | succ d ih =>
    intro i hi _
    have h1 := h (i + d + 1) (by omega) hi;simp only [Nat.add_sub_cancel] at h1
    by_cases hd : d = 0
    ·subst hd; exact h1
    ·have := ih i (by omega) (by omega); exact Int.lt_trans this h1
  have := key (j - i) i (by omega) (by omega);rw [show i + (j - i) = j by omega] at this
  simpa [List.getD_eq_getElem?_getD, hi, hj] using this
 ·intro h i h0 hi;rw [List.pairwise_iff_getElem] at h
  have := h (i - 1) i (by omega) hi (by omega)
  simpa [List.getD_eq_getElem?_getD, hi, show i - 1 < l.length by omega] using this
theorem nats_rising (p : Nat → Bool) (n : Nat) : Rising (nats p n) := by
 rw [rising_pw, nats, List.pairwise_map];exact (List.pairwise_lt_range.filter _).imp fun {a b} h => by simpa using h
theorem rising_ext {l r : List Int} (hl : Rising l) (hr : Rising r) (h : ∀ y, y ∈ l ↔ y ∈ r) : l = r := by
 rw [rising_pw] at hl hr;refine List.Perm.eq_of_pairwise (le := (· < ·)) (fun a b _ _ h1 h2 => by omega) hl hr ?_;refine (List.perm_ext_iff_of_nodup ?_ ?_).mpr h
 ·exact hl.imp fun {a b} h => by omega
 ·exact hr.imp fun {a b} h => by omega
def pullP (c : Cat) (a : Int) (s : List Int) (b : Nat) : Bool := decide (ix c.to a = c.frm.getD b default) && decide ((ix c.comp a).getD b default ∈ s)
def pullS (c : Cat) (a : Int) (s : List Int) : List Int := nats (pullP c a s) c.frm.length
theorem pullP_t {c : Cat} {a : Int} {s : List Int} {b : Nat} (h1 : ix c.to a = c.frm.getD b default) (h2 : (ix c.comp a).getD b default ∈ s) : pullP c a s b = true := by simp only [pullP, Bool.and_eq_true, decide_eq_true_eq]; exact ⟨h1, h2⟩
theorem pullP_f {c : Cat} {a : Int} {s : List Int} {b : Nat} (h : ¬ (ix c.to a = c.frm.getD b default ∧ (ix c.comp a).getD b default ∈ s)) : pullP c a s b = false := by
 cases e : pullP c a s b with
 | false => rfl
 | true => simp only [pullP, Bool.and_eq_true, decide_eq_true_eq] at e; exact absurd e h
noncomputable def closeP (c : Cat) (l : List Int) (h : Nat) : Bool := dec (∃ a, a ∈ l ∧ ∃ b : Nat, b < c.frm.length ∧ ix c.to a = c.frm.getD b default ∧ (ix c.comp a).getD b default = (h : Int))
noncomputable def closeS (c : Cat) (l : List Int) : List Int := nats (closeP c l) c.frm.length
section
variable {c : Cat}
theorem mem_pullS {a : Int} {s : List Int} {y : Int} : y ∈ pullS c a s ↔ (0 ≤ y ∧ y.toNat < c.frm.length) ∧ ix c.to a = ix c.frm y ∧ ix (ix c.comp a) y ∈ s := by
 simp only [pullS, pullP, mem_nats, Bool.and_eq_true, decide_eq_true_eq, and_assoc]; exact Iff.rfl
theorem mem_closeS {l : List Int} {y : Int} : y ∈ closeS c l ↔ (0 ≤ y ∧ y.toNat < c.frm.length) ∧ ∃ a, a ∈ l ∧ ∃ b : Int, (0 ≤ b ∧ b.toNat < c.frm.length) ∧ ix c.to a = ix c.frm b ∧ ix (ix c.comp a) b = y := by
 simp only [closeS, closeP, mem_nats, dec_iff, and_assoc]
 constructor
 ·rintro ⟨h1, h2, a, ha, b, hb, e1, e2⟩;rw [Int.toNat_of_nonneg h1] at e2;exact ⟨h1, h2, a, ha, b, Int.natCast_nonneg b, by simpa using hb, by simpa [ix] using e1, by simpa [ix] using e2⟩
 ·rintro ⟨h1, h2, a, ha, b, hb0, hb, e1, e2⟩;refine ⟨h1, h2, a, ha, b.toNat, hb, e1, ?_⟩;rw [Int.toNat_of_nonneg h1]; exact e2
theorem Cat.Shape.comp (s : c.Shape) {a b : Int} (ha : 0 ≤ a ∧ a.toNat < c.frm.length) (hb : 0 ≤ b ∧ b.toNat < c.frm.length) (e : ix c.to a = ix c.frm b) :
  (0 ≤ ix (ix c.comp a) b ∧ (ix (ix c.comp a) b).toNat < c.frm.length) ∧ ix c.frm (ix (ix c.comp a) b) = ix c.frm a ∧ ix c.to (ix (ix c.comp a) b) = ix c.to b := by
 have := s.yes a.toNat b.toNat ha.2 hb.2 e;refine ⟨⟨this.1.1, ?_⟩, this.2⟩
 have := this.1; simp only [ix]; omega
theorem Cat.Is.assoc (h : c.Is) {f g k : Int} (hf : 0 ≤ f ∧ f.toNat < c.frm.length) (hg : 0 ≤ g ∧ g.toNat < c.frm.length) (hk : 0 ≤ k ∧ k.toNat < c.frm.length)
  (e1 : ix c.to f = ix c.frm g) (e2 : ix c.to g = ix c.frm k) : ix (ix c.comp (ix (ix c.comp f) g)) k = ix (ix c.comp f) (ix (ix c.comp g) k) := by
 have := h.2.assoc f.toNat g.toNat k.toNat hf.2 hg.2 hk.2 e1 e2
 simpa only [ix, Int.toNat_natCast] using this
theorem Cat.Shape.toObj (s : c.Shape) {f : Int} (hf : f.toNat < c.frm.length) : 0 ≤ ix c.to f ∧ ix c.to f < c.objs := s.to _ (ix_mem (by rw [s.tol]; exact hf))
theorem Cat.Shape.frmObj (s : c.Shape) {f : Int} (hf : f.toNat < c.frm.length) : 0 ≤ ix c.frm f ∧ ix c.frm f < c.objs := s.frm _ (ix_mem hf)
theorem Cat.Shape.idArr (s : c.Shape) {x : Int} (hx : 0 ≤ x ∧ x < c.objs) : (0 ≤ ix c.idn x ∧ (ix c.idn x).toNat < c.frm.length) ∧ ix c.frm (ix c.idn x) = x ∧ ix c.to (ix c.idn x) = x := by
 have hl := s.il
 have h1 := s.id' (x := x) (by omega)
 have h2 := s.ide x.toNat (by omega);rw [Int.toNat_of_nonneg hx.1] at h2;exact ⟨h1, h2⟩
theorem Cat.Is.idr (h : c.Is) {f : Int} (hf : 0 ≤ f ∧ f.toNat < c.frm.length) : ix (ix c.comp f) (ix c.idn (ix c.to f)) = f := by
 have := (h.2.idl f.toNat hf.2).2;rw [Int.toNat_of_nonneg hf.1] at this; exact this
theorem Cat.Is.idl (h : c.Is) {f : Int} (hf : 0 ≤ f ∧ f.toNat < c.frm.length) : ix (ix c.comp (ix c.idn (ix c.frm f))) f = f := by
 have := (h.2.idl f.toNat hf.2).1;rw [Int.toNat_of_nonneg hf.1] at this; exact this
theorem Cat.Sieve.arr {x : Int} {s : List Int} (h : c.Sieve x s) {a : Int} (ha : a ∈ s) : (0 ≤ a ∧ a.toNat < c.frm.length) ∧ ix c.frm a = x := by
 have := h.ran a ha;exact ⟨⟨this.1, by omega⟩, h.src a ha⟩
theorem Cat.Sieve.cls' {x : Int} {s : List Int} (h : c.Sieve x s) {a b : Int} (ha : a ∈ s) (hb : 0 ≤ b ∧ b.toNat < c.frm.length) (e : ix c.to a = ix c.frm b) : ix (ix c.comp a) b ∈ s :=
 h.cls a ha b.toNat hb.2 e
theorem Cat.Sieve.mk' {x : Int} {s : List Int} (hr : Rising s) (ha : ∀ a, a ∈ s → (0 ≤ a ∧ a.toNat < c.frm.length) ∧ ix c.frm a = x)
  (hc : ∀ a b, a ∈ s → (0 ≤ b ∧ b.toNat < c.frm.length) → ix c.to a = ix c.frm b → ix (ix c.comp a) b ∈ s) : c.Sieve x s :=
 ⟨hr, fun y hy => ⟨(ha y hy).1.1, by have := (ha y hy).1; omega⟩, fun y hy => (ha y hy).2, fun a hy b hb e => by
  have := hc a (b : Int) hy ⟨Int.natCast_nonneg b, by simpa using hb⟩ (by simpa [ix] using e)
  simpa [ix] using this⟩
theorem Cat.Sieve.ext {x : Int} {s t : List Int} (hs : c.Sieve x s) (ht : c.Sieve x t) (h : ∀ y, y ∈ s ↔ y ∈ t) : s = t := rising_ext hs.ris ht.ris h
theorem outs_sieve (s : c.Shape) (x : Int) : c.Sieve x (outs c x) :=
 .mk' (outs_nats c x ▸ nats_rising _ _) (fun a ha => by have := mem_outs.mp ha; exact ⟨⟨this.1, this.2.1⟩, this.2.2⟩) fun a b ha hb e => by
  have h := mem_outs.mp ha
  have := s.comp ⟨h.1, h.2.1⟩ hb e;exact mem_outs.mpr ⟨this.1.1, this.1.2, this.2.1.trans h.2.2⟩
theorem nil_sieve (x : Int) : c.Sieve x [] := .mk' (fun i _ h => by simp at h) (fun a h => by simp at h) fun a b h => by simp at h
theorem pullS_sieve (h : c.Is) {a : Int} {s : List Int} (ha : 0 ≤ a ∧ a.toNat < c.frm.length) (hs : c.Sieve (ix c.frm a) s) : c.Sieve (ix c.to a) (pullS c a s) :=
 .mk' (nats_rising _ _) (fun b hb => by have := mem_pullS.mp hb; exact ⟨this.1, this.2.1.symm⟩) fun b d hb hd e => by
  have hb := mem_pullS.mp hb
  have h1 := h.1.comp hb.1 hd e;refine mem_pullS.mpr ⟨h1.1, by rw [h1.2.1]; exact hb.2.1, ?_⟩;rw [← h.assoc ha hb.1 hd hb.2.1 e];exact hs.cls' hb.2.2 hd (by rw [(h.1.comp ha hb.1 hb.2.1).2.2]; exact e)
theorem closeS_sieve (h : c.Is) {x : Int} {l : List Int} (hl : ∀ a, a ∈ l → (0 ≤ a ∧ a.toNat < c.frm.length) ∧ ix c.frm a = x) : c.Sieve x (closeS c l) :=
 .mk' (nats_rising _ _) (fun y hy => by
  obtain ⟨h1, a, ha, b, hb, e1, e2⟩ := mem_closeS.mp hy;refine ⟨h1, ?_⟩;rw [← e2, (h.1.comp (hl a ha).1 hb e1).2.1]; exact (hl a ha).2) fun y d hy hd e => by
  obtain ⟨h1, a, ha, b, hb, e1, e2⟩ := mem_closeS.mp hy
  have k1 := h.1.comp (hl a ha).1 hb e1
  have k2 : ix c.to b = ix c.frm d := by rw [← k1.2.2, e2]; exact e
  have k3 := h.1.comp hb hd k2;refine mem_closeS.mpr ⟨(h.1.comp h1 hd e).1, a, ha, _, k3.1, by rw [k3.2.1]; exact e1, ?_⟩;rw [← h.assoc (hl a ha).1 hb hd e1 k2, e2]
theorem sub_closeS (h : c.Is) {l : List Int} {a : Int} (ha : a ∈ l) (hl : 0 ≤ a ∧ a.toNat < c.frm.length) : a ∈ closeS c l := by
 have h1 := h.1.idArr (h.1.toObj hl.2);exact mem_closeS.mpr ⟨hl, a, ha, _, h1.1, h1.2.1.symm, h.idr hl⟩
theorem closeS_sub {x : Int} {l s : List Int} (hs : c.Sieve x s) (h : ∀ a, a ∈ l → a ∈ s) {y : Int} (hy : y ∈ closeS c l) : y ∈ s := by
 obtain ⟨_, a, ha, b, hb, e1, e2⟩ := mem_closeS.mp hy;rw [← e2]; exact hs.cls' (h a ha) hb e1
theorem closeS_self (h : c.Is) {x : Int} {s l : List Int} (hs : c.Sieve x s) (h1 : ∀ a, a ∈ l ↔ a ∈ s) : closeS c l = s := by
 have hl : ∀ a, a ∈ l → (0 ≤ a ∧ a.toNat < c.frm.length) ∧ ix c.frm a = x := fun a ha => hs.arr ((h1 a).mp ha);refine (closeS_sieve h hl).ext hs fun y => ⟨closeS_sub hs fun a ha => (h1 a).mp ha, fun hy => sub_closeS h ((h1 y).mpr hy) (hs.arr hy).1⟩
theorem all_sieves (h : c.Is) {x : Int} {L : List (List Int)} (h0 : [] ∈ L) (hs : ∀ t, t ∈ L → c.Sieve x t) (hc : ∀ t, t ∈ L → ∀ a, a ∈ outs c x → closeS c (t ++ [a]) ∈ L) :
  ∀ s, c.Sieve x s → s ∈ L := by
 intro s hS
 have key : ∀ n t, t ∈ L → (∀ a, a ∈ t → a ∈ s) → (s.filter fun a => decide (a ∉ t)).length = n → s ∈ L := by
  intro n
  induction n using Nat.strongRecOn with
  | _ n ih =>
   intro t ht hsub hn
   by_cases he : ∃ a, a ∈ s ∧ a ∉ t
   ·obtain ⟨a, ha, hat⟩ := he
    have hao := hS.arr ha
    have hl : ∀ b, b ∈ t ++ [a] → (0 ≤ b ∧ b.toNat < c.frm.length) ∧ ix c.frm b = x := by
     intro b hb
     rcases List.mem_append.mp hb with hb | hb
     ·exact (hs t ht).arr hb
     ·rw [List.mem_singleton] at hb; subst hb; exact hao
    have hin := hc t ht a (mem_outs.mpr ⟨hao.1.1, hao.1.2, hao.2⟩);refine ih _ ?_ _ hin (fun b hb => closeS_sub hS (fun b hb => ?_) hb) rfl
    ·rw [← hn]
     have hsup : ∀ b, b ∈ t → b ∈ closeS c (t ++ [a]) := fun b hb => sub_closeS h (by simp [hb]) (hl b (by simp [hb])).1
     have ha2 : a ∈ closeS c (t ++ [a]) := sub_closeS h (by simp) hao.1;rw [← List.countP_eq_length_filter, ← List.countP_eq_length_filter]
     have h1 : List.countP (fun b => decide (b ∉ closeS c (t ++ [a]))) s + 1 ≤ List.countP (fun b => decide (b ∉ t)) s := by
      obtain ⟨s1, s2, rfl⟩ := List.append_of_mem ha;simp only [List.countP_append, List.countP_cons]
      have i1 : List.countP (fun b => decide (b ∉ closeS c (t ++ [a]))) s1 ≤ List.countP (fun b => decide (b ∉ t)) s1 :=
       List.countP_mono_left fun b _ hb => by simp only [decide_eq_true_eq] at hb ⊢; exact fun h => hb (hsup b h)
      have i2 : List.countP (fun b => decide (b ∉ closeS c (t ++ [a]))) s2 ≤ List.countP (fun b => decide (b ∉ t)) s2 :=
       List.countP_mono_left fun b _ hb => by simp only [decide_eq_true_eq] at hb ⊢; exact fun h => hb (hsup b h)
      simp only [ha2, hat, not_true_eq_false, decide_false, not_false_eq_true, decide_true, if_true, Bool.false_eq_true, if_false];omega
     omega
    ·rcases List.mem_append.mp hb with hb | hb
     ·exact hsub b hb
     ·rw [List.mem_singleton] at hb; subst hb; exact ha
   ·have : t = s := (hs t ht).ext hS fun y => ⟨hsub y, fun hy => Classical.byContradiction fun hn => he ⟨y, hy, hn⟩⟩;rw [← this]; exact ht
 exact key _ [] h0 (fun a ha => by simp at ha) rfl
structure IsAll (c : Cat) (x : Int) (L : List (List Int)) : Prop where
 srt : L.Pairwise fun s t => cmp s t < 0
 mem : ∀ s, s ∈ L ↔ c.Sieve x s
theorem IsAll.uniq {x : Int} {L M : List (List Int)} (h : IsAll c x L) (k : IsAll c x M) : L = M := by
 refine List.Perm.eq_of_pairwise (le := fun s t => cmp s t < 0) (fun a b _ _ h1 h2 => ?_) h.srt k.srt ?_
 ·have := cmp_neg a b; omega
 ·refine (List.perm_ext_iff_of_nodup ?_ ?_).mpr fun s => (h.mem s).trans (k.mem s).symm
  ·exact h.srt.imp fun {a b} h e => by rw [cmp_zero.mpr e] at h; omega
  ·exact k.srt.imp fun {a b} h e => by rw [cmp_zero.mpr e] at h; omega
theorem IsAll.nodup {x : Int} {L : List (List Int)} (h : IsAll c x L) : L.Nodup := h.srt.imp fun {a b} h e => by rw [cmp_zero.mpr e] at h; omega
def Few (c : Cat) (x : Int) : Prop := ∃ L, IsAll c x L ∧ L.length ≤ 16
theorem Few.no {x : Int} {M : List (List Int)} (hn : M.Nodup) (hm : ∀ s, s ∈ M → c.Sieve x s) (hl : 16 < M.length) : ¬ Few c x := by
 rintro ⟨L, hL, h⟩
 have := List.Nodup.length_le_of_subset hn fun s hs => (hL.mem s).mpr (hm s hs);omega
open Classical in
noncomputable def allS (c : Cat) (x : Int) : List (List Int) := if h : Few c x then Classical.choose h else []
theorem allS_is {x : Int} (h : Few c x) : IsAll c x (allS c x) ∧ (allS c x).length ≤ 16 := by
 rw [allS, dif_pos h]; exact Classical.choose_spec h
theorem allS_eq {x : Int} {L : List (List Int)} (h : IsAll c x L) (hl : L.length ≤ 16) : Few c x ∧ allS c x = L :=
 have hf : Few c x := ⟨L, h, hl⟩
 ⟨hf, (allS_is hf).1.uniq h⟩
end
end Go.Shf
namespace Go.Shf
open Go.AW
end Go.Shf
namespace Go.Shf
open Go.AW
def CloseR (c : Cat) (l : List Int) (i b h : Nat) : Prop := ix c.to (l.getD i default) = c.frm.getD b default ∧ (ix c.comp (l.getD i default)).getD b default = (h : Int)
def CloseI (c : Cat) (l : List Int) (k b' : Nat) (A : List Bool) : Prop := A.length = c.frm.length ∧
 ∀ h, h < c.frm.length → (A.getD h default = true ↔ (∃ i, i < k ∧ ∃ b, b < c.frm.length ∧ CloseR c l i b h) ∨ ∃ b, b < b' ∧ CloseR c l k b h)
theorem CloseI.zero (c : Cat) (l : List Int) : CloseI c l 0 0 (List.replicate c.frm.length false) := by
 refine ⟨by simp, fun h hh => ?_⟩;simp only [List.getD_eq_getElem?_getD, List.getElem?_replicate, hh, if_true, Option.getD_some]
 constructor
 ·intro e; cases e
 ·rintro (⟨i, hi, _⟩ | ⟨b, hb, _⟩) <;> omega
theorem CloseI.row {c : Cat} {l : List Int} {k : Nat} {A : List Bool} (h : CloseI c l k c.frm.length A) : CloseI c l (k + 1) 0 A := by
 refine ⟨h.1, fun x hx => (h.2 x hx).trans ⟨?_, ?_⟩⟩
 ·rintro (⟨i, hi, e⟩ | ⟨b, hb, e⟩)
  ·exact .inl ⟨i, by omega, e⟩
  ·exact .inl ⟨k, by omega, b, hb, e⟩
 ·rintro (⟨i, hi, b, hb, e⟩ | ⟨b, hb, e⟩)
  ·by_cases e2 : i = k
   ·subst e2; exact .inr ⟨b, hb, e⟩
   ·exact .inl ⟨i, by omega, b, hb, e⟩
  ·omega
theorem CloseI.skip {c : Cat} {l : List Int} {k b' : Nat} {A : List Bool} (h : CloseI c l k b' A) (hn : ¬ ix c.to (l.getD k default) = c.frm.getD b' default) : CloseI c l k (b' + 1) A := by
 refine ⟨h.1, fun x hx => (h.2 x hx).trans (or_congr_right ⟨?_, ?_⟩)⟩
 ·rintro ⟨b, hb, e⟩; exact ⟨b, by omega, e⟩
 ·rintro ⟨b, hb, e⟩
  by_cases e2 : b = b'
  ·subst e2; exact absurd e.1 hn
  ·exact ⟨b, by omega, e⟩
theorem getD_set {α : Type} (l : List α) (i j : Nat) (a d : α) : (l.set i a).getD j d = if i = j ∧ j < l.length then a else l.getD j d := by
 rw [List.getD_eq_getElem?_getD, List.getElem?_set, List.getD_eq_getElem?_getD]
 by_cases h : i = j
 ·subst h
  by_cases h2 : i < l.length
  ·simp [h2]
  ·simp [h2, List.getElem?_eq_none (show l.length ≤ i by omega)]
 ·simp [h]
theorem CloseI.set {c : Cat} {l : List Int} {k b' : Nat} {A : List Bool} (h : CloseI c l k b' A) (he : ix c.to (l.getD k default) = c.frm.getD b' default)
  (hr : 0 ≤ (ix c.comp (l.getD k default)).getD b' default) : CloseI c l k (b' + 1) (A.set ((ix c.comp (l.getD k default)).getD b' default).toNat true) := by
 refine ⟨by rw [List.length_set]; exact h.1, fun x hx => ?_⟩
 by_cases e : ((ix c.comp (l.getD k default)).getD b' default).toNat = x
 ·have : (A.set ((ix c.comp (l.getD k default)).getD b' default).toNat true).getD x default = true := by
   rw [getD_set, if_pos ⟨e, by rw [h.1]; exact hx⟩]
  rw [this];exact ⟨fun _ => .inr ⟨b', by omega, he, by omega⟩, fun _ => rfl⟩
 ·have : (A.set ((ix c.comp (l.getD k default)).getD b' default).toNat true).getD x default = A.getD x default := by
   rw [getD_set, if_neg fun h => e h.1]
  rw [this, h.2 x hx];refine or_congr_right ⟨?_, ?_⟩
  ·rintro ⟨b, hb, e⟩; exact ⟨b, by omega, e⟩
  ·rintro ⟨b, hb, e3⟩
   by_cases e2 : b = b'
   ·subst e2; exact absurd (by have := e3.2; omega) e
   ·exact ⟨b, by omega, e3⟩
theorem CloseI.done {c : Cat} {l : List Int} {k : Nat} {A : List Bool} (h : CloseI c l k 0 A) (hk : k = l.length) : nats (fun i => A.getD i default) A.length = closeS c l := by
 subst hk;rw [closeS, h.1, nats, nats]
 congr 1
 refine List.filter_congr fun x hx => ?_;rw [List.mem_range] at hx;rw [Bool.eq_iff_iff, h.2 x hx, closeP, dec_iff]
 constructor
 ·rintro (⟨i, hi, b, hb, e⟩ | ⟨b, hb, e⟩)
  ·exact ⟨_, mem_getD.mpr ⟨i, hi, rfl⟩, b, hb, e⟩
  ·omega
 ·rintro ⟨a, ha, b, hb, e⟩
  obtain ⟨i, hi, rfl⟩ := mem_getD.mp ha;exact .inl ⟨i, hi, b, hb, e⟩
def CloseO (c : Cat) (l : List Int) (k j : Nat) (A : List Bool) : Prop := A.length = c.frm.length ∧
 ∀ h, h < c.frm.length → (A.getD h default = true ↔ (∃ i, i < k ∧ ∃ b, b < c.frm.length ∧ CloseR c l i b h) ∨
  ∃ i, i < j ∧ i < (outs c (ix c.to (l.getD k default))).length ∧ ix (ix c.comp (l.getD k default)) ((outs c (ix c.to (l.getD k default))).getD i default) = (h : Int))
theorem CloseI.out {c : Cat} {l : List Int} {k : Nat} {A : List Bool} (h : CloseI c l k 0 A) : CloseO c l k 0 A :=
 ⟨h.1, fun x hx => (h.2 x hx).trans (or_congr_right ⟨fun ⟨b, hb, _⟩ => by omega, fun ⟨b, hb, _⟩ => by omega⟩)⟩
theorem CloseO.row {c : Cat} {l : List Int} {k j : Nat} {A : List Bool} (h : CloseO c l k j A) (hj : (outs c (ix c.to (l.getD k default))).length ≤ j) : CloseI c l (k + 1) 0 A := by
 refine CloseI.row ⟨h.1, fun x hx => (h.2 x hx).trans (or_congr_right ⟨?_, ?_⟩)⟩
 ·rintro ⟨i, _, hi, e⟩
  have hm : (outs c (ix c.to (l.getD k default))).getD i default ∈ outs c (ix c.to (l.getD k default)) := mem_getD.mpr ⟨i, hi, rfl⟩
  have hm := mem_outs.mp hm;exact ⟨_, hm.2.1, hm.2.2.symm, e⟩
 ·rintro ⟨b, hb, e1, e2⟩
  have hm : (b : Int) ∈ outs c (ix c.to (l.getD k default)) := mem_outs.mpr ⟨by omega, by simpa using hb, by rw [ix_nat]; exact e1.symm⟩
  obtain ⟨i, hi, e⟩ := mem_getD.mp hm;exact ⟨i, by omega, hi, by rw [e, ix_nat]; exact e2⟩
theorem CloseO.set {c : Cat} {l : List Int} {k j : Nat} {A : List Bool} (h : CloseO c l k j A) (hj : j < (outs c (ix c.to (l.getD k default))).length)
  (hr : 0 ≤ ix (ix c.comp (l.getD k default)) ((outs c (ix c.to (l.getD k default))).getD j default)) :
  CloseO c l k (j + 1) (A.set (ix (ix c.comp (l.getD k default)) ((outs c (ix c.to (l.getD k default))).getD j default)).toNat true) := by
 refine ⟨by rw [List.length_set]; exact h.1, fun x hx => ?_⟩;rw [getD_set]
 split
 ·rename_i e
  exact ⟨fun _ => .inr ⟨j, by omega, hj, by omega⟩, fun _ => rfl⟩
 ·rename_i e
  rw [h.2 x hx];refine or_congr_right ⟨?_, ?_⟩
  ·rintro ⟨i, h1, e1⟩; exact ⟨i, by omega, e1⟩
  ·rintro ⟨i, h1, h2, e1⟩
   by_cases e2 : i = j
   ·subst e2; exact absurd ⟨by rw [e1]; simp, by rw [h.1]; exact hx⟩ e
   ·exact ⟨i, by omega, h2, e1⟩
end Go.Shf
namespace Go.Shf
open Go.AW
structure GrowQ (c : Cat) (x : Int) (s : List Int) (found out : List (List Int)) : Prop where
 nd : out.Nodup
 sv : ∀ t, t ∈ out → c.Sieve x t
 le : out.length ≤ 17
 sub : ∀ t, t ∈ found → t ∈ out
 all : 16 < out.length ∨ (s ∈ out ∧ ∀ t, t ∈ out → t ∉ found → ∀ a, a ∈ outs c x → closeS c (t ++ [a]) ∈ out)
structure GrowL (c : Cat) (x : Int) (s : List Int) (found : List (List Int)) (k : Nat) (out : List (List Int)) : Prop where
 nd : out.Nodup
 sv : ∀ t, t ∈ out → c.Sieve x t
 le : out.length ≤ 17
 sub : ∀ t, t ∈ found → t ∈ out
 own : s ∈ out
 all : 16 < out.length ∨ ((∀ t, t ∈ out → t ∉ found → t ≠ s → ∀ a, a ∈ outs c x → closeS c (t ++ [a]) ∈ out) ∧ ∀ i, i < k → i < (outs c x).length → closeS c (s ++ [(outs c x).getD i default]) ∈ out)
section
variable {c : Cat} {x : Int} {s : List Int} {found out : List (List Int)}
theorem GrowQ.stop (nd : found.Nodup) (sv : ∀ t, t ∈ found → c.Sieve x t) (le : found.length ≤ 17) (h : s ∈ found ∨ 16 < found.length) : GrowQ c x s found found :=
 ⟨nd, sv, le, fun _ h => h, h.elim (fun h => .inr ⟨h, fun t h1 h2 => absurd h1 h2⟩) .inl⟩
theorem GrowL.zero (nd : found.Nodup) (sv : ∀ t, t ∈ found → c.Sieve x t) (hs : c.Sieve x s) (h : s ∉ found) (hl : found.length ≤ 16) : GrowL c x s found 0 (found ++ [s]) := by
 refine ⟨?_, ?_, by simp; omega, fun t ht => by simp [ht], by simp, .inr ⟨fun t h1 h2 h3 => ?_, fun i hi => by omega⟩⟩
 ·rw [List.nodup_append];refine ⟨nd, by simp, fun a ha b hb => ?_⟩;rw [List.mem_singleton] at hb; subst hb
  rintro rfl; exact h ha
 ·intro t ht
  rcases List.mem_append.mp ht with ht | ht
  ·exact sv t ht
  ·rw [List.mem_singleton] at ht; subst ht; exact hs
 ·rcases List.mem_append.mp h1 with h1 | h1
  ·exact absurd h1 h2
  ·rw [List.mem_singleton] at h1; exact absurd h1 h3
theorem GrowL.skip {k : Nat} (h : GrowL c x s found k out) (hk : k < (outs c x).length) (hm : closeS c (s ++ [(outs c x).getD k default]) = s) : GrowL c x s found (k + 1) out :=
 ⟨h.nd, h.sv, h.le, h.sub, h.own, h.all.imp_right fun ⟨h1, h2⟩ => ⟨h1, fun i hi hl => by
  by_cases e : i = k
  ·subst e; rw [hm]; exact h.own
  ·exact h2 i (by omega) hl⟩⟩
theorem GrowL.step {k : Nat} {out' : List (List Int)} (h : GrowL c x s found k out) (hk : k < (outs c x).length) (q : GrowQ c x (closeS c (s ++ [(outs c x).getD k default])) out out') : GrowL c x s found (k + 1) out' := by
 refine ⟨q.nd, q.sv, q.le, fun t ht => q.sub t (h.sub t ht), q.sub s h.own, ?_⟩
 rcases h.all with h1 | ⟨h1, h2⟩
 ·left
  have := List.Nodup.length_le_of_subset h.nd fun t ht => q.sub t ht;omega
 ·refine q.all.imp_right fun ⟨q1, q2⟩ => ⟨fun t ht hn hs a ha => ?_, fun i hi hl => ?_⟩
  ·by_cases e : t ∈ out
   ·exact q.sub _ (h1 t e hn hs a ha)
   ·exact q2 t ht e a ha
  ·by_cases e : i = k
   ·subst e; exact q1
   ·exact q.sub _ (h2 i (by omega) hl)
theorem GrowL.done {k : Nat} (h : GrowL c x s found k out) (hk : (outs c x).length ≤ k) : GrowQ c x s found out :=
 ⟨h.nd, h.sv, h.le, h.sub, h.all.imp_right fun ⟨h1, h2⟩ => ⟨h.own, fun t ht hn a ha => by
  by_cases e : t = s
  ·subst e
   obtain ⟨i, hi, rfl⟩ := mem_getD.mp ha;exact h2 i (by omega) hi
  ·exact h1 t ht hn e a ha⟩⟩
def missing (c : Cat) (x : Int) (s : List Int) : Nat := (outs c x).countP fun a => decide (a ∉ s)
theorem missing_lt (h : c.Is) (hs : c.Sieve x s) {a : Int} (ha : a ∈ outs c x) (hn : a ∉ s) : missing c x (closeS c (s ++ [a])) < missing c x s := by
 have hao := mem_outs.mp ha
 have hl : ∀ b, b ∈ s ++ [a] → (0 ≤ b ∧ b.toNat < c.frm.length) ∧ ix c.frm b = x := by
  intro b hb
  rcases List.mem_append.mp hb with hb | hb
  ·exact hs.arr hb
  ·rw [List.mem_singleton] at hb; subst hb; exact ⟨⟨hao.1, hao.2.1⟩, hao.2.2⟩
 have hsup : ∀ b, b ∈ s → b ∈ closeS c (s ++ [a]) := fun b hb => sub_closeS h (by simp [hb]) (hl b (by simp [hb])).1
 have ha2 : a ∈ closeS c (s ++ [a]) := sub_closeS h (by simp) (hl a (by simp)).1;unfold missing
 obtain ⟨s1, s2, e⟩ := List.append_of_mem ha;rw [e];simp only [List.countP_append, List.countP_cons]
 have i1 : List.countP (fun b => decide (b ∉ closeS c (s ++ [a]))) s1 ≤ List.countP (fun b => decide (b ∉ s)) s1 :=
  List.countP_mono_left fun b _ hb => by simp only [decide_eq_true_eq] at hb ⊢; exact fun h => hb (hsup b h)
 have i2 : List.countP (fun b => decide (b ∉ closeS c (s ++ [a]))) s2 ≤ List.countP (fun b => decide (b ∉ s)) s2 :=
  List.countP_mono_left fun b _ hb => by simp only [decide_eq_true_eq] at hb ⊢; exact fun h => hb (hsup b h)
 simp only [ha2, hn, not_true_eq_false, decide_false, not_false_eq_true, decide_true, if_true, Bool.false_eq_true, if_false];omega
theorem add_sieve (h : c.Is) (hs : c.Sieve x s) {a : Int} (ha : a ∈ outs c x) : c.Sieve x (closeS c (s ++ [a])) := by
 have hao := mem_outs.mp ha;refine closeS_sieve h fun b hb => ?_
 rcases List.mem_append.mp hb with hb | hb
 ·exact hs.arr hb
 ·rw [List.mem_singleton] at hb; subst hb; exact ⟨⟨hao.1, hao.2.1⟩, hao.2.2⟩
theorem add_self (h : c.Is) (hs : c.Sieve x s) {a : Int} (ha : a ∈ s) : closeS c (s ++ [a]) = s :=
 closeS_self h hs fun b => by
  rw [List.mem_append, List.mem_singleton];exact ⟨fun e => e.elim id fun e => e ▸ ha, .inl⟩
theorem all_of_grow (h : c.Is) {L M : List (List Int)} (nd : L.Nodup) (sv : ∀ t, t ∈ L → c.Sieve x t) (hp : M.Perm L) (hs : M.Pairwise fun s t => cmp s t ≤ 0)
  (ha : 16 < L.length ∨ ([] ∈ L ∧ ∀ t, t ∈ L → ∀ a, a ∈ outs c x → closeS c (t ++ [a]) ∈ L)) : (L.length ≤ 16 ↔ Few c x) ∧ (Few c x → M = allS c x) := by
 by_cases hl : L.length ≤ 16
 ·obtain ⟨h1, h2⟩ := ha.resolve_left (by omega)
  have hM : IsAll c x M := by
   refine ⟨?_, fun s => ⟨fun hm => sv s (hp.mem_iff.mp hm), fun hS => hp.mem_iff.mpr (all_sieves h h1 sv h2 s hS)⟩⟩
   have hnd : M.Nodup := hp.nodup_iff.mpr nd;refine (hs.and hnd).imp fun {a b} ⟨h3, h4⟩ => ?_
   have := mt cmp_zero.mp h4;omega
  have := allS_eq hM (by rw [hp.length_eq]; exact hl);exact ⟨⟨fun _ => this.1, fun _ => hl⟩, fun _ => this.2.symm⟩
 ·have : ¬ Few c x := Few.no nd sv (by omega);exact ⟨⟨fun h => absurd h hl, fun h => absurd h this⟩, fun h => absurd h this⟩
end
structure SortI (l : List (List Int)) (i k : Nat) (A : List (List Int)) : Prop where
 pm : A.Perm l
 le : k ≤ i
 lt : i < l.length
 ord : ∀ a b, a < b → b ≤ i → b ≠ k → cmp (A.getD a default) (A.getD b default) ≤ 0
theorem cmp_le_trans {a b c : List Int} (h : cmp a b ≤ 0) (k : cmp b c ≤ 0) : cmp a c ≤ 0 := by
 by_cases h1 : cmp a b = 0
 ·rw [cmp_zero.mp h1]; exact k
 ·by_cases h2 : cmp b c = 0
  ·rw [← cmp_zero.mp h2]; exact h
  ·have := cmp_trans (a := a) (b := b) (c := c) (by omega) (by omega); omega
theorem SortI.swap {l A : List (List Int)} {i k : Nat} (h : SortI l i (k + 1) A) (hc : cmp (A.getD (k + 1) default) (A.getD k default) < 0) :
  SortI l i k ((A.set (k + 1) (A.getD k default)).set k (A.getD (k + 1) default)) := by
 have hl := h.pm.length_eq
 have hi := h.lt
 have hk := h.le
 have g : ∀ j, ((A.set (k + 1) (A.getD k default)).set k (A.getD (k + 1) default)).getD j default = if j = k then A.getD (k + 1) default else if j = k + 1 then A.getD k default else A.getD j default := by
  intro j;rw [getD_set, getD_set, List.length_set]
  by_cases e : j = k
  ·subst e; rw [if_pos ⟨rfl, by omega⟩, if_pos rfl]
  ·rw [if_neg fun h => e h.1.symm, if_neg e]
   by_cases e2 : j = k + 1
   ·subst e2; rw [if_pos ⟨rfl, by omega⟩, if_pos rfl]
   ·rw [if_neg fun h => e2 h.1.symm, if_neg e2]
 refine ⟨?_, by omega, h.lt, fun a b hab hb hne => ?_⟩
 ·refine List.Perm.trans ?_ h.pm
  have := List.set_set_perm (as := A) (i := k + 1) (j := k) (by omega) (by omega)
  simpa [List.getD_eq_getElem?_getD, show k < A.length by omega, show k + 1 < A.length by omega] using this
 ·rw [g, g];rw [if_neg hne]
  by_cases e1 : b = k + 1
  ·subst e1;rw [if_pos rfl]
   by_cases e2 : a = k
   ·subst e2; rw [if_pos rfl]; omega
   ·rw [if_neg e2, if_neg (by omega)];exact h.ord a k (by omega) (by omega) (by omega)
  ·rw [if_neg e1]
   by_cases e2 : a = k
   ·subst e2; rw [if_pos rfl]; exact h.ord (a + 1) b (by omega) hb e1
   ·rw [if_neg e2]
    by_cases e3 : a = k + 1
    ·subst e3; rw [if_pos rfl]; exact h.ord k b (by omega) hb e1
    ·rw [if_neg e3]; exact h.ord a b hab hb e1
theorem SortI.stop {l A : List (List Int)} {i k : Nat} (h : SortI l i k A) (hc : k = 0 ∨ 0 < k ∧ ¬ cmp (A.getD k default) (A.getD (k - 1) default) < 0) : ∀ a b, a < b → b ≤ i → cmp (A.getD a default) (A.getD b default) ≤ 0 := by
 intro a b hab hb
 by_cases e : b = k
 ·subst e
  rcases hc with rfl | ⟨h0, hc⟩
  ·omega
  ·have h1 : cmp (A.getD (b - 1) default) (A.getD b default) ≤ 0 := by rw [cmp_neg]; omega
   by_cases e2 : a = b - 1
   ·subst e2; exact h1
   ·exact cmp_le_trans (h.ord a (b - 1) (by omega) (by omega) (by omega)) h1
 ·exact h.ord a b hab hb e
theorem sorted_getD {A : List (List Int)} (h : ∀ a b, a < b → b < A.length → cmp (A.getD a default) (A.getD b default) ≤ 0) : A.Pairwise fun s t => cmp s t ≤ 0 := by
 rw [List.pairwise_iff_getElem]
 intro i j hi hj hij
 have := h i j hij hj
 simpa [List.getD_eq_getElem?_getD, hi, hj] using this
theorem Cat.Sieve.len {c : Cat} {x : Int} {s : List Int} (h : c.Sieve x s) : s.length ≤ c.frm.length := by
 have h1 : s.Nodup := (rising_pw.mp h.ris).imp fun {a b} h => by omega
 have := List.Nodup.length_le_of_subset (l₂ := (List.range c.frm.length).map Int.ofNat) h1 fun y hy => by
  have := h.arr hy;rw [List.mem_map];exact ⟨y.toNat, List.mem_range.mpr this.1.2, Int.toNat_of_nonneg this.1.1⟩
 simpa using this
end Go.Shf
namespace Go.Shf
open Go.AW
def AllFew (c : Cat) : Prop := ∀ x : Nat, x < c.objs.toNat → Few c x
noncomputable def listsOf (c : Cat) : List (List (List Int)) := (List.range c.objs.toNat).map fun x : Nat => allS c (x : Int)
open Classical in
noncomputable def tabS (c : Cat) : List (List (List Int)) := if AllFew c then listsOf c else []
theorem tabS_t {c : Cat} (h : AllFew c) : tabS c = listsOf c := by rw [tabS, if_pos h]
theorem tabS_f {c : Cat} (h : ¬ AllFew c) : tabS c = [] := by rw [tabS, if_neg h]
def rowP (c : Cat) (L : List (List (List Int))) (a : Nat) : List Int := (L.getD (c.frm.getD a default).toNat default).map fun s => indexOf (L.getD (c.to.getD a default).toNat default) (pullS c a s)
def pullsOf (c : Cat) (L : List (List (List Int))) : List (List Int) := (List.range c.frm.length).map (rowP c L)
def topOf (c : Cat) (L : List (List (List Int))) (x : Nat) : Int := indexOf (L.getD x default) (outs c x)
def topsOf (c : Cat) (L : List (List (List Int))) : List Int := (List.range L.length).map (topOf c L)
theorem map_range_succ {α : Type} (f : Nat → α) (k : Nat) : (List.range (k + 1)).map f = (List.range k).map f ++ [f k] := by rw [List.range_succ]; simp
theorem getD_map_range {α : Type} (f : Nat → α) (d : α) {n k : Nat} (h : k < n) : ((List.range n).map f).getD k d = f k := by
 simp [List.getD_eq_getElem?_getD, h]
@[go_sem] def tabCells (c : Cat) (L : List (List (List Int))) : List AV := [iI c.objs, iL c.frm, iL c.to, iL c.idn, iLL c.comp, iLLL L, iLL (pullsOf c L), iL (topsOf c L)]
@[go_sem] def tabZ : List AV := [.int .i64 0, .nilsl, .nilsl, .nilsl, .nilsl, .nilsl, .nilsl, .nilsl]
open Classical in
noncomputable def tabA (c : Cat) : List AV := if AllFew c then tabCells c (listsOf c) else tabZ
theorem tabA_t {c : Cat} (h : AllFew c) : tabA c = tabCells c (listsOf c) := by rw [tabA, if_pos h]
theorem tabA_f {c : Cat} (h : ¬ AllFew c) : tabA c = tabZ := by rw [tabA, if_neg h]
structure TabOk (c : Cat) (L : List (List (List Int))) : Prop where
 is : c.Is
 len : (L.length : Int) = c.objs
 all : ∀ x : Nat, x < L.length → IsAll c x (L.getD x default)
 few : ∀ x : Nat, x < L.length → (L.getD x default).length ≤ 16
theorem tabOk {c : Cat} (h : c.Is) (hf : AllFew c) : TabOk c (listsOf c) := by
 have ho := h.1.o;refine ⟨h, by simp [listsOf]; omega, fun x hx => ?_, fun x hx => ?_⟩
 ·have hx : x < c.objs.toNat := by simpa [listsOf] using hx
  rw [listsOf, getD_map_range _ _ hx]; exact (allS_is (hf x hx)).1
 ·have hx : x < c.objs.toNat := by simpa [listsOf] using hx
  rw [listsOf, getD_map_range _ _ hx]; exact (allS_is (hf x hx)).2
theorem indexOf_in {α : Type} [DecidableEq α] [Inhabited α] {l : List α} {a : α} (h : a ∈ l) : 0 ≤ indexOf l a ∧ (indexOf l a).toNat < l.length ∧ ix l (indexOf l a) = a := by
 unfold indexOf
 split
 ·rename_i i e
  rw [List.idxOf?_eq_some_iff] at e
  obtain ⟨hi, e, _⟩ := e;refine ⟨by omega, by simpa using hi, ?_⟩
  simpa [ix, List.getD_eq_getElem?_getD, hi] using e
 ·rename_i e; rw [List.idxOf?_eq_none_iff] at e; exact absurd h e
theorem indexOf_nodup {α : Type} [DecidableEq α] [Inhabited α] {l : List α} (h : l.Nodup) {k : Nat} (hk : k < l.length) : indexOf l (l.getD k default) = k := by
 refine indexOf_hit hk (fun i hi e => ?_) rfl
 have h1 : i < l.length := by omega
 have := (List.getElem_inj h (h₀ := h1) (h₁ := hk)).mp (by simpa [List.getD_eq_getElem?_getD, h1, hk] using e);omega
section
variable {c : Cat} {L : List (List (List Int))}
theorem TabOk.sv (t : TabOk c L) {x : Nat} (hx : x < L.length) {k : Nat} (hk : k < (L.getD x default).length) : c.Sieve x ((L.getD x default).getD k default) :=
 ((t.all x hx).mem _).mp (mem_getD.mpr ⟨k, hk, rfl⟩)
theorem TabOk.frm (t : TabOk c L) {a : Int} (h : 0 ≤ a ∧ a.toNat < c.frm.length) : 0 ≤ ix c.frm a ∧ (ix c.frm a).toNat < L.length := by
 have := t.is.1.frmObj h.2; have := t.len; omega
theorem TabOk.to (t : TabOk c L) {a : Int} (h : 0 ≤ a ∧ a.toNat < c.frm.length) : 0 ≤ ix c.to a ∧ (ix c.to a).toNat < L.length := by
 have := t.is.1.toObj h.2; have := t.len; omega
theorem TabOk.at (t : TabOk c L) {x : Int} (h0 : 0 ≤ x) (hx : x.toNat < L.length) : IsAll c x (ix L x) := by
 have := t.all x.toNat hx;rw [Int.toNat_of_nonneg h0] at this; exact this
theorem pulls_len : (pullsOf c L).length = c.frm.length := by simp [pullsOf]
theorem pulls_get {a : Int} (h : 0 ≤ a ∧ a.toNat < c.frm.length) : ix (pullsOf c L) a = (ix L (ix c.frm a)).map fun s => indexOf (ix L (ix c.to a)) (pullS c a s) := by
 rw [ix, pullsOf, getD_map_range _ _ h.2];rw [rowP, Int.toNat_of_nonneg h.1]; rfl
theorem pulls_row {a : Int} (h : 0 ≤ a ∧ a.toNat < c.frm.length) : (ix (pullsOf c L) a).length = (ix L (ix c.frm a)).length := by rw [pulls_get h]; simp
theorem TabOk.pull (t : TabOk c L) {a : Int} (h : 0 ≤ a ∧ a.toNat < c.frm.length) {k : Nat} (hk : k < (ix L (ix c.frm a)).length) :
  (0 ≤ (ix (pullsOf c L) a).getD k default ∧ ((ix (pullsOf c L) a).getD k default).toNat < (ix L (ix c.to a)).length) ∧
   ix (ix L (ix c.to a)) ((ix (pullsOf c L) a).getD k default) = pullS c a ((ix L (ix c.frm a)).getD k default) := by
 have hf := t.frm h
 have ht := t.to h
 have hs : c.Sieve (ix c.frm a) ((ix L (ix c.frm a)).getD k default) := ((t.at hf.1 hf.2).mem _).mp (mem_getD.mpr ⟨k, hk, rfl⟩)
 have hp := ((t.at ht.1 ht.2).mem _).mpr (pullS_sieve t.is h hs)
 have e : (ix (pullsOf c L) a).getD k default = indexOf (ix L (ix c.to a)) (pullS c a ((ix L (ix c.frm a)).getD k default)) := by
  rw [pulls_get h]; simp [List.getD_eq_getElem?_getD, hk]
 rw [e]
 have := indexOf_in hp;exact ⟨⟨this.1, this.2.1⟩, this.2.2⟩
theorem tops_len : (topsOf c L).length = L.length := by simp [topsOf]
theorem TabOk.top (t : TabOk c L) {x : Nat} (hx : x < L.length) : (0 ≤ (topsOf c L).getD x default ∧ ((topsOf c L).getD x default).toNat < (L.getD x default).length) ∧ ix (L.getD x default) ((topsOf c L).getD x default) = outs c x := by
 have h := ((t.all x hx).mem _).mpr (outs_sieve t.is.1 x)
 have e : (topsOf c L).getD x default = indexOf (L.getD x default) (outs c x) := by rw [topsOf, getD_map_range _ _ hx, topOf]
 rw [e]
 have := indexOf_in h;exact ⟨⟨this.1, this.2.1⟩, this.2.2⟩
end
def mg (M : List (List Bool)) (x : Int) (k : Int) : Bool := ix (ix M x) k
structure MarkOk (L : List (List (List Int))) (M : List (List Bool)) : Prop where
 len : M.length = L.length
 row : ∀ x : Nat, x < L.length → (M.getD x default).length = (L.getD x default).length
def LocP (c : Cat) (L : List (List (List Int))) (M : List (List Bool)) (x s k : Nat) : Prop :=
 ∀ i, i < ((L.getD x default).getD s default).length → mg M (ix c.to (((L.getD x default).getD s default).getD i default)) ((ix (pullsOf c L) (((L.getD x default).getD s default).getD i default)).getD k default) = true
def AOk (c : Cat) (L : List (List (List Int))) (M : List (List Bool)) (x s a : Nat) : Prop := c.frm.getD a default = x → mg M (c.to.getD a default) (((pullsOf c L).getD a default).getD s default) = true
def KOk (c : Cat) (L : List (List (List Int))) (M : List (List Bool)) (x s k : Nat) : Prop := (M.getD x default).getD k default = true ∨ ¬ LocP c L M x s k
def SOk (c : Cat) (L : List (List (List Int))) (M : List (List Bool)) (x s : Nat) : Prop := (M.getD x default).getD s default = true →
 (∀ a, a < c.frm.length → AOk c L M x s a) ∧ ∀ k, k < (M.getD x default).length → KOk c L M x s k
def XOk (c : Cat) (L : List (List (List Int))) (M : List (List Bool)) (x : Nat) : Prop := mg M x ((topsOf c L).getD x default) = true ∧ ∀ s, s < (M.getD x default).length → SOk c L M x s
def TopM (c : Cat) (L : List (List (List Int))) (M : List (List Bool)) : Prop := ∀ x, x < M.length → XOk c L M x
end Go.Shf
namespace Go.Shf
open Go.AW
theorem map_getD {α β : Type} [Inhabited α] (f : α → β) {l : List α} {k : Nat} {d : β} (h : k < l.length) : (l.map f).getD k d = f (l.getD k default) := by simp [List.getD_eq_getElem?_getD, h]
def markRow (S C : List (List Int)) : List Bool := S.map fun s => decide (s ∈ C)
def markAt (L C : List (List (List Int))) (x : Nat) : List Bool := markRow (L.getD x default) (C.getD x default)
def marksOf (L C : List (List (List Int))) : List (List Bool) := (List.range L.length).map (markAt L C)
structure TopIs (c : Cat) (C : List (List (List Int))) : Prop where
 top : ∀ x : Nat, x < c.objs.toNat → outs c x ∈ C.getD x default
 pull : ∀ a : Nat, a < c.frm.length → ∀ s, s ∈ C.getD (c.frm.getD a default).toNat default → pullS c a s ∈ C.getD (c.to.getD a default).toNat default
 loc : ∀ x : Nat, x < c.objs.toNat → ∀ s, s ∈ C.getD x default → ∀ t, c.Sieve x t → (∀ a, a ∈ s → pullS c a t ∈ C.getD (ix c.to a).toNat default) → t ∈ C.getD x default
section
variable {c : Cat} {L C : List (List (List Int))}
theorem marks_len : (marksOf L C).length = L.length := by simp [marksOf]
theorem marks_get {x : Nat} (hx : x < L.length) : (marksOf L C).getD x default = (L.getD x default).map fun s => decide (s ∈ C.getD x default) := by
 rw [marksOf, getD_map_range _ _ hx]; rfl
theorem marks_at {x k : Nat} (hx : x < L.length) (hk : k < (L.getD x default).length) : ((marksOf L C).getD x default).getD k default = decide ((L.getD x default).getD k default ∈ C.getD x default) := by
 rw [marks_get hx, map_getD _ hk]
theorem markOk : MarkOk L (marksOf L C) := ⟨marks_len, fun x hx => by rw [marks_get hx]; simp⟩
theorem mg_marks {x : Nat} {k : Int} (hx : x < L.length) (hk : k.toNat < (L.getD x default).length) : mg (marksOf L C) x k = decide (ix (L.getD x default) k ∈ C.getD x default) := by
 rw [mg, ix_nat, ix, marks_at hx hk]; rfl
theorem mg_marks' {x k : Int} (h0 : 0 ≤ x) (hx : x.toNat < L.length) (hk : k.toNat < (ix L x).length) : mg (marksOf L C) x k = decide (ix (ix L x) k ∈ C.getD x.toNat default) := by
 have := mg_marks (C := C) (x := x.toNat) (k := k) hx hk;rw [Int.toNat_of_nonneg h0] at this; rw [this]; rfl
theorem topM_iff (t : TabOk c L) (hC : ∀ x : Nat, x < L.length → ∀ s, s ∈ C.getD x default → c.Sieve x s) : TopM c L (marksOf L C) ↔ TopIs c C := by
 have hLo := t.len
 have ho := t.is.1.o
 have loc : ∀ {x s k : Nat}, x < L.length → s < (L.getD x default).length → k < (L.getD x default).length →
   (LocP c L (marksOf L C) x s k ↔ ∀ a, a ∈ (L.getD x default).getD s default → pullS c a ((L.getD x default).getD k default) ∈ C.getD (ix c.to a).toNat default) := by
  intro x s k hx hs hk
  have hsv := t.sv hx hs;rw [LocP, all_getD];refine forall_congr' fun i => imp_congr_right fun hi => ?_
  have ha := hsv.arr (mem_getD.mpr ⟨i, hi, rfl⟩)
  have hkr : k < (ix L (ix c.frm (((L.getD x default).getD s default).getD i default))).length := by rw [ha.2, ix_nat]; exact hk
  have hp := t.pull ha.1 hkr
  have ht := t.to ha.1;rw [mg_marks' ht.1 ht.2 hp.1.2, hp.2, decide_eq_true_eq, ha.2, ix_nat]
 constructor
 ·intro h;refine ⟨fun x hx => ?_, fun a ha s hs => ?_, fun x hx s hs u hu hloc => ?_⟩
  ·have hx : x < L.length := by omega
   have := (h x (by rw [marks_len]; exact hx)).1
   have htop := t.top hx;rw [mg_marks hx htop.1.2, htop.2, decide_eq_true_eq] at this;exact this
  ·have haa : 0 ≤ (a : Int) ∧ (a : Int).toNat < c.frm.length := ⟨by omega, by simpa using ha⟩
   have hf := t.frm haa
   have ht := t.to haa;simp only [ix_nat] at hf ht
   have hm := ((t.all _ hf.2).mem s).mpr (hC _ hf.2 s hs)
   obtain ⟨k, hk, rfl⟩ := mem_getD.mp hm
   have hkr : k < (ix L (ix c.frm a)).length := by rw [ix_nat]; exact hk
   have hp := t.pull haa hkr
   have := ((h _ (by rw [marks_len]; exact hf.2)).2 k (by rw [markOk.row _ hf.2]; exact hk) (by rw [marks_at hf.2 hk, decide_eq_true_eq]; exact hs)).1 a ha (by rw [Int.toNat_of_nonneg hf.1]);simp only [ix_nat] at hp;rw [mg_marks' ht.1 ht.2 hp.1.2, hp.2, decide_eq_true_eq] at this;exact this
  ·have hx : x < L.length := by omega
   have hm := ((t.all _ hx).mem s).mpr (hC _ hx s hs)
   obtain ⟨k, hk, rfl⟩ := mem_getD.mp hm
   obtain ⟨k', hk', rfl⟩ := mem_getD.mp (((t.all _ hx).mem u).mpr hu)
   have := ((h _ (by rw [marks_len]; exact hx)).2 k (by rw [markOk.row _ hx]; exact hk) (by rw [marks_at hx hk, decide_eq_true_eq]; exact hs)).2 k' (by rw [markOk.row _ hx]; exact hk')
   rcases this with e | e
   ·rw [marks_at hx hk', decide_eq_true_eq] at e; exact e
   ·exact absurd ((loc hx hk hk').mpr hloc) e
 ·intro h x hx;rw [marks_len] at hx
  have htop := t.top hx;refine ⟨?_, fun s hs hsm => ⟨fun a ha e => ?_, fun k hk => ?_⟩⟩
  ·rw [mg_marks hx htop.1.2, htop.2, decide_eq_true_eq]; exact h.top x (by omega)
  ·rw [markOk.row _ hx] at hs;rw [marks_at hx hs, decide_eq_true_eq] at hsm
   have haa : 0 ≤ (a : Int) ∧ (a : Int).toNat < c.frm.length := ⟨by omega, by simpa using ha⟩
   have ht := t.to haa;simp only [ix_nat] at ht
   have hsr : s < (ix L (ix c.frm a)).length := by rw [ix_nat, e, ix_nat]; exact hs
   have hp := t.pull haa hsr;simp only [ix_nat] at hp;rw [mg_marks' ht.1 ht.2 hp.1.2, hp.2, decide_eq_true_eq];rw [e, ix_nat];refine h.pull a ha _ ?_;rw [e]; exact hsm
  ·rw [markOk.row _ hx] at hs hk;rw [marks_at hx hs, decide_eq_true_eq] at hsm
   by_cases hl : LocP c L (marksOf L C) x s k
   ·left
    rw [marks_at hx hk, decide_eq_true_eq];exact h.loc x (by omega) _ hsm _ (t.sv hx hk) ((loc hx hs hk).mp hl)
   ·exact .inr hl
end
def RowI (S C : List (List Int)) (k : Nat) (A : List Bool) : Prop := A.length = S.length ∧ ∀ i, i < S.length → (A.getD i default = true ↔ ∃ j, j < k ∧ C.getD j default = S.getD i default)
theorem RowI.zero (S C : List (List Int)) : RowI S C 0 (List.replicate S.length false) := by
 refine ⟨by simp, fun i hi => ?_⟩;simp only [List.getD_eq_getElem?_getD, List.getElem?_replicate, hi, if_true, Option.getD_some];exact ⟨fun e => (by cases e), fun ⟨j, hj, _⟩ => (by omega)⟩
theorem RowI.step {S C : List (List Int)} {k : Nat} {A : List Bool} (h : RowI S C k A) (hn : S.Nodup) (hm : C.getD k default ∈ S) : RowI S C (k + 1) (A.set (indexOf S (C.getD k default)).toNat true) := by
 have hi := indexOf_in hm;refine ⟨by rw [List.length_set]; exact h.1, fun i hil => ?_⟩;rw [getD_set]
 split
 ·rename_i e
  refine ⟨fun _ => ⟨k, by omega, ?_⟩, fun _ => rfl⟩;rw [← hi.2.2, ix, e.1]
 ·rename_i e
  rw [h.2 i hil]
  constructor
  ·rintro ⟨j, hj, e2⟩; exact ⟨j, by omega, e2⟩
  ·rintro ⟨j, hj, e2⟩
   by_cases e3 : j = k
   ·subst e3
    exfalso; apply e
    refine ⟨?_, by rw [h.1]; exact hil⟩;rw [e2, indexOf_nodup hn hil]; simp
   ·exact ⟨j, by omega, e2⟩
theorem RowI.done {S C : List (List Int)} {A : List Bool} (h : RowI S C C.length A) : A = markRow S C := by
 refine List.ext_getElem (by rw [markRow, List.length_map]; exact h.1) fun i h1 h2 => ?_
 have hi : i < S.length := by have := h.1; omega
 have := h.2 i hi;rw [Bool.eq_iff_iff]
 have e1 : A.getD i default = A[i] := by simp [List.getD_eq_getElem?_getD, h1]
 rw [e1] at this;rw [this];simp only [markRow, List.getElem_map, decide_eq_true_eq]
 have e2 : S.getD i default = S[i] := by simp [List.getD_eq_getElem?_getD, hi]
 rw [e2, mem_getD]
end Go.Shf
namespace Go.Shf
open Go.AW
end Go.Shf
namespace Go.Shf
open Go.AW
structure Lk where
 i : Int
 j : Int
 left : List Int
 right : List Int
 deriving Inhabited
def Fits (p : List Int) (l : Lk) : Prop := 0 ≤ ix p l.i → 0 ≤ ix p l.j → ix l.left (ix p l.i) = ix l.right (ix p l.j)
def Cons (ls : List Lk) (p : List Int) : Prop := ∀ l, l ∈ ls → Fits p l
structure Ext (sizes : List Int) (ls : List Lk) (p t : List Int) : Prop where
 len : t.length = p.length
 new : ∀ n, n < p.length → p.getD n default = -1 → 0 ≤ t.getD n default ∧ t.getD n default < sizes.getD n default
 old : ∀ n, n < p.length → p.getD n default ≠ -1 → t.getD n default = p.getD n default
 cons : Cons ls t
structure IsLex (S : List Int → Prop) (L : List (List Int)) : Prop where
 srt : L.Pairwise fun s t => cmp s t < 0
 mem : ∀ t, t ∈ L ↔ S t
end Go.Shf
namespace Go.Shf
open Go.AW
end Go.Shf
namespace Go.Shf
open Go.AW
section
variable {sizes : List Int} {ls : List Lk} {p : List Int}
open Classical in
noncomputable def exS (sizes : List Int) (ls : List Lk) (p : List Int) : List (List Int) := if h : ∃ L, IsLex (Ext sizes ls p) L then Classical.choose h else []
end
end Go.Shf
namespace Go.Shf
open Go.AW
end Go.Shf
namespace Go.Shf
open Go.AW
def lkRow (c : Cat) (s : List Int) (i b : Nat) : List Int := [(i : Int), (b : Int), indexOf s (ix (ix c.comp (s.getD i default)) b)]
def hitP (c : Cat) (s : List Int) (i b : Nat) : Bool := decide (c.frm.getD b default = ix c.to (s.getD i default))
def rowsAt (c : Cat) (s : List Int) (i n : Nat) : List (List Int) := ((List.range n).filter (hitP c s i)).map (lkRow c s i)
def rowsTo (c : Cat) (s : List Int) (k : Nat) : List (List Int) := (List.range k).flatMap fun i => rowsAt c s i c.frm.length
def rowsOf (c : Cat) (s : List Int) : List (List Int) := rowsTo c s s.length
def famSizes (f : SF) (s : List Int) : List Int := s.map fun a => ix f.sizes (ix f.shape.to a)
def natsL (n : Int) : List Int := (List.range n.toNat).map Int.ofNat
def lkOf (f : SF) (s r : List Int) : Lk := ⟨r.getD 0 default, r.getD 2 default, ix f.acts (r.getD 1 default), natsL (ix (famSizes f s) (r.getD 2 default))⟩
def famLinks (f : SF) (s : List Int) : List Lk := (rowsOf f.shape s).map (lkOf f s)
noncomputable def solS (sizes : List Int) (ls : List Lk) : List (List Int) := exS sizes ls (List.replicate sizes.length (-1))
noncomputable def famS (f : SF) (s : List Int) : List (List Int) := solS (famSizes f s) (famLinks f s)
end Go.Shf
namespace Go.Shf
open Go.AW
def movedF (c : Cat) (V : List (List Int)) (a : Int) (t : List Int) : List Int := (ix V (ix c.to a)).map fun b => ix t (indexOf (ix V (ix c.frm a)) (ix (ix c.comp a) b))
noncomputable def famAt (f : SF) (V : List (List Int)) (x : Nat) : List (List Int) := famS f (V.getD x default)
noncomputable def famsOf (f : SF) (V : List (List Int)) : List (List (List Int)) := (List.range V.length).map (famAt f V)
noncomputable def sizeAt (f : SF) (V : List (List Int)) (x : Nat) : Int := ((famAt f V x).length : Int)
noncomputable def stepSizes (f : SF) (V : List (List Int)) : List Int := (List.range V.length).map (sizeAt f V)
noncomputable def actAt (f : SF) (V : List (List Int)) (a : Nat) : List Int :=
 (famAt f V (f.shape.frm.getD a default).toNat).map fun t => indexOf (famAt f V (f.shape.to.getD a default).toNat) (movedF f.shape V a t)
noncomputable def stepActs (f : SF) (V : List (List Int)) : List (List Int) := (List.range f.shape.frm.length).map (actAt f V)
def SF.CompL (f : SF) : Prop := ∀ a b : Int, (0 ≤ a ∧ a.toNat < f.shape.frm.length) → (0 ≤ b ∧ b.toNat < f.shape.frm.length) → ix f.shape.to a = ix f.shape.frm b → ∀ e : Int, 0 ≤ e ∧ e.toNat < (ix f.acts a).length →
 ix (ix f.acts (ix (ix f.shape.comp a) b)) e = ix (ix f.acts b) (ix (ix f.acts a) e)
theorem SF.Is.compL {f : SF} (h : f.Is) : f.CompL := fun a b ha hb e x hx => by
 have := h.2.comp a.toNat b.toNat ha.2 hb.2 e x.toNat hx.2;exact this
end Go.Shf
namespace Go.Shf
open Go.AW
end Go.Shf
namespace Go.Shf
open Go.AW
end Go.Shf
namespace Go.Shf
open Go.AW
end Go.Shf
namespace Go.Shf
open Go.AW
end Go.Shf
namespace Go.Shf
open Go.AW
structure SF.Part (f : SF) (p : List (List Int)) : Prop where
 len : p.length = f.sizes.length
 ris : ∀ x, x < f.sizes.length → Rising (p.getD x default)
 ran : ∀ x, x < f.sizes.length → ∀ e, e ∈ p.getD x default → 0 ≤ e ∧ e < f.sizes.getD x default
 cls : ∀ a : Int, (0 ≤ a ∧ a.toNat < f.shape.frm.length) → ∀ e, e ∈ ix p (ix f.shape.frm a) → ix (ix f.acts a) e ∈ ix p (ix f.shape.to a)
def partF (f : SF) (q : Nat → Nat → Bool) : List (List Int) := (List.range f.sizes.length).map fun x => nats (q x) (f.sizes.getD x default).toNat
section
variable {f : SF}
theorem partF_len {q : Nat → Nat → Bool} : (partF f q).length = f.sizes.length := by simp [partF]
theorem partF_get {q : Nat → Nat → Bool} {x : Nat} (h : x < f.sizes.length) : (partF f q).getD x default = nats (q x) (f.sizes.getD x default).toNat := by
 rw [partF, getD_map_range _ _ h]
theorem mem_partF {q : Nat → Nat → Bool} {x : Nat} (h : x < f.sizes.length) {e : Int} : e ∈ (partF f q).getD x default ↔ (0 ≤ e ∧ e < f.sizes.getD x default) ∧ q x e.toNat = true := by
 rw [partF_get h, mem_nats]
 constructor
 ·rintro ⟨h1, h2, h3⟩; exact ⟨⟨h1, by omega⟩, h3⟩
 ·rintro ⟨⟨h1, h2⟩, h3⟩; exact ⟨h1, by omega, h3⟩
theorem partF_part (h : f.Shape) {q : Nat → Nat → Bool} (hq : ∀ a : Int, (0 ≤ a ∧ a.toNat < f.shape.frm.length) → ∀ e : Int, (0 ≤ e ∧ e < ix f.sizes (ix f.shape.frm a)) → q (ix f.shape.frm a).toNat e.toNat = true →
  q (ix f.shape.to a).toNat (ix (ix f.acts a) e).toNat = true) : f.Part (partF f q) where
 len := partF_len
 ris x hx := by rw [partF_get hx]; exact nats_rising _ _
 ran x hx e he := ((mem_partF hx).mp he).1
 cls a ha e he := by
  have h1 := h.is.1.frmObj ha.2
  have h2 := h.is.1.toObj ha.2
  have hsl := h.sl
  have x1 : (ix f.shape.frm a).toNat < f.sizes.length := by omega
  have x2 : (ix f.shape.to a).toNat < f.sizes.length := by omega
  have m1 := (mem_partF x1).mp he;refine (mem_partF x2).mpr ⟨?_, hq a ha e m1.1 m1.2⟩
  have hal := h.actLen ha.2
  have hact := (h.act a.toNat (by rw [h.al]; exact ha.2)).2;refine hact _ (ix_mem ?_)
  have := m1.1
  have e1 : f.sizes.getD (ix f.shape.frm a).toNat default = ix f.sizes (ix f.shape.frm a) := rfl;rw [e1] at this
  have : ((f.acts.getD a.toNat default).length : Int) = ix f.sizes (ix f.shape.frm a) := hal;omega
theorem SF.Part.ext {p q : List (List Int)} (hp : f.Part p) (hq : f.Part q) (h : ∀ x, x < f.sizes.length → ∀ e, e ∈ p.getD x default ↔ e ∈ q.getD x default) : p = q := by
 refine List.ext_getElem (by rw [hp.len, hq.len]) fun i h1 h2 => ?_
 have hi : i < f.sizes.length := by rw [← hp.len]; exact h1
 have := rising_ext (hp.ris i hi) (hq.ris i hi) (h i hi)
 simpa [List.getD_eq_getElem?_getD, h1, h2] using this
end
end Go.Shf
namespace Go.Shf
open Go.AW
end Go.Shf
namespace Go.Shf
open Go.AW
structure MapL (f g : SF) (p : List (List Int)) : Prop where
 len : (p.length : Int) = f.shape.objs
 pl : ∀ x : Int, 0 ≤ x ∧ x < f.shape.objs → ((ix p x).length : Int) = ix f.sizes x ∧ ∀ e : Int, 0 ≤ e ∧ e < ix f.sizes x → 0 ≤ ix (ix p x) e ∧ ix (ix p x) e < ix g.sizes x
 nl : ∀ b : Int, 0 ≤ b ∧ b.toNat < f.shape.frm.length → ∀ e : Int, 0 ≤ e ∧ e < ix f.sizes (ix f.shape.frm b) → ix (ix p (ix f.shape.to b)) (ix (ix f.acts b) e) = ix (ix g.acts b) (ix (ix p (ix f.shape.frm b)) e)
end Go.Shf
namespace Go.Shf
open Go.AW
section
variable {f : SF} {L p : List (List (List Int))} {q m : List (List Int)}
def valP (f : SF) (q : List (List Int)) (x e : Int) (a : Nat) : Bool := decide (f.shape.frm.getD a default = x) && decide (ix (f.acts.getD a default) e ∈ ix q (f.shape.to.getD a default))
def valS (f : SF) (q : List (List Int)) (x e : Int) : List Int := nats (valP f q x e) f.shape.frm.length
theorem mem_valS {x e y : Int} : y ∈ valS f q x e ↔ (0 ≤ y ∧ y.toNat < f.shape.frm.length) ∧ ix f.shape.frm y = x ∧ ix (ix f.acts y) e ∈ ix q (ix f.shape.to y) := by
 simp only [valS, valP, mem_nats, Bool.and_eq_true, decide_eq_true_eq, and_assoc]; exact Iff.rfl
theorem SF.Shape.inAct (h : f.Shape) {a e : Int} (ha : 0 ≤ a ∧ a.toNat < f.shape.frm.length) (he : 0 ≤ e ∧ e < ix f.sizes (ix f.shape.frm a)) : 0 ≤ e ∧ e.toNat < (ix f.acts a).length := by
 have := h.actLen ha.2; omega
theorem val_sieve (h : f.Is) (hq : f.Part q) {x e : Int} (he : 0 ≤ e ∧ e < ix f.sizes x) : f.shape.Sieve x (valS f q x e) :=
 .mk' (nats_rising _ _) (fun a ha => ⟨(mem_valS.mp ha).1, (mem_valS.mp ha).2.1⟩) fun a b ha hb e1 => by
  obtain ⟨h1, h2, h3⟩ := mem_valS.mp ha
  have hc := h.1.is.1.comp h1 hb e1;refine mem_valS.mpr ⟨hc.1, hc.2.1.trans h2, ?_⟩;rw [hc.2.2, h.compL a b h1 hb e1 e (h.1.inAct h1 (by rw [h2]; exact he))];exact hq.cls b hb (ix (ix f.acts a) e) (by rw [← e1]; exact h3)
theorem pull_val (h : f.Is) {a e : Int} (ha : 0 ≤ a ∧ a.toNat < f.shape.frm.length) (he : 0 ≤ e ∧ e < ix f.sizes (ix f.shape.frm a)) :
  pullS f.shape a (valS f q (ix f.shape.frm a) e) = valS f q (ix f.shape.to a) (ix (ix f.acts a) e) := by
 refine rising_ext (nats_rising _ _) (nats_rising _ _) fun y => ?_;rw [mem_pullS, mem_valS, mem_valS]
 constructor
 ·rintro ⟨h1, h2, h3, h4, h5⟩
  have hc := h.1.is.1.comp ha h1 h2;rw [hc.2.2, h.compL a y ha h1 h2 e (h.1.inAct ha he)] at h5;exact ⟨h1, h2.symm, h5⟩
 ·rintro ⟨h1, h2, h3⟩
  have hc := h.1.is.1.comp ha h1 h2.symm;exact ⟨h1, h2.symm, hc.1, hc.2.1, by rw [hc.2.2, h.compL a y ha h1 h2.symm e (h.1.inAct ha he)]; exact h3⟩
theorem SF.Shape.inX (h : f.Shape) {x : Int} (hx : 0 ≤ x ∧ x < f.shape.objs) : 0 ≤ x ∧ x.toNat < f.sizes.length := by have := h.sl; omega
theorem SF.Shape.actTo (h : f.Shape) {a e : Int} (ha : 0 ≤ a ∧ a.toNat < f.shape.frm.length) (he : 0 ≤ e ∧ e < ix f.sizes (ix f.shape.frm a)) : 0 ≤ ix (ix f.acts a) e ∧ ix (ix f.acts a) e < ix f.sizes (ix f.shape.to a) :=
 (h.act a.toNat (by rw [h.al]; exact ha.2)).2 _ (ix_mem (h.inAct ha he).2)
theorem MapL.ext {g : SF} {m n : List (List Int)} (hm : MapL f g m) (hn : MapL f g n) (h : ∀ x e : Int, 0 ≤ x ∧ x < f.shape.objs → 0 ≤ e ∧ e < ix f.sizes x → ix (ix m x) e = ix (ix n x) e) : m = n := by
 have l1 := hm.len
 have l2 := hn.len;refine List.ext_getElem (by omega) fun i h1 h2 => ?_
 have hi : 0 ≤ (i : Int) ∧ (i : Int) < f.shape.objs := by omega
 have r1 := (hm.pl i hi).1
 have r2 := (hn.pl i hi).1
 have e1 : ix m (i : Int) = m[i] := by simp [ix_nat, List.getD_eq_getElem?_getD, h1]
 have e2 : ix n (i : Int) = n[i] := by simp [ix_nat, List.getD_eq_getElem?_getD, h2]
 rw [e1] at r1;rw [e2] at r2;refine List.ext_getElem (by omega) fun j k1 k2 => ?_
 have := h i j hi (by omega);rw [e1, e2] at this
 simpa [ix_nat, List.getD_eq_getElem?_getD, k1, k2] using this
end
end Go.Shf
namespace Go.Shf
open Go.AW
def ltT (s t : List (List Int)) : Prop := ∃ x e : Nat, (∀ y i : Nat, (y < x ∨ (y = x ∧ i < e)) → (s.getD y default).getD i default = (t.getD y default).getD i default) ∧
 (s.getD x default).getD e default < (t.getD x default).getD e default
theorem ltT_asymm {s t : List (List Int)} (h : ltT s t) (k : ltT t s) : False := by
 obtain ⟨x, e, h1, h2⟩ := h
 obtain ⟨y, i, k1, k2⟩ := k
 by_cases hlt : y < x ∨ (y = x ∧ i < e)
 ·have := h1 y i hlt; omega
 ·by_cases hgt : x < y ∨ (x = y ∧ e < i)
  ·have := k1 x e hgt; omega
  ·obtain rfl : x = y := by omega
   obtain rfl : e = i := by omega
   omega
def setT (p : List (List Int)) (y i k : Int) : List (List Int) := p.set y.toNat ((ix p y).set i.toNat k)
theorem setT_len (p : List (List Int)) (y i k : Int) : (setT p y i k).length = p.length := by simp [setT]
theorem setT_row (p : List (List Int)) (y i k : Int) (x : Nat) : ((setT p y i k).getD x default).length = (p.getD x default).length := by
 simp only [setT, List.getD_eq_getElem?_getD, List.getElem?_set]
 by_cases h : y.toNat = x
 ·subst h
  by_cases h2 : y.toNat < p.length
  ·simp [h2, ix, List.getD_eq_getElem?_getD]
  ·simp [h2, List.getElem?_eq_none (Nat.not_lt.mp h2)]
 ·rw [if_neg h]
theorem ix_setT (p : List (List Int)) {y i k : Int} (hy : 0 ≤ y ∧ y.toNat < p.length) (hi : 0 ≤ i ∧ i.toNat < (ix p y).length) {x e : Int} (hx : 0 ≤ x) (he : 0 ≤ e) :
  ix (ix (setT p y i k) x) e = if x = y ∧ e = i then k else ix (ix p x) e := by
 simp only [setT, ix, List.getD_eq_getElem?_getD, List.getElem?_set]
 by_cases h : y.toNat = x.toNat
 ·have hxy : x = y := by omega
  subst hxy;simp only [if_true, hy.2, if_true, Option.getD_some]
  have hi2 := hi.2;simp only [ix, List.getD_eq_getElem?_getD] at hi2;rw [List.getElem?_set]
  by_cases h2 : i.toNat = e.toNat
  ·have : e = i := by omega
   subst this
   simp [hi2]
  ·have : ¬ e = i := fun h => h2 (by rw [h])
   simp [h2, this]
 ·have : ¬ x = y := fun e => h (by rw [e]);rw [if_neg h]
  simp [this]
section
variable {f g : SF}
structure PT (f g : SF) (p : List (List Int)) : Prop where
 len : p.length = f.sizes.length
 row : ∀ x : Nat, x < f.sizes.length → ((p.getD x default).length : Int) = f.sizes.getD x default
 val : ∀ x e : Int, 0 ≤ x ∧ x < f.shape.objs → 0 ≤ e ∧ e < ix f.sizes x → ix (ix p x) e = -1 ∨ (0 ≤ ix (ix p x) e ∧ ix (ix p x) e < ix g.sizes x)
 cls : ∀ a : Int, (0 ≤ a ∧ a.toNat < f.shape.frm.length) → ∀ e : Int, 0 ≤ e ∧ e < ix f.sizes (ix f.shape.frm a) → 0 ≤ ix (ix p (ix f.shape.frm a)) e →
  ix (ix p (ix f.shape.to a)) (ix (ix f.acts a) e) = ix (ix g.acts a) (ix (ix p (ix f.shape.frm a)) e)
theorem PT.inT {p : List (List Int)} (h : f.Shape) (hp : PT f g p) {x e : Int} (hx : 0 ≤ x ∧ x < f.shape.objs) (he : 0 ≤ e ∧ e < ix f.sizes x) : (0 ≤ x ∧ x.toNat < p.length) ∧ 0 ≤ e ∧ e.toNat < (ix p x).length := by
 have hX := h.inX hx
 have := hp.row x.toNat hX.2
 have e0 : ix f.sizes x = f.sizes.getD x.toNat default := rfl
 have e1 : (ix p x).length = (p.getD x.toNat default).length := rfl
 have := hp.len;exact ⟨⟨hx.1, by omega⟩, he.1, by omega⟩
def ExtT (f g : SF) (p t : List (List Int)) : Prop := MapL f g t ∧ ∀ x e : Int, 0 ≤ x ∧ x < f.shape.objs → 0 ≤ e ∧ e < ix f.sizes x → 0 ≤ ix (ix p x) e → ix (ix t x) e = ix (ix p x) e
structure ListsT (f g : SF) (p : List (List Int)) (M : List (List (List Int))) : Prop where
 srt : M.Pairwise ltT
 mem : ∀ t, t ∈ M ↔ ExtT f g p t
theorem ListsT.nodup {p : List (List Int)} {M : List (List (List Int))} (h : ListsT f g p M) : M.Nodup := h.srt.imp fun {a b} h e => by subst e; exact ltT_asymm h h
theorem ListsT.uniq {p : List (List Int)} {M N : List (List (List Int))} (h : ListsT f g p M) (k : ListsT f g p N) : M = N :=
 List.Perm.eq_of_pairwise (le := ltT) (fun a b _ _ h1 h2 => (ltT_asymm h1 h2).elim) h.srt k.srt ((List.perm_ext_iff_of_nodup h.nodup k.nodup).mpr fun t => (h.mem t).trans (k.mem t).symm)
structure SetM (f g : SF) (p : List (List Int)) (x e d : Int) (k : Nat) (p' : List (List Int)) (N : List (Int × Int)) : Prop where
 len : p'.length = p.length
 row : ∀ y : Nat, (p'.getD y default).length = (p.getD y default).length
 new : ∀ y i : Int, 0 ≤ y → 0 ≤ i → ix (ix p' y) i = ix (ix p y) i ∨ ((y, i) ∈ N ∧ ∃ a, a ∈ (outs f.shape x).take k ∧ ix f.shape.to a = y ∧ ix (ix f.acts a) e = i ∧ ix (ix p' y) i = ix (ix g.acts a) d)
 old : ∀ y i : Int, (y, i) ∈ N → (0 ≤ y ∧ y.toNat < p.length) ∧ (0 ≤ i ∧ i.toNat < (ix p y).length) ∧ ix (ix p y) i = -1
 hit : ∀ a, a ∈ (outs f.shape x).take k → ix (ix p' (ix f.shape.to a)) (ix (ix f.acts a) e) = ix (ix g.acts a) d
 nl : N.length ≤ k
theorem SetM.zero (f g : SF) (p : List (List Int)) (x e d : Int) : SetM f g p x e d 0 p [] := ⟨rfl, fun _ => rfl, fun _ _ _ _ => .inl rfl, fun _ _ h => by simp at h, fun a h => by simp at h, by simp⟩
theorem SetM.rowI {p p' : List (List Int)} {x e d : Int} {k : Nat} {N : List (Int × Int)} (s : SetM f g p x e d k p' N) (y : Int) : (ix p' y).length = (ix p y).length := s.row y.toNat
variable {p p' : List (List Int)} {x e d : Int} {k : Nat} {N : List (Int × Int)}
theorem take_one {α : Type} [Inhabited α] (l : List α) {k : Nat} (hk : k < l.length) : l.take (k + 1) = l.take k ++ [l.getD k default] := by
 have hN : l[k] = l.getD k default := by simp [List.getD_eq_getElem?_getD, hk]
 rw [← hN]; exact (List.take_append_getElem hk).symm
theorem mem_take_succ {α : Type} [Inhabited α] {l : List α} {k : Nat} (hk : k < l.length) {a : α} : a ∈ l.take (k + 1) ↔ a ∈ l.take k ∨ a = l.getD k default := by
 rw [take_one l hk]; simp
theorem SetM.same (s : SetM f g p x e d k p' N) (hk : k < (outs f.shape x).length) {a : Int} (ea : (outs f.shape x).getD k default = a) (h : ix (ix p' (ix f.shape.to a)) (ix (ix f.acts a) e) = ix (ix g.acts a) d) :
  SetM f g p x e d (k + 1) p' N where
 len := s.len
 row := s.row
 new y i hy hi := (s.new y i hy hi).imp id fun ⟨h1, b, h2, h3⟩ => ⟨h1, b, (mem_take_succ hk).mpr (.inl h2), h3⟩
 old := s.old
 hit b hb := by
  rcases (mem_take_succ hk).mp hb with h1 | h1
  ·exact s.hit b h1
  ·rw [h1, ea]; exact h
 nl := by have := s.nl; omega
structure At3 (f g : SF) (x e d : Int) : Prop where
 hf : f.Is
 hg : g.Is
 sh : f.shape = g.shape
 hx : 0 ≤ x ∧ x < f.shape.objs
 he : 0 ≤ e ∧ e < ix f.sizes x
 hd : 0 ≤ d ∧ d < ix g.sizes x
theorem At3.arr (w : At3 f g x e d) {b : Int} (hb : b ∈ outs f.shape x) : (0 ≤ b ∧ b.toNat < f.shape.frm.length) ∧ ix f.shape.frm b = x ∧ (0 ≤ ix f.shape.to b ∧ ix f.shape.to b < f.shape.objs) ∧
  (0 ≤ ix (ix f.acts b) e ∧ ix (ix f.acts b) e < ix f.sizes (ix f.shape.to b)) ∧ (0 ≤ ix (ix g.acts b) d ∧ ix (ix g.acts b) d < ix g.sizes (ix f.shape.to b)) := by
 have h := mem_outs.mp hb
 have hb' : 0 ≤ b ∧ b.toNat < f.shape.frm.length := ⟨h.1, h.2.1⟩
 have h3 : ix f.shape.frm b = x := h.2.2;refine ⟨hb', h3, w.hf.1.is.1.toObj hb'.2, w.hf.1.actTo hb' (by rw [h3]; exact w.he), ?_⟩
 have := w.hg.1.actTo (a := b) (e := d) (by rw [← w.sh]; exact hb') (by rw [← w.sh, h3]; exact w.hd);rw [← w.sh] at this;exact this
theorem SetM.fresh (w : At3 f g x e d) (hP : PT f g p) (s : SetM f g p x e d k p' N) (hk : k < (outs f.shape x).length) {a : Int} (ea : (outs f.shape x).getD k default = a)
  (h : ¬ 0 ≤ ix (ix p' (ix f.shape.to a)) (ix (ix f.acts a) e)) :
  SetM f g p x e d (k + 1) (setT p' (ix f.shape.to a) (ix (ix f.acts a) e) (ix (ix g.acts a) d)) (N ++ [(ix f.shape.to a, ix (ix f.acts a) e)]) := by
 have hA := w.arr (b := a) (mem_getD.mpr ⟨k, hk, ea⟩)
 have hin := hP.inT w.hf.1 hA.2.2.1 hA.2.2.2.1
 have hp := hP.val _ _ hA.2.2.1 hA.2.2.2.1
 have hy' : 0 ≤ ix f.shape.to a ∧ (ix f.shape.to a).toNat < p'.length := by rw [s.len]; exact hin.1
 have hi' : 0 ≤ ix (ix f.acts a) e ∧ (ix (ix f.acts a) e).toNat < (ix p' (ix f.shape.to a)).length := by rw [s.rowI]; exact hin.2
 refine ⟨by rw [setT_len, s.len], fun y => by rw [setT_row, s.row], fun y i h0 h1 => ?_, fun y i hm => ?_, fun b hb => ?_, by have := s.nl; simp; omega⟩
 ·rw [ix_setT p' hy' hi' h0 h1]
  by_cases e1 : y = ix f.shape.to a ∧ i = ix (ix f.acts a) e
  ·rw [if_pos e1];exact .inr ⟨by rw [e1.1, e1.2]; simp, a, (mem_take_succ hk).mpr (.inr ea.symm), e1.1.symm, e1.2.symm, rfl⟩
  ·rw [if_neg e1];exact (s.new y i h0 h1).imp id fun ⟨q1, b, q2, q3⟩ => ⟨by simp [q1], b, (mem_take_succ hk).mpr (.inl q2), q3⟩
 ·rcases List.mem_append.mp hm with hm | hm
  ·exact s.old y i hm
  ·rw [List.mem_singleton] at hm
   injection hm with e1 e2
   subst e1 e2;refine ⟨hin.1, hin.2, ?_⟩
   rcases s.new _ _ hin.1.1 hin.2.1 with q | ⟨_, b, hb, q3, q4, q5⟩
   ·rw [q] at h; exact hp.resolve_right fun h2 => h h2.1
   ·rw [q5] at h;exact absurd (w.arr (List.mem_of_mem_take hb)).2.2.2.2.1 h
 ·by_cases hq : ix f.shape.to b = ix f.shape.to a ∧ ix (ix f.acts b) e = ix (ix f.acts a) e
  ·rcases (mem_take_succ hk).mp hb with hb | hb
   ·have := s.hit b hb;rw [hq.1, hq.2] at this;rw [this] at h;exact absurd (w.arr (List.mem_of_mem_take hb)).2.2.2.2.1 h
   ·rw [ea] at hb;subst hb;rw [ix_setT p' hy' hi' hin.1.1 hin.2.1, if_pos ⟨rfl, rfl⟩]
  ·rcases (mem_take_succ hk).mp hb with hb | hb
   ·have hB := w.arr (List.mem_of_mem_take hb);rw [ix_setT p' hy' hi' hB.2.2.1.1 hB.2.2.2.1.1, if_neg hq];exact s.hit b hb
   ·rw [ea] at hb; subst hb; exact absurd ⟨rfl, rfl⟩ hq
theorem SetM.bad (w : At3 f g x e d) (s : SetM f g p x e d k p' N) (hk : k < (outs f.shape x).length) {a : Int} (ea : (outs f.shape x).getD k default = a)
  (h : 0 ≤ ix (ix p' (ix f.shape.to a)) (ix (ix f.acts a) e)) (hne : ix (ix p' (ix f.shape.to a)) (ix (ix f.acts a) e) ≠ ix (ix g.acts a) d) (t : List (List Int)) (ht : ExtT f g p t) : ix (ix t x) e ≠ d := by
 intro ed
 have key : ∀ b, b ∈ outs f.shape x → ix (ix t (ix f.shape.to b)) (ix (ix f.acts b) e) = ix (ix g.acts b) d := fun b hb => by
  have hB := w.arr hb;rw [ht.1.nl b hB.1 e (by rw [hB.2.1]; exact w.he), hB.2.1, ed]
 have hA := w.arr (b := a) (mem_getD.mpr ⟨k, hk, ea⟩)
 have h1 := key a (mem_getD.mpr ⟨k, hk, ea⟩)
 rcases s.new _ _ hA.2.2.1.1 hA.2.2.2.1.1 with q | ⟨_, b, hb, q3, q4, q5⟩
 ·rw [q] at h hne;exact hne ((ht.2 _ _ hA.2.2.1 hA.2.2.2.1 h).symm.trans h1)
 ·have h2 := key b (List.mem_of_mem_take hb);rw [q3, q4] at h2;exact hne (q5.trans (h2.symm.trans h1))
theorem SF.Is.idAct (h : f.Is) {x e : Int} (hx : 0 ≤ x ∧ x < f.shape.objs) (he : 0 ≤ e ∧ e < ix f.sizes x) : ix (ix f.acts (ix f.shape.idn x)) e = e := by
 have hl := h.1.is.1.il
 have h2 := h.1.idLen (x := x.toNat) (by omega)
 have h3 := h.2.idl x.toNat (by omega) e.toNat (by
  have e0 : ix f.sizes x = f.sizes.getD x.toNat default := rfl;omega)
 rw [Int.toNat_of_nonneg he.1] at h3;exact h3
theorem SetM.keep (s : SetM f g p x e d k p' N) {y i : Int} (h0 : 0 ≤ y) (h1 : 0 ≤ i) (h : ix (ix p y) i ≠ -1) : ix (ix p' y) i = ix (ix p y) i := by
 rcases s.new y i h0 h1 with q | ⟨q, _⟩
 ·exact q
 ·exact absurd (s.old y i q).2.2 h
section
variable (w : At3 f g x e d) (hP : PT f g p) (s : SetM f g p x e d (outs f.shape x).length p' N)
include w hP s
theorem SetM.pt : PT f g p' where
 len := s.len.trans hP.len
 row y hy := by rw [s.row]; exact hP.row y hy
 val y i hy hi := by
  rcases s.new y i hy.1 hi.1 with q | ⟨_, b, hb, q3, q4, q5⟩
  ·rw [q]; exact hP.val y i hy hi
  ·have hB := w.arr (List.mem_of_mem_take hb);rw [q5, ← q3]; exact .inr hB.2.2.2.2
 cls a ha i hi h := by
  have hf := w.hf.1.is.1.frmObj ha.2
  have ht := w.hf.1.is.1.toObj ha.2
  have hai := w.hf.1.actTo ha hi
  rcases s.new _ i hf.1 hi.1 with q | ⟨_, b, hb, q3, q4, q5⟩
  ·rw [q] at h ⊢
   have hc := hP.cls a ha i hi h
   have hv := (hP.val _ i hf hi).resolve_left (by omega)
   have hg := w.hg.1.actTo (a := a) (e := ix (ix p (ix f.shape.frm a)) i) (by rw [← w.sh]; exact ha) (by rw [← w.sh]; exact hv);rw [s.keep ht.1 hai.1 (by rw [hc]; omega), hc]
  ·have hb := List.mem_of_mem_take hb
   have hB := w.arr hb
   have hc := w.hf.1.is.1.comp hB.1 ha q3
   have hm : ix (ix f.shape.comp b) a ∈ outs f.shape x := mem_outs.mpr ⟨hc.1.1, hc.1.2, hc.2.1.trans hB.2.1⟩
   have hh := s.hit _ (by rw [List.take_length]; exact hm)
   have hfe := w.hf.compL b a hB.1 ha q3 e (w.hf.1.inAct hB.1 (by rw [hB.2.1]; exact w.he))
   have hgd := w.hg.compL b a (by rw [← w.sh]; exact hB.1) (by rw [← w.sh]; exact ha) (by rw [← w.sh]; exact q3) d (w.hg.1.inAct (by rw [← w.sh]; exact hB.1) (by rw [← w.sh, hB.2.1]; exact w.hd));rw [← w.sh] at hgd;rw [hc.2.2, hfe, hgd, q4] at hh;rw [q5]; exact hh
theorem SetM.atE : ix (ix p' x) e = d := by
 have hid := w.hf.1.is.1.idArr w.hx
 have := s.hit (ix f.shape.idn x) (by rw [List.take_length]; exact mem_outs.mpr ⟨hid.1.1, hid.1.2, hid.2.1⟩)
 have h2 := w.hg.idAct (x := x) (e := d) (by rw [← w.sh]; exact w.hx) w.hd;rw [← w.sh] at h2;rw [hid.2.2, w.hf.idAct w.hx w.he, h2] at this;exact this
theorem SetM.ext (t : List (List Int)) : ExtT f g p' t ↔ ExtT f g p t ∧ ix (ix t x) e = d := by
 constructor
 ·rintro ⟨h1, h2⟩;refine ⟨⟨h1, fun y i hy hi h => ?_⟩, ?_⟩
  ·have := s.keep hy.1 hi.1 (by omega);rw [← this] at h ⊢;exact h2 y i hy hi h
  ·have := s.atE w hP;rw [h2 x e w.hx w.he (by rw [this]; exact w.hd.1), this]
 ·rintro ⟨⟨h1, h2⟩, ed⟩;refine ⟨h1, fun y i hy hi h => ?_⟩
  rcases s.new y i hy.1 hi.1 with q | ⟨_, b, hb, q3, q4, q5⟩
  ·rw [q] at h ⊢; exact h2 y i hy hi h
  ·have hB := w.arr (List.mem_of_mem_take hb);rw [q5, ← q3, ← q4, h1.nl b hB.1 e (by rw [hB.2.1]; exact w.he), hB.2.1, ed]
end
def posT (f : SF) : List (Int × Int) := (List.range f.sizes.length).flatMap fun x => (List.range (f.sizes.getD x default).toNat).map fun e : Nat => ((x : Int), (e : Int))
theorem mem_posT (h : f.Shape) {y i : Int} : (y, i) ∈ posT f ↔ (0 ≤ y ∧ y < f.shape.objs) ∧ 0 ≤ i ∧ i < ix f.sizes y := by
 have hs := h.sl;simp only [posT, List.mem_flatMap, List.mem_range, List.mem_map, Prod.mk.injEq]
 constructor
 ·rintro ⟨a, ha, b, hb, rfl, rfl⟩;rw [ix_nat];omega
 ·rintro ⟨h1, h2, h3⟩
  have e0 : ix f.sizes y = f.sizes.getD y.toNat default := rfl;exact ⟨y.toNat, by omega, i.toNat, by omega, by omega, by omega⟩
def unsetT (f : SF) (p : List (List Int)) : Nat := (posT f).countP fun q => decide (ix (ix p q.1) q.2 = -1)
theorem countP_less {α : Type} {P Q : α → Bool} {b : α} : ∀ {l : List α}, (∀ a, a ∈ l → P a = true → Q a = true) → b ∈ l → P b = false → Q b = true → l.countP P < l.countP Q
 | [], _, hb, _, _ => by simp at hb
 | a :: r, h, hb, hp, hq => by
  have hle : r.countP P ≤ r.countP Q := List.countP_mono_left fun a ha => h a (List.mem_cons_of_mem _ ha);rw [List.countP_cons, List.countP_cons]
  by_cases e : b ∈ r
  ·have := countP_less (fun a ha => h a (List.mem_cons_of_mem _ ha)) e hp hq
   have ha := h a List.mem_cons_self
   cases hpa : P a with
   | true => rw [ha hpa]; simpa using this
   | false => cases Q a <;> simp <;> omega
  ·rcases List.mem_cons.mp hb with rfl | hb
   ·rw [hp, hq]; simp; omega
   ·exact absurd hb e
theorem SetM.less (w : At3 f g x e d) (hP : PT f g p) (s : SetM f g p x e d (outs f.shape x).length p' N) (h : ix (ix p x) e = -1) : unsetT f p' < unsetT f p := by
 refine countP_less (b := (x, e)) (fun q hq hq2 => ?_) ((mem_posT w.hf.1).mpr ⟨w.hx, w.he⟩) ?_ (decide_eq_true h)
 ·obtain ⟨y, i⟩ := q
  have hr := (mem_posT w.hf.1).mp hq
  have hq2 := of_decide_eq_true hq2;refine decide_eq_true ?_
  rcases s.new y i hr.1.1 hr.2.1 with q | ⟨_, b, hb, q3, q4, q5⟩
  ·rw [← q]; exact hq2
  ·have hB := w.arr (List.mem_of_mem_take hb);rw [q5] at hq2
   have := hB.2.2.2.2;omega
 ·have := s.atE w hP
  have hd := w.hd;exact decide_eq_false (by rw [this]; omega)
theorem tab_ext {p q : List (List Int)} (hl : p.length = q.length) (hr : ∀ x : Nat, (p.getD x default).length = (q.getD x default).length) (h : ∀ x e : Int, 0 ≤ x ∧ x.toNat < p.length → 0 ≤ e ∧ e.toNat < (ix p x).length → ix (ix p x) e = ix (ix q x) e) : p = q := by
 refine List.ext_getElem hl fun i h1 h2 => ?_
 have r := hr i
 have e1 : ix p (i : Int) = p[i] := by simp [ix_nat, List.getD_eq_getElem?_getD, h1]
 have e2 : ix q (i : Int) = q[i] := by simp [ix_nat, List.getD_eq_getElem?_getD, h2]
 rw [← ix_nat, ← ix_nat, e1, e2] at r;refine List.ext_getElem r fun j k1 k2 => ?_
 have := h i j ⟨by omega, by simpa using h1⟩ ⟨by omega, by rw [e1]; simpa using k1⟩;rw [e1, e2] at this
 simpa [ix_nat, List.getD_eq_getElem?_getD, k1, k2] using this
def undoT (p : List (List Int)) (N : List (Int × Int)) : List (List Int) := N.foldl (fun p q => setT p q.1 q.2 (-1)) p
theorem undoT_len (N : List (Int × Int)) : ∀ p : List (List Int), (undoT p N).length = p.length := by
 induction N with
 | nil => intro p; rfl
 | cons a r ih => intro p; rw [undoT, List.foldl_cons]; exact (ih _).trans (setT_len _ _ _ _)
theorem undoT_row (N : List (Int × Int)) (y : Nat) : ∀ p : List (List Int), ((undoT p N).getD y default).length = (p.getD y default).length := by
 induction N with
 | nil => intro p; rfl
 | cons a r ih => intro p; rw [undoT, List.foldl_cons]; exact (ih _).trans (setT_row _ _ _ _ _)
theorem undoT_ix (N : List (Int × Int)) {y i : Int} (hy : 0 ≤ y) (hi : 0 ≤ i) : ∀ p : List (List Int), (∀ q, q ∈ N → (0 ≤ q.1 ∧ q.1.toNat < p.length) ∧ 0 ≤ q.2 ∧ q.2.toNat < (ix p q.1).length) →
  ix (ix (undoT p N) y) i = if (y, i) ∈ N then -1 else ix (ix p y) i := by
 induction N with
 | nil => intro p _; simp [undoT]
 | cons a r ih =>
  intro p hr
  have ha := hr a List.mem_cons_self;rw [undoT, List.foldl_cons]
  have := ih (setT p a.1 a.2 (-1)) fun q hq => by
   have := hr q (List.mem_cons_of_mem _ hq);rw [setT_len];refine ⟨this.1, this.2.1, ?_⟩;rw [ix, setT_row]; exact this.2.2
  refine this.trans ?_;rw [ix_setT p ha.1 ha.2 hy hi]
  by_cases h1 : (y, i) ∈ r
  ·rw [if_pos h1, if_pos (List.mem_cons_of_mem _ h1)]
  ·rw [if_neg h1]
   by_cases h2 : y = a.1 ∧ i = a.2
   ·rw [if_pos h2, if_pos (by rw [h2.1, h2.2]; exact List.mem_cons_self)]
   ·rw [if_neg h2, if_neg];rw [List.mem_cons]
    rintro (h3 | h3)
    ·exact h2 ⟨by rw [← h3], by rw [← h3]⟩
    ·exact h1 h3
theorem undoT_succ (p : List (List Int)) {N : List (Int × Int)} {j : Nat} (hj : j < N.length) : undoT p (N.take (j + 1)) = setT (undoT p (N.take j)) (N.getD j default).1 (N.getD j default).2 (-1) := by
 rw [take_one N hj, undoT, List.foldl_append]; rfl
theorem SetM.undo (s : SetM f g p x e d k p' N) : undoT p' N = p := by
 have hr : ∀ q, q ∈ N → (0 ≤ q.1 ∧ q.1.toNat < p'.length) ∧ 0 ≤ q.2 ∧ q.2.toNat < (ix p' q.1).length := fun q hq => by
  have := s.old q.1 q.2 hq;rw [s.len, s.rowI]; exact ⟨this.1, this.2.1⟩
 refine tab_ext (by rw [undoT_len, s.len]) (fun y => by rw [undoT_row, s.row]) fun y i hy hi => ?_;rw [undoT_ix N hy.1 hi.1 p' hr]
 by_cases h : (y, i) ∈ N
 ·rw [if_pos h, (s.old y i h).2.2]
 ·rw [if_neg h]
  rcases s.new y i hy.1 hi.1 with q | ⟨q, _⟩
  ·exact q
  ·exact absurd q h
structure AccT (f g : SF) (p : List (List Int)) (x e : Int) (k : Int) (M : List (List (List Int))) : Prop where
 srt : M.Pairwise ltT
 mem : ∀ t, t ∈ M ↔ ExtT f g p t ∧ ix (ix t x) e < k
variable {M M' : List (List (List Int))}
theorem AccT.zero (hx : 0 ≤ x ∧ x < f.shape.objs) (he : 0 ≤ e ∧ e < ix f.sizes x) : AccT f g p x e 0 [] := ⟨.nil, fun t => by
 simp only [List.not_mem_nil, false_iff]
 rintro ⟨h1, h2⟩
 have := ((h1.1.pl x hx).2 e he).1;omega⟩
theorem AccT.none {j : Int} (h : AccT f g p x e j M) (hn : ∀ t, ExtT f g p t → ix (ix t x) e ≠ j) : AccT f g p x e (j + 1) M := ⟨h.srt, fun t => by
 rw [h.mem]
 constructor
 ·rintro ⟨h1, h2⟩; exact ⟨h1, by omega⟩
 ·rintro ⟨h1, h2⟩; have := hn t h1; exact ⟨h1, by omega⟩⟩
theorem AccT.more (hx : 0 ≤ x ∧ x < f.shape.objs) (he : 0 ≤ e ∧ e < ix f.sizes x) {j : Int} (h : AccT f g p x e j M) (h2 : ListsT f g p' M') (hs : (f.sizes.length : Int) = f.shape.objs) (hv : ∀ y i : Int, 0 ≤ y ∧ y < f.shape.objs → 0 ≤ i ∧ i < ix f.sizes y → ix (ix p y) i = -1 ∨ 0 ≤ ix (ix p y) i)
  (hp : ∀ t, ExtT f g p' t ↔ ExtT f g p t ∧ ix (ix t x) e = j) (hf : ∀ y i : Int, 0 ≤ y ∧ y < f.shape.objs → 0 ≤ i ∧ i < ix f.sizes y → (y < x ∨ (y = x ∧ i < e)) → ix (ix p y) i ≠ -1) : AccT f g p x e (j + 1) (M ++ M') := by
 refine ⟨List.pairwise_append.mpr ⟨h.srt, h2.srt, fun s hs' t ht => ?_⟩, fun t => ?_⟩
 ·obtain ⟨s1, s2⟩ := (h.mem s).mp hs'
  obtain ⟨t1, t2⟩ := (hp t).mp ((h2.mem t).mp ht);refine ⟨x.toNat, e.toNat, fun y i hyi => ?_, ?_⟩
  ·have hy : (0 : Int) ≤ (y : Int) ∧ (y : Int) < f.shape.objs := by omega
   have l1 := (s1.1.pl y hy).1
   have l2 := (t1.1.pl y hy).1
   by_cases hi : (i : Int) < ix f.sizes y
   ·have hi' : (0 : Int) ≤ (i : Int) ∧ (i : Int) < ix f.sizes y := ⟨by omega, hi⟩
    have hne := hf y i hy hi' (by omega)
    have hge := (hv y i hy hi').resolve_left hne
    have a1 := s1.2 y i hy hi' hge
    have a2 := t1.2 y i hy hi' hge
    have := a1.trans a2.symm
    simpa only [ix_nat] using this
   ·rw [ix_nat] at l1 l2;rw [List.getD_eq_getElem?_getD, List.getD_eq_getElem?_getD (l := t.getD y default), List.getElem?_eq_none (by omega), List.getElem?_eq_none (by omega)]
  ·have : ix (ix s x) e < ix (ix t x) e := by rw [t2]; exact s2
   exact this
 ·rw [List.mem_append, h.mem, h2.mem, hp]
  constructor
  ·rintro (⟨h1, h2⟩ | ⟨h1, h2⟩)
   ·exact ⟨h1, by omega⟩
   ·exact ⟨h1, by omega⟩
  ·rintro ⟨h1, h2⟩
   by_cases hj : ix (ix t x) e = j
   ·exact .inr ⟨h1, hj⟩
   ·exact .inl ⟨h1, by omega⟩
theorem AccT.done (hx : 0 ≤ x ∧ x < f.shape.objs) (he : 0 ≤ e ∧ e < ix f.sizes x) (h : AccT f g p x e (ix g.sizes x) M) : ListsT f g p M := ⟨h.srt, fun t => by
 rw [h.mem];exact ⟨fun h => h.1, fun h => ⟨h, ((h.1.pl x hx).2 e he).2⟩⟩⟩
theorem lists_full (h : f.Is) (hP : PT f g p) (hf : ∀ y i : Int, 0 ≤ y ∧ y < f.shape.objs → 0 ≤ i ∧ i < ix f.sizes y → ix (ix p y) i ≠ -1) : ListsT f g p [p] := by
 have hm : MapL f g p := by
  refine ⟨by rw [hP.len]; exact h.1.sl, fun y hy => ⟨?_, fun i hi => ?_⟩, fun b hb i hi => ?_⟩
  ·exact hP.row y.toNat (h.1.inX hy).2
  ·exact (hP.val y i hy hi).resolve_left (hf y i hy hi)
  ·have hfb := h.1.is.1.frmObj hb.2;exact hP.cls b hb i hi ((hP.val _ i hfb hi).resolve_left (hf _ i hfb hi)).1
 refine ⟨List.pairwise_singleton _ _, fun t => ?_⟩;rw [List.mem_singleton]
 constructor
 ·rintro rfl; exact ⟨hm, fun _ _ _ _ _ => rfl⟩
 ·rintro ⟨h1, h2⟩;refine h1.ext hm fun y i hy hi => ?_;exact h2 y i hy hi ((hP.val y i hy hi).resolve_left (hf y i hy hi)).1
def blankT (f : SF) : List (List Int) := f.sizes.map fun n => List.replicate n.toNat (-1)
theorem blank_ix (h : f.Shape) {y i : Int} (hy : 0 ≤ y ∧ y < f.shape.objs) (hi : 0 ≤ i ∧ i < ix f.sizes y) : ix (ix (blankT f) y) i = -1 := by
 have hX := h.inX hy
 have e0 : ix f.sizes y = f.sizes.getD y.toNat default := rfl
 have hi2 : i.toNat < (f.sizes.getD y.toNat default).toNat := by omega
 rw [ix, ix, blankT, map_getD _ hX.2, List.getD_eq_getElem?_getD, List.getElem?_replicate, if_pos hi2]; rfl
theorem blank_pt (h : f.Shape) : PT f g (blankT f) where
 len := by simp [blankT]
 row x hx := by
  have := h.sz _ (mem_getD.mpr ⟨x, hx, rfl⟩);rw [blankT, map_getD _ hx, List.length_replicate]; omega
 val y i hy hi := .inl (blank_ix h hy hi)
 cls a ha i hi h0 := by
  rw [blank_ix h (h.is.1.frmObj ha.2) hi] at h0; omega
theorem blank_ext (h : f.Shape) {t : List (List Int)} : ExtT f g (blankT f) t ↔ MapL f g t := ⟨fun h => h.1, fun hm => ⟨hm, fun y i hy hi h0 => by rw [blank_ix h hy hi] at h0; omega⟩⟩
end
end Go.Shf
namespace Go.Shf
open Go.AW
theorem getD_setD {α : Type} [Inhabited α] (l : List α) {i : Nat} (a : α) (hi : i < l.length) {y : Nat} : (l.set i a).getD y default = if y = i then a else l.getD y default := by
 simp only [List.getD_eq_getElem?_getD, List.getElem?_set]
 by_cases h : i = y
 ·subst h; simp [hi]
 ·rw [if_neg h, if_neg (Ne.symm h)]
structure SF.Pre (f : SF) (c : Cat) (N : Nat) : Prop where
 sh : f.shape = c
 sl : (f.sizes.length : Int) = c.objs
 al : f.acts.length = c.frm.length
 sz : ∀ y, y ∈ f.sizes → 0 ≤ y ∧ y ≤ N
 act : ∀ a : Nat, a < c.frm.length → ((f.acts.getD a default).length : Int) = ix f.sizes (c.frm.getD a default) ∧ ∀ y, y ∈ f.acts.getD a default → 0 ≤ y ∧ y < ix f.sizes (c.to.getD a default)
structure FreeI (c : Cat) (os : List Int) (k h : Nat) (LL : List (List (List Int))) : Prop where
 len : (LL.length : Int) = c.objs
 of : ∀ y : Nat, y < LL.length → ∀ q, q ∈ LL.getD y default → ∃ i j : Nat, q = [(i : Int), (j : Int)] ∧ i < os.length ∧ j < c.frm.length ∧ c.frm.getD j default = os.getD i default ∧ c.to.getD j default = y
 all : ∀ i j : Nat, (i < k ∨ (i = k ∧ j < h)) → i < os.length → j < c.frm.length → c.frm.getD j default = os.getD i default → ([(i : Int), (j : Int)] : List Int) ∈ LL.getD (c.to.getD j default).toNat default
 bd : ∀ y : Nat, (LL.getD y default).length ≤ k * c.frm.length + h
section
variable {c : Cat} {os : List Int} {k h : Nat} {LL : List (List (List Int))}
theorem FreeI.zero (hc : 0 ≤ c.objs) : FreeI c os 0 0 (List.replicate c.objs.toNat []) where
 len := by simp; omega
 of y hy q hq := by
  rw [List.length_replicate] at hy
  simp [List.getD_eq_getElem?_getD, hy] at hq
 all i j h := by omega
 bd y := by
  by_cases hy : y < c.objs.toNat
  ·simp [List.getD_eq_getElem?_getD, hy]
  ·rw [List.getD_eq_getElem?_getD, List.getElem?_eq_none (by simp; omega)]
   simp
   rfl
theorem FreeI.skip (s : FreeI c os k h LL) (hn : c.frm.getD h default ≠ os.getD k default) : FreeI c os k (h + 1) LL := ⟨s.len, s.of, fun i j hij hi hj e => by
 by_cases e1 : i = k ∧ j = h
 ·rw [e1.1, e1.2] at e; exact absurd e hn
 ·exact s.all i j (by omega) hi hj e, fun y => by have := s.bd y; omega⟩
theorem FreeI.hit (s : FreeI c os k h LL) (hc : c.Shape) (hk : k < os.length) (hh : h < c.frm.length) (e : c.frm.getD h default = os.getD k default) :
  FreeI c os k (h + 1) (LL.set (c.to.getD h default).toNat (LL.getD (c.to.getD h default).toNat default ++ [[(k : Int), (h : Int)]])) := by
 have ht := hc.toObj (f := (h : Int)) (by simpa using hh);rw [ix_nat] at ht
 have hl := s.len
 have hin : (c.to.getD h default).toNat < LL.length := by omega
 have hget : ∀ y : Nat, (LL.set (c.to.getD h default).toNat (LL.getD (c.to.getD h default).toNat default ++ [[(k : Int), (h : Int)]])).getD y default =
   if y = (c.to.getD h default).toNat then LL.getD y default ++ [[(k : Int), (h : Int)]] else LL.getD y default := by
  intro y;rw [getD_setD _ _ hin]
  by_cases hy : y = (c.to.getD h default).toNat
  ·rw [if_pos hy, if_pos hy, hy]
  ·rw [if_neg hy, if_neg hy]
 refine ⟨by rw [List.length_set]; exact hl, fun y hy q hq => ?_, fun i j hij hi hj e1 => ?_, fun y => ?_⟩
 ·rw [List.length_set] at hy;rw [hget] at hq
  split at hq
  ·rename_i hyy
   rcases List.mem_append.mp hq with hq | hq
   ·exact s.of y hy q hq
   ·rw [List.mem_singleton] at hq;exact ⟨k, h, hq, hk, hh, e, by rw [hyy]; omega⟩
  ·exact s.of y hy q hq
 ·rw [hget]
  by_cases e2 : i = k ∧ j = h
  ·rw [e2.1, e2.2, if_pos rfl]; simp
  ·have := s.all i j (by omega) hi hj e1
   split
   ·exact List.mem_append_left _ this
   ·exact this
 ·rw [hget]
  have := s.bd y
  split
  ·rw [List.length_append, List.length_singleton]; omega
  ·omega
theorem FreeI.next (s : FreeI c os k c.frm.length LL) : FreeI c os (k + 1) 0 LL := ⟨s.len, s.of, fun i j hij hi hj e => s.all i j (by omega) hi hj e, fun y => by
 have := s.bd y;rw [Nat.succ_mul]; omega⟩
def freeAct (c : Cat) (LL : List (List (List Int))) (a : Nat) : List Int := (LL.getD (c.frm.getD a default).toNat default).map fun q => indexOf (LL.getD (c.to.getD a default).toNat default) [ix q 0, (ix c.comp (ix q 1)).getD a default]
def freeF (c : Cat) (LL : List (List (List Int))) : SF := ⟨c, LL.map fun l => (l.length : Int), (List.range c.frm.length).map (freeAct c LL)⟩
theorem free_pre (hc : c.Is) (s : FreeI c os os.length 0 LL) {N : Nat} (hN : os.length * c.frm.length ≤ N) : (freeF c LL).Pre c N where
 sh := rfl
 sl := by simp only [freeF, List.length_map]; exact s.len
 al := by simp [freeF]
 sz y hy := by
  obtain ⟨l, hl, rfl⟩ := List.mem_map.mp hy
  obtain ⟨i, hi, rfl⟩ := mem_getD.mp hl
  have := s.bd i; omega
 act a ha := by
  have hl := s.len
  have hf := hc.1.frmObj (f := (a : Int)) (by simpa using ha)
  have ht := hc.1.toObj (f := (a : Int)) (by simpa using ha);rw [ix_nat] at hf ht
  have e1 : (freeF c LL).acts.getD a default = freeAct c LL a := by rw [freeF]; exact getD_map_range _ _ ha
  have e2 : ∀ y : Int, 0 ≤ y ∧ y < c.objs → ix (freeF c LL).sizes y = ((LL.getD y.toNat default).length : Int) := fun y hy => by
   rw [ix, freeF]; exact map_getD _ (by omega)
  rw [e1, e2 _ hf, e2 _ ht];refine ⟨by simp [freeAct], fun y hy => ?_⟩
  obtain ⟨q, hq, rfl⟩ := List.mem_map.mp hy
  obtain ⟨i, j, rfl, hi, hj, e3, e4⟩ := s.of _ (by omega) q hq
  have h1 : (0 : Int) ≤ (j : Int) ∧ (j : Int).toNat < c.frm.length := ⟨by omega, by simpa using hj⟩
  have h2 : (0 : Int) ≤ (a : Int) ∧ (a : Int).toNat < c.frm.length := ⟨by omega, by simpa using ha⟩
  have hcm := hc.1.comp h1 h2 (by rw [ix_nat, ix_nat, e4]; omega)
  obtain ⟨v, hv⟩ : ∃ v : Nat, ix (ix c.comp (j : Int)) (a : Int) = v := ⟨_, (Int.toNat_of_nonneg hcm.1.1).symm⟩;rw [hv] at hcm;simp only [ix_nat] at hcm
  have hall := s.all i v (.inl hi) hi (by simpa using hcm.1.2) (by rw [hcm.2.1, e3]);rw [hcm.2.2] at hall
  have e5 : ([ix [(i : Int), (j : Int)] 0, (ix c.comp (ix [(i : Int), (j : Int)] 1)).getD a default] : List Int) = [(i : Int), (v : Int)] := by
   have : (ix c.comp (j : Int)).getD a default = v := by rw [← hv, ix_nat (ix c.comp (j : Int))]
   show [(i : Int), (ix c.comp (j : Int)).getD a default] = _
   rw [this]
  rw [e5]
  have := indexOf_in hall;omega
end
def uneq (l : List Int) : Nat := ((List.range l.length).flatMap fun d => (List.range l.length).map fun e => (d, e)).countP fun q : Nat × Nat => decide (l.getD q.1 default ≠ l.getD q.2 default)
theorem uneq_less {l m : List Int} (hl : m.length = l.length) (h : ∀ i j : Nat, i < l.length → j < l.length → l.getD i default = l.getD j default → m.getD i default = m.getD j default)
  {u v : Nat} (hu : u < l.length) (hv : v < l.length) (h1 : l.getD u default ≠ l.getD v default) (h2 : m.getD u default = m.getD v default) : uneq m < uneq l := by
 unfold uneq;rw [hl];refine countP_less (b := (u, v)) (fun q hq hq2 => ?_) (by simp; exact ⟨hu, hv⟩) (decide_eq_false (by simpa using h2)) (decide_eq_true h1);simp only [List.mem_flatMap, List.mem_range, List.mem_map] at hq
 obtain ⟨i, hi, j, hj, rfl⟩ := hq
 have hq2 := of_decide_eq_true hq2;exact decide_eq_true fun e => hq2 (h i j hi hj e)
def pot (C : List (List Int)) : Nat := (C.map uneq).sum
theorem pot_set : ∀ (C : List (List Int)) (y : Nat) (m : List Int), y < C.length → uneq m < uneq (C.getD y default) → pot (C.set y m) < pot C
 | [], _, _, h, _ => by simp at h
 | a :: C, 0, m, _, h => by
  simp only [pot, List.set_cons_zero, List.map_cons, List.sum_cons]
  have : uneq m < uneq a := h;omega
 | a :: C, y + 1, m, hy, h => by
  have := pot_set C y m (by simpa using hy) (by simpa using h);simp only [pot, List.set_cons_succ, List.map_cons, List.sum_cons] at this ⊢;omega
def pairsOf (p : List Int) : List (List Int) := (List.range p.length).map fun i => [indexOf p (p.getD i default), (i : Int)]
def Glued (ps : List (List Int)) (m : List Int) : Prop := ∀ q, q ∈ ps → ix m (ix q 0) = ix m (ix q 1)
theorem glued_less {l m : List Int} (hl : m.length = l.length) {u v : Int} (hu : 0 ≤ u ∧ u.toNat < l.length) (hv : 0 ≤ v ∧ v.toNat < l.length) (h1 : ix l u ≠ ix l v) (hg : Glued (pairsOf l ++ [[u, v]]) m) : uneq m < uneq l := by
 refine uneq_less hl (fun i j hi hj e => ?_) hu.2 hv.2 h1 ?_
 ·have hp : ∀ i : Nat, i < l.length → m.getD (indexOf l (l.getD i default)).toNat default = m.getD i default := fun i hi => by
   have := hg [indexOf l (l.getD i default), (i : Int)] (List.mem_append_left _ (List.mem_map.mpr ⟨i, List.mem_range.mpr hi, rfl⟩))
   have e : ix m (ix [indexOf l (l.getD i default), (i : Int)] 1) = m.getD i default := ix_nat m i;rw [e] at this;exact this
  rw [← hp i hi, ← hp j hj, e]
 ·exact hg [u, v] (List.mem_append_right _ (by simp))
theorem pairsOf_ok {l : List Int} {u v : Int} (hu : 0 ≤ u ∧ u.toNat < l.length) (hv : 0 ≤ v ∧ v.toNat < l.length) : ∀ q, q ∈ pairsOf l ++ [[u, v]] → 2 ≤ q.length ∧ (0 ≤ q.getD 0 default ∧ (q.getD 0 default).toNat < l.length) ∧ (0 ≤ q.getD 1 default ∧ (q.getD 1 default).toNat < l.length) := by
 intro q hq
 rcases List.mem_append.mp hq with hq | hq
 ·obtain ⟨i, hi, rfl⟩ := List.mem_map.mp hq;rw [List.mem_range] at hi
  have h := indexOf_in (l := l) (a := l.getD i default) (mem_getD.mpr ⟨i, hi, rfl⟩);exact ⟨by simp, ⟨h.1, h.2.1⟩, by simp, by simpa using hi⟩
 ·rw [List.mem_singleton] at hq;subst hq;exact ⟨by simp, hu, hv⟩
def relab (A : List Int) (a b : Int) : List Int := A.map fun v => if v = b then a else v
theorem relab_len (A : List Int) (a b : Int) : (relab A a b).length = A.length := by simp [relab]
theorem relab_ix {A : List Int} {a b i : Int} (h : i.toNat < A.length) : ix (relab A a b) i = if ix A i = b then a else ix A i := by
 rw [ix, relab, map_getD _ h]; rfl
theorem Glued.relab {ps : List (List Int)} {A : List Int} (hp : ∀ q, q ∈ ps → (ix q 0).toNat < A.length ∧ (ix q 1).toNat < A.length) (h : Glued ps A) (a b : Int) : Glued ps (relab A a b) := fun q hq => by
 have h1 := hp q hq;rw [relab_ix h1.1, relab_ix h1.2, h q hq]
theorem Glued.step {ps : List (List Int)} {A : List Int} (hp : ∀ q, q ∈ ps → (ix q 0).toNat < A.length ∧ (ix q 1).toNat < A.length) {q : List Int} (hq : (ix q 0).toNat < A.length ∧ (ix q 1).toNat < A.length) (h : Glued ps A) :
  Glued (ps ++ [q]) (Go.Shf.relab A (ix A (ix q 0)) (ix A (ix q 1))) := fun r hr => by
 rcases List.mem_append.mp hr with hr | hr
 ·exact h.relab hp _ _ r hr
 ·rw [List.mem_singleton] at hr;subst hr;rw [relab_ix hq.1, relab_ix hq.2, if_pos rfl]
  split <;> rfl
end Go.Shf
namespace Go.Shf
open Go.AW
theorem indexOf_appT {s : List Int} {u v : Int} (h : u ∈ s) : indexOf (s ++ [v]) u = indexOf s u := by
 obtain ⟨h1, h2, h3⟩ := indexOf_in h;unfold indexOf
 have : (s ++ [v]).idxOf? u = s.idxOf? u := by
  have hs : ∃ i, s.idxOf? u = some i := by
   cases e : s.idxOf? u with
   | some i => exact ⟨i, rfl⟩
   | none => rw [List.idxOf?_eq_none_iff] at e; exact absurd h e
  obtain ⟨i, hi⟩ := hs;rw [hi];rw [List.idxOf?_eq_some_iff] at hi ⊢
  obtain ⟨k1, k2, k3⟩ := hi;refine ⟨by simp; omega, by rw [List.getElem_append_left k1]; exact k2, fun j hj => ?_⟩;rw [List.getElem_append_left (by omega)]; exact k3 j hj
 rw [this]
theorem indexOf_newT {s : List Int} {v : Int} (h : v ∉ s) : indexOf (s ++ [v]) v = s.length := by
 refine indexOf_hit (k := s.length) (by simp) (fun i hi e => h ?_) (by simp [List.getD_eq_getElem?_getD]);rw [List.getD_eq_getElem?_getD, List.getElem?_append_left hi, ← List.getD_eq_getElem?_getD] at e;exact mem_getD.mpr ⟨i, hi, e⟩
def seenL (l : List Int) : List Int := l.foldl (fun s v => if v ∈ s then s else s ++ [v]) []
theorem seenL_snoc (l : List Int) (v : Int) : seenL (l ++ [v]) = if v ∈ seenL l then seenL l else seenL l ++ [v] := by rw [seenL, List.foldl_append]; rfl
theorem mem_seenL : ∀ (k : Nat) (l : List Int), l.length = k → ∀ v, v ∈ seenL l ↔ v ∈ l
 | 0, l, h, v => by rw [List.length_eq_zero_iff] at h; subst h; simp [seenL]
 | k + 1, l, h, v => by
  have hne : l ≠ [] := fun e => by rw [e] at h; simp at h
  obtain ⟨r, x, rfl⟩ : ∃ r x, l = r ++ [x] := ⟨l.dropLast, l.getLast hne, (List.dropLast_concat_getLast hne).symm⟩
  have ih := mem_seenL k r (by simpa using h);rw [seenL_snoc]
  by_cases hx : x ∈ seenL r
  ·rw [if_pos hx, ih];simp only [List.mem_append, List.mem_singleton];exact ⟨.inl, fun h => h.elim id fun e => e ▸ (ih x).mp hx⟩
  ·rw [if_neg hx];simp only [List.mem_append, List.mem_singleton, ih]
theorem seenL_len : ∀ (k : Nat) (l : List Int), l.length = k → (seenL l).length ≤ k
 | 0, l, h => by rw [List.length_eq_zero_iff] at h; subst h; simp [seenL]
 | k + 1, l, h => by
  have hne : l ≠ [] := fun e => by rw [e] at h; simp at h
  obtain ⟨r, x, rfl⟩ : ∃ r x, l = r ++ [x] := ⟨l.dropLast, l.getLast hne, (List.dropLast_concat_getLast hne).symm⟩
  have ih := seenL_len k r (by simpa using h);rw [seenL_snoc]
  split
  ·omega
  ·simp; omega
def classL (l : List Int) : List Int := l.map fun v => indexOf (seenL l) v
theorem classL_len (l : List Int) : (classL l).length = l.length := by simp [classL]
theorem classL_snoc (l : List Int) (v : Int) : classL (l ++ [v]) = classL l ++ [indexOf (seenL (l ++ [v])) v] := by
 rw [classL, List.map_append, List.map_cons, List.map_nil]
 congr 1
 refine List.map_congr_left fun u hu => ?_
 have := (mem_seenL _ l rfl u).mpr hu;rw [seenL_snoc]
 split
 ·rfl
 ·exact indexOf_appT this
theorem classL_ran {l : List Int} {v : Int} (h : v ∈ classL l) : 0 ≤ v ∧ v < l.length := by
 obtain ⟨u, hu, rfl⟩ := List.mem_map.mp h
 have := indexOf_in ((mem_seenL _ l rfl u).mpr hu)
 have := seenL_len _ l rfl;omega
theorem Glued.class {ps : List (List Int)} {l : List Int} (hp : ∀ q, q ∈ ps → (ix q 0).toNat < l.length ∧ (ix q 1).toNat < l.length) (h : Glued ps l) : Glued ps (classL l) := fun q hq => by
 have h1 := hp q hq
 have key : ∀ i : Int, i.toNat < l.length → ix (classL l) i = indexOf (seenL l) (ix l i) := fun i hi => by rw [ix, classL, map_getD _ hi]; rfl
 rw [key _ h1.1, key _ h1.2, h q hq]
def labs (n : Nat) (ps : List (List Int)) : List Int := ps.foldl (fun A q => relab A (ix A (ix q 0)) (ix A (ix q 1))) ((List.range n).map Int.ofNat)
theorem labs_snoc (n : Nat) (ps : List (List Int)) (q : List Int) : labs n (ps ++ [q]) = relab (labs n ps) (ix (labs n ps) (ix q 0)) (ix (labs n ps) (ix q 1)) := by simp [labs, List.foldl_append]
theorem labs_succ (n : Nat) (ps : List (List Int)) {k : Nat} (hk : k < ps.length) : labs n (ps.take (k + 1)) = relab (labs n (ps.take k)) (ix (labs n (ps.take k)) (ix (ps.getD k default) 0)) (ix (labs n (ps.take k)) (ix (ps.getD k default) 1)) := by
 rw [take_one ps hk, labs_snoc]
theorem labs_fold (ps : List (List Int)) : ∀ (done : List (List Int)) (A : List Int), (∀ q, q ∈ done ++ ps → (ix q 0).toNat < A.length ∧ (ix q 1).toNat < A.length) → Glued done A →
  (ps.foldl (fun A q => relab A (ix A (ix q 0)) (ix A (ix q 1))) A).length = A.length ∧ Glued (done ++ ps) (ps.foldl (fun A q => relab A (ix A (ix q 0)) (ix A (ix q 1))) A) := by
 induction ps with
 | nil => intro done A _ h; exact ⟨rfl, by simpa using h⟩
 | cons q r ih =>
  intro done A hr h
  have hq := hr q (by simp)
  have h2 := h.step (fun q hq => hr q (by simp [hq])) hq
  have := ih (done ++ [q]) (relab A (ix A (ix q 0)) (ix A (ix q 1))) (fun p hp => by
   rw [relab_len]; exact hr p (by simpa using hp)) h2
  rw [List.foldl_cons];rw [relab_len] at this;exact ⟨this.1, by simpa using this.2⟩
theorem labs_len (n : Nat) (ps : List (List Int)) : (labs n ps).length = n := by
 have : ∀ (ps : List (List Int)) (A : List Int), (ps.foldl (fun A q => relab A (ix A (ix q 0)) (ix A (ix q 1))) A).length = A.length := by
  intro ps
  induction ps with
  | nil => intro A; rfl
  | cons q r ih => intro A; rw [List.foldl_cons, ih, relab_len]
 rw [labs, this]; simp
def joinL (n : Nat) (ps : List (List Int)) : List Int := classL (labs n ps)
theorem joinL_len (n : Nat) (ps : List (List Int)) : (joinL n ps).length = n := by rw [joinL, classL_len, labs_len]
theorem joinL_ran {n : Nat} {ps : List (List Int)} {v : Int} (h : v ∈ joinL n ps) : 0 ≤ v ∧ v < n := by
 have := classL_ran h
 rwa [labs_len] at this
theorem joinL_glued {n : Nat} {ps : List (List Int)} (hp : ∀ q, q ∈ ps → (ix q 0).toNat < n ∧ (ix q 1).toNat < n) : Glued ps (joinL n ps) := by
 have hr : ∀ q, q ∈ ps → (ix q 0).toNat < ((List.range n).map Int.ofNat).length ∧ (ix q 1).toNat < ((List.range n).map Int.ofNat).length := fun q hq => by simpa using hp q hq
 have := (labs_fold ps [] ((List.range n).map Int.ofNat) (by simpa using hr) (fun q hq => by simp at hq)).2;refine Glued.class (fun q hq => by rw [labs_len]; exact hp q hq) ?_
 simpa [labs] using this
def relabTo (A : List Int) (a b : Int) (i : Nat) : List Int := relab (A.take i) a b ++ A.drop i
theorem relabTo_len (A : List Int) (a b : Int) {i : Nat} (hi : i ≤ A.length) : (relabTo A a b i).length = A.length := by simp [relabTo, relab_len]; omega
theorem relabTo_zero (A : List Int) (a b : Int) : relabTo A a b 0 = A := by simp [relabTo, relab]
theorem relabTo_all (A : List Int) (a b : Int) : relabTo A a b A.length = relab A a b := by simp [relabTo]
theorem relab_same (A : List Int) (a : Int) : relab A a a = A := by
 rw [relab]
 have : ∀ v, v ∈ A → (if v = a then a else v) = v := fun v _ => by split <;> simp_all
 rw [List.map_congr_left this, List.map_id']
theorem relabTo_get (A : List Int) (a b : Int) {i : Nat} (hi : i < A.length) : (relabTo A a b i).getD i default = A.getD i default := by
 rw [relabTo, List.getD_eq_getElem?_getD, List.getElem?_append_right (by rw [relab_len, List.length_take]; omega), relab_len, List.length_take];rw [show i - min i A.length = 0 by omega, List.getElem?_drop, List.getD_eq_getElem?_getD]; simp
theorem relabTo_succ (A : List Int) (a b : Int) {i : Nat} (hi : i < A.length) : relabTo A a b (i + 1) = (relabTo A a b i).set i (if A.getD i default = b then a else A.getD i default) := by
 have hl : (relab (A.take i) a b).length = i := by rw [relab_len, List.length_take]; omega
 rw [relabTo, relabTo, take_one A hi]
 have e1 : relab (A.take i ++ [A.getD i default]) a b = relab (A.take i) a b ++ [if A.getD i default = b then a else A.getD i default] := by simp [relab]
 have e2 : A.drop i = A.getD i default :: A.drop (i + 1) := by
  rw [List.drop_eq_getElem_cons hi]; simp [List.getD_eq_getElem?_getD, hi]
 rw [e1, e2, List.set_append_right _ _ (by omega), hl, Nat.sub_self, List.set_cons_zero, List.append_assoc]; rfl
end Go.Shf
namespace Go.Shf
open Go.AW
structure ClsOk (sz : List Int) (CC : List (List Int)) : Prop where
 len : CC.length = sz.length
 row : ∀ x : Nat, x < sz.length → ((CC.getD x default).length : Int) = sz.getD x default
 ran : ∀ x : Nat, x < sz.length → ∀ v, v ∈ CC.getD x default → 0 ≤ v ∧ v < sz.getD x default
def clsAt (sz : List Int) (PP : List (List (List Int))) (x : Nat) : List Int := joinL (sz.getD x default).toNat (PP.getD x default)
theorem cls_join {sz : List Int} (h : ∀ y, y ∈ sz → 0 ≤ y) (PP : List (List (List Int))) : ClsOk sz ((List.range sz.length).map (clsAt sz PP)) where
 len := by simp
 row x hx := by
  have := h _ (mem_getD.mpr ⟨x, hx, rfl⟩);rw [getD_map_range _ _ hx, clsAt, joinL_len]; omega
 ran x hx v hv := by
  have := h _ (mem_getD.mpr ⟨x, hx, rfl⟩);rw [getD_map_range _ _ hx, clsAt] at hv
  have := joinL_ran hv; omega
theorem ClsOk.set {sz : List Int} {CC : List (List Int)} (s : ClsOk sz CC) {y : Nat} (hy : y < sz.length) {m : List Int} (hm : (m.length : Int) = sz.getD y default) (hr : ∀ v, v ∈ m → 0 ≤ v ∧ v < sz.getD y default) : ClsOk sz (CC.set y m) := by
 have hg : ∀ x, (CC.set y m).getD x default = if x = y then m else CC.getD x default := fun x => getD_setD CC m (by rw [s.len]; exact hy)
 refine ⟨by rw [List.length_set]; exact s.len, fun x hx => ?_, fun x hx v hv => ?_⟩
 ·rw [hg]
  by_cases e : x = y
  ·rw [if_pos e, e]; exact hm
  ·rw [if_neg e]; exact s.row x hx
 ·rw [hg] at hv
  by_cases e : x = y
  ·rw [if_pos e] at hv; rw [e]; exact hr v hv
  ·rw [if_neg e] at hv; exact s.ran x hx v hv
def mxL (l : List Int) : Int := l.foldl (fun n v => if v + 1 > n then v + 1 else n) 0
theorem mxL_snoc (l : List Int) (v : Int) : mxL (l ++ [v]) = if v + 1 > mxL l then v + 1 else mxL l := by rw [mxL, List.foldl_append]; rfl
theorem mxL_succ (l : List Int) {k : Nat} (hk : k < l.length) : mxL (l.take (k + 1)) = if l.getD k default + 1 > mxL (l.take k) then l.getD k default + 1 else mxL (l.take k) := by rw [take_one l hk, mxL_snoc]
theorem mxL_all {l : List Int} {N : Int} (h0 : 0 ≤ N) (h : ∀ v, v ∈ l → 0 ≤ v ∧ v < N) : ∀ k, k ≤ l.length → (0 ≤ mxL (l.take k) ∧ mxL (l.take k) ≤ N) ∧ ∀ i, i < k → l.getD i default < mxL (l.take k)
 | 0, _ => ⟨by simpa [mxL] using h0, fun i hi => by omega⟩
 | k + 1, hk => by
  have ih := mxL_all h0 h k (by omega)
  have hv := h _ (mem_getD.mpr ⟨k, hk, rfl⟩);rw [mxL_succ l hk];refine ⟨by split <;> omega, fun i hi => ?_⟩
  by_cases e : i = k
  ·subst e; split <;> omega
  ·have := ih.2 i (by omega)
   split <;> omega
theorem mxL_bd {l : List Int} {N : Int} (h0 : 0 ≤ N) (h : ∀ v, v ∈ l → 0 ≤ v ∧ v < N) : (0 ≤ mxL l ∧ mxL l ≤ N) ∧ ∀ v, v ∈ l → v < mxL l := by
 have := mxL_all h0 h l.length (Nat.le_refl _);rw [List.take_length] at this;exact ⟨this.1, fun v hv => by obtain ⟨i, hi, rfl⟩ := mem_getD.mp hv; exact this.2 i hi⟩
end Go.Shf
namespace Go.Shf
open Go.AW
def clF (j : Top) (f : SF) (p : List (List Int)) : List (List Int) := partF f fun x e => decide (valS f p (x : Int) (e : Int) ∈ j.covers.getD x default)
section
variable {j : Top} {f : SF} {p : List (List Int)}
theorem mem_clF {x : Nat} (hx : x < f.sizes.length) {e : Int} : e ∈ (clF j f p).getD x default ↔ (0 ≤ e ∧ e < f.sizes.getD x default) ∧ valS f p (x : Int) e ∈ j.covers.getD x default := by
 rw [clF, mem_partF hx, decide_eq_true_eq]
 constructor
 ·rintro ⟨h1, h2⟩; rw [Int.toNat_of_nonneg h1.1] at h2; exact ⟨h1, h2⟩
 ·rintro ⟨h1, h2⟩; rw [Int.toNat_of_nonneg h1.1]; exact ⟨h1, h2⟩
theorem mem_clI {x : Int} (hx : 0 ≤ x ∧ x.toNat < f.sizes.length) {e : Int} : e ∈ ix (clF j f p) x ↔ (0 ≤ e ∧ e < ix f.sizes x) ∧ valS f p x e ∈ j.covers.getD x.toNat default := by
 have := mem_clF (j := j) (p := p) hx.2 (e := e);rw [Int.toNat_of_nonneg hx.1] at this; exact this
variable (ht : TopIs j.shape j.covers) (es : j.shape = f.shape) (h : f.Is)
include ht es h
theorem clF_part : f.Part (clF j f p) := by
 refine partF_part h.1 fun a ha e he hq => ?_
 have h1 := h.1.is.1.frmObj ha.2
 have h2 := h.1.is.1.toObj ha.2
 have hin := h.1.inAct ha he
 have hact := h.1.actTo ha he;rw [decide_eq_true_eq] at hq ⊢;rw [Int.toNat_of_nonneg h1.1, Int.toNat_of_nonneg he.1] at hq;rw [Int.toNat_of_nonneg h2.1, Int.toNat_of_nonneg hact.1, ← pull_val h ha he]
 have := ht.pull a.toNat (by rw [es]; exact ha.2) _ (by rw [es]; exact hq);rw [Int.toNat_of_nonneg ha.1, es] at this;exact this
theorem clF_ext (hp : f.Part p) {x : Nat} (hx : x < f.sizes.length) {e : Int} (he : e ∈ p.getD x default) : e ∈ (clF j f p).getD x default := by
 refine (mem_clF hx).mpr ⟨hp.ran x hx e he, ?_⟩
 have hsl := h.1.sl
 have hx2 : x < j.shape.objs.toNat := by rw [es]; omega
 have : valS f p (x : Int) e = outs j.shape x := by
  refine rising_ext (nats_rising _ _) (by rw [outs_nats]; exact nats_rising _ _) fun y => ?_;rw [mem_valS, mem_outs, es]
  constructor
  ·rintro ⟨h1, h2, _⟩; exact ⟨h1.1, h1.2, h2⟩
  ·rintro ⟨h1, h2, h3⟩;exact ⟨⟨h1, h2⟩, h3, hp.cls y ⟨h1, h2⟩ e (by rw [h3, ix_nat]; exact he)⟩
 rw [this]; exact ht.top x hx2
theorem clF_idem (hp : f.Part p) : clF j f (clF j f p) = clF j f p := by
 have hc := clF_part (p := p) ht es h;refine (clF_part ht es h).ext hc fun x hx e => ⟨fun he => ?_, fun he => clF_ext ht es h hc hx he⟩
 have hsl := h.1.sl
 obtain ⟨h1, h2⟩ := (mem_clF hx).mp he;refine (mem_clF hx).mpr ⟨h1, ht.loc x (by rw [es]; omega) _ h2 _ (by rw [es]; exact val_sieve h hp (by rw [ix_nat]; exact h1)) fun a ha => ?_⟩
 obtain ⟨ha1, ha2, ha3⟩ := mem_valS.mp ha
 have hto := h.1.is.1.toObj ha1.2
 have h3 := ((mem_clI (j := j) (p := p) (x := ix f.shape.to a) ⟨hto.1, by omega⟩).mp ha3).2;rw [← pull_val h ha1 (by rw [ha2, ix_nat]; exact h1), ha2] at h3;rw [es]; exact h3
end
def preP (f : SF) (m p : List (List Int)) : List (List Int) := partF f fun x e => decide (ix (ix m (x : Int)) (e : Int) ∈ p.getD x default)
section
variable {f g : SF} {m p : List (List Int)}
theorem mem_preP {x : Nat} (hx : x < f.sizes.length) {e : Int} : e ∈ (preP f m p).getD x default ↔ (0 ≤ e ∧ e < f.sizes.getD x default) ∧ ix (ix m (x : Int)) e ∈ p.getD x default := by
 rw [preP, mem_partF hx, decide_eq_true_eq]
 constructor
 ·rintro ⟨h1, h2⟩; rw [Int.toNat_of_nonneg h1.1] at h2; exact ⟨h1, h2⟩
 ·rintro ⟨h1, h2⟩; rw [Int.toNat_of_nonneg h1.1]; exact ⟨h1, h2⟩
variable (hf : f.Is) (hg : g.Is) (e : f.shape = g.shape) (hm : MapL f g m)
include hf hg e hm
theorem preP_part (hp : g.Part p) : f.Part (preP f m p) := by
 refine partF_part hf.1 fun a ha d hd hq => ?_
 have h1 := hf.1.is.1.frmObj ha.2
 have h2 := hf.1.is.1.toObj ha.2
 have hact := hf.1.actTo ha hd;rw [decide_eq_true_eq] at hq ⊢;rw [Int.toNat_of_nonneg h1.1, Int.toNat_of_nonneg hd.1] at hq;rw [Int.toNat_of_nonneg h2.1, Int.toNat_of_nonneg hact.1, hm.nl a ha d hd]
 have := hp.cls a (by rw [← e]; exact ha) _ (by rw [← e]; exact hq);rw [← e] at this; exact this
theorem pre_val (hp : g.Part p) {x d : Int} (hx : 0 ≤ x ∧ x < f.shape.objs) (hd : 0 ≤ d ∧ d < ix f.sizes x) : valS f (preP f m p) x d = valS g p x (ix (ix m x) d) := by
 refine rising_ext (nats_rising _ _) (nats_rising _ _) fun y => ?_;rw [mem_valS, mem_valS, ← e]
 have key : (0 ≤ y ∧ y.toNat < f.shape.frm.length) → ix f.shape.frm y = x → (ix (ix f.acts y) d ∈ ix (preP f m p) (ix f.shape.to y) ↔ ix (ix g.acts y) (ix (ix m x) d) ∈ ix p (ix f.shape.to y)) := fun hy hyx => by
  have hd2 : 0 ≤ d ∧ d < ix f.sizes (ix f.shape.frm y) := by rw [hyx]; exact hd
  have hto := hf.1.is.1.toObj hy.2
  have hsl := hf.1.sl
  have hact := hf.1.actTo hy hd2
  have hn := hm.nl y hy d hd2;rw [hyx] at hn
  have := mem_preP (f := f) (m := m) (p := p) (x := (ix f.shape.to y).toNat) (by omega) (e := ix (ix f.acts y) d);rw [Int.toNat_of_nonneg hto.1, hn] at this;exact this.trans ⟨fun q => q.2, fun q => ⟨hact, q⟩⟩
 constructor
 ·rintro ⟨h1, h2, h3⟩; exact ⟨h1, h2, (key h1 h2).mp h3⟩
 ·rintro ⟨h1, h2, h3⟩; exact ⟨h1, h2, (key h1 h2).mpr h3⟩
theorem pre_cl {j : Top} (hp : g.Part p) : clF j f (preP f m p) = preP f m (clF j g p) := by
 refine List.ext_getElem (by simp [clF, preP, partF]) fun i h1 h2 => ?_
 have hi : i < f.sizes.length := by simpa [clF, partF] using h1
 have hsl := hf.1.sl
 have hgl := hg.1.sl
 have e1 : (clF j f (preP f m p)).getD i default = (preP f m (clF j g p)).getD i default := by
  rw [show clF j f (preP f m p) = partF f fun x e => decide (valS f (preP f m p) (x : Int) (e : Int) ∈ j.covers.getD x default) from rfl,
   show preP f m (clF j g p) = partF f fun x e => decide (ix (ix m (x : Int)) (e : Int) ∈ (clF j g p).getD x default) from rfl, partF_get hi, partF_get hi]
  refine rising_ext (nats_rising _ _) (nats_rising _ _) fun y => ?_;rw [mem_nats, mem_nats];refine and_congr_right fun hy0 => and_congr_right fun hy1 => ?_;rw [decide_eq_true_eq, decide_eq_true_eq]
  have hyb : 0 ≤ ((y.toNat : Nat) : Int) ∧ ((y.toNat : Nat) : Int) < ix f.sizes (i : Int) := by rw [ix_nat]; omega
  have hio : 0 ≤ (i : Int) ∧ (i : Int) < f.shape.objs := by omega
  rw [pre_val hf hg e hm hp hio hyb]
  have hmi := (hm.pl (i : Int) hio).2 _ hyb;rw [mem_clF (by rw [e] at hio; omega)];exact ⟨fun q => ⟨by rw [← ix_nat]; exact hmi, q⟩, fun q => q.2⟩
 simpa [List.getD_eq_getElem?_getD, h1, h2] using e1
end
end Go.Shf
namespace Go.Shf
open Go.AW
end Go.Shf
namespace Go.Shf
open Go.AW
structure QS where
 v : List Int
 l : List (Int × Int)
 r : List (Int × Int)
 o : List Int
end Go.Shf
namespace Go.Shf
open Go.AW
end Go.Shf
namespace Go.Shf
open Go.AW
end Go.Shf
namespace Go.Shf
open Go.AW
end Go.Shf
namespace Go.Shf
open Go.AW
end Go.Shf
namespace Go.Shf
open Go.AW
end Go.Shf
namespace Go.Shf
open Go.AW
end Go.Shf
namespace Go.Shf
open Go.AW
end Go.Shf
namespace Go.Shf
open Go.AW
end Go.Shf
namespace Go.Shf
open Go.AW
end Go.Shf
namespace Go.Shf
open Go.AW
end Go.Shf
namespace Go.Shf
open Go.AW
end Go.Shf
namespace Go.Shf
open Go.AW
theorem filt_at {P : Nat → Bool} {n a : Nat} (ha : a < n) (h : P a = true) : ((List.range n).filter P).getD ((List.range a).filter P).length default = a ∧ ((List.range a).filter P).length < ((List.range n).filter P).length := by
 obtain ⟨m, rfl⟩ : ∃ m, n = a + 1 + m := ⟨n - (a + 1), by omega⟩
 have e : (List.range (a + 1 + m)).filter P = (List.range a).filter P ++ a :: ((List.range m).map (a + 1 + ·)).filter P := by
  rw [List.range_add, List.filter_append, List.range_succ, List.filter_append, List.filter_cons, if_pos h]; simp
 rw [e]
 constructor
 ·rw [List.getD_eq_getElem?_getD, List.getElem?_append_right (Nat.le_refl _), Nat.sub_self]; rfl
 ·simp
section
variable {f g : SF} {p p' : List (List Int)} {x e d : Int} {k : Nat} {N : List (Int × Int)} {M M' : List (List (List Int))}
def outK (c : Cat) (x : Int) (a : Nat) : Nat := ((List.range a).filter fun i => decide (c.frm.getD i default = x)).length
theorem outK_succ (c : Cat) (x : Int) (a : Nat) : outK c x (a + 1) = if c.frm.getD a default = x then outK c x a + 1 else outK c x a := by
 rw [outK, outK, List.range_succ, List.filter_append, List.length_append]
 by_cases h : c.frm.getD a default = x
 ·rw [if_pos h, List.filter_cons, if_pos (decide_eq_true h)]; simp
 ·rw [if_neg h, List.filter_cons, if_neg (by simpa using h)]; simp
def okS (f g : SF) (p : List (List Int)) (x e d : Int) : Prop := ∃ p' N, SetM f g p x e d (outs f.shape x).length p' N
theorem SetM.bad2 (w : At3 f g x e d) (s : SetM f g p x e d k p' N) (hk : k < (outs f.shape x).length) {a : Int} (ea : (outs f.shape x).getD k default = a)
  (h : 0 ≤ ix (ix p' (ix f.shape.to a)) (ix (ix f.acts a) e)) (hne : ix (ix p' (ix f.shape.to a)) (ix (ix f.acts a) e) ≠ ix (ix g.acts a) d) (t : List (List Int))
  (key : ∀ b, b ∈ outs f.shape x → ix (ix t (ix f.shape.to b)) (ix (ix f.acts b) e) = ix (ix g.acts b) d)
  (ht : ∀ y i : Int, 0 ≤ y ∧ y < f.shape.objs → 0 ≤ i ∧ i < ix f.sizes y → 0 ≤ ix (ix p y) i → ix (ix t y) i = ix (ix p y) i) : False := by
 have hA := w.arr (b := a) (mem_getD.mpr ⟨k, hk, ea⟩)
 have h1 := key a (mem_getD.mpr ⟨k, hk, ea⟩)
 rcases s.new _ _ hA.2.2.1.1 hA.2.2.2.1.1 with q | ⟨_, b, hb, q3, q4, q5⟩
 ·rw [q] at h hne;exact hne ((ht _ _ hA.2.2.1 hA.2.2.2.1 h).symm.trans h1)
 ·have h2 := key b (List.mem_of_mem_take hb);rw [q3, q4] at h2;exact hne (q5.trans (h2.symm.trans h1))
theorem SetM.bad3 (w : At3 f g x e d) (s : SetM f g p x e d k p' N) (hk : k < (outs f.shape x).length) {a : Int} (ea : (outs f.shape x).getD k default = a)
  (h : 0 ≤ ix (ix p' (ix f.shape.to a)) (ix (ix f.acts a) e)) (hne : ix (ix p' (ix f.shape.to a)) (ix (ix f.acts a) e) ≠ ix (ix g.acts a) d) : ¬ okS f g p x e d := fun ⟨q, N', hq⟩ =>
 s.bad2 w hk ea h hne q (fun b hb => hq.hit b (by rw [List.take_length]; exact hb)) fun y i hy hi h0 => hq.keep hy.1 hi.1 (by omega)
theorem okS_or (w : At3 f g x e d) (hP : PT f g p) : okS f g p x e d ∨ ∀ t, ExtT f g p t → ix (ix t x) e ≠ d := by
 have key : ∀ k, k ≤ (outs f.shape x).length → (∃ p' N, SetM f g p x e d k p' N) ∨ ∀ t, ExtT f g p t → ix (ix t x) e ≠ d := by
  intro k
  induction k with
  | zero => intro _; exact .inl ⟨p, [], .zero f g p x e d⟩
  | succ k ih =>
   intro hk
   rcases ih (by omega) with ⟨p', N, s⟩ | h
   ·by_cases h0 : 0 ≤ ix (ix p' (ix f.shape.to ((outs f.shape x).getD k default))) (ix (ix f.acts ((outs f.shape x).getD k default)) e)
    ·by_cases h1 : ix (ix p' (ix f.shape.to ((outs f.shape x).getD k default))) (ix (ix f.acts ((outs f.shape x).getD k default)) e) = ix (ix g.acts ((outs f.shape x).getD k default)) d
     ·exact .inl ⟨_, _, s.same (by omega) rfl h1⟩
     ·exact .inr (s.bad w (by omega) rfl h0 h1)
    ·exact .inl ⟨_, _, s.fresh w hP (by omega) rfl h0⟩
   ·exact .inr h
 exact key _ (Nat.le_refl _)
theorem okS_none (w : At3 f g x e d) (hP : PT f g p) (h : ¬ okS f g p x e d) : ∀ t, ExtT f g p t → ix (ix t x) e ≠ d := (okS_or w hP).resolve_left h
structure FstT (f : SF) (p : List (List Int)) (x e : Int) : Prop where
 hx : 0 ≤ x ∧ x < f.shape.objs
 he : 0 ≤ e ∧ e < ix f.sizes x
 un : ix (ix p x) e = -1
 fst : ∀ y i : Int, 0 ≤ y ∧ y < f.shape.objs → 0 ≤ i ∧ i < ix f.sizes y → (y < x ∨ (y = x ∧ i < e)) → ix (ix p y) i ≠ -1
theorem ext_lt (h : FstT f p x e) (hP : PT f g p) (hs : (f.sizes.length : Int) = f.shape.objs) {s t : List (List Int)} (s1 : ExtT f g p s) (t1 : ExtT f g p t) (hlt : ix (ix s x) e < ix (ix t x) e) : ltT s t := by
 refine ⟨x.toNat, e.toNat, fun y i hyi => ?_, hlt⟩
 have hx := h.hx
 have he := h.he
 have hy : (0 : Int) ≤ (y : Int) ∧ (y : Int) < f.shape.objs := by omega
 have l1 := (s1.1.pl y hy).1
 have l2 := (t1.1.pl y hy).1
 by_cases hi : (i : Int) < ix f.sizes y
 ·have hi' : (0 : Int) ≤ (i : Int) ∧ (i : Int) < ix f.sizes y := ⟨by omega, hi⟩
  have hne := h.fst y i hy hi' (by omega)
  have hge := ((hP.val y i hy hi').resolve_left hne).1
  have a1 := s1.2 y i hy hi' hge
  have a2 := t1.2 y i hy hi' hge
  have := a1.trans a2.symm
  simpa only [ix_nat] using this
 ·rw [ix_nat] at l1 l2;rw [List.getD_eq_getElem?_getD, List.getD_eq_getElem?_getD (l := t.getD y default), List.getElem?_eq_none (by omega), List.getElem?_eq_none (by omega)]
theorem AccT.skip {j j' : Int} (h : AccT f g p x e j M) (hj : j ≤ j') (hn : ∀ u, j ≤ u → u < j' → ∀ t, ExtT f g p t → ix (ix t x) e ≠ u) : AccT f g p x e j' M := ⟨h.srt, fun t => by
 rw [h.mem]
 constructor
 ·rintro ⟨h1, h2⟩; exact ⟨h1, by omega⟩
 ·rintro ⟨h1, h2⟩;refine ⟨h1, ?_⟩
  by_cases hlt : ix (ix t x) e < j
  ·exact hlt
  ·exact absurd rfl (hn _ (by omega) h2 t h1)⟩
theorem AccT.next (h : FstT f p x e) (hP : PT f g p) (hs : (f.sizes.length : Int) = f.shape.objs) {j : Int} (ha : AccT f g p x e j M) (h2 : ListsT f g p' M') (hp : ∀ t, ExtT f g p' t ↔ ExtT f g p t ∧ ix (ix t x) e = j) : AccT f g p x e (j + 1) (M ++ M') :=
 ha.more h.hx h.he h2 hs (fun y i hy hi => (hP.val y i hy hi).imp id fun h => h.1) hp h.fst
theorem AccT.pre (h : FstT f p x e) (hP : PT f g p) (hs : (f.sizes.length : Int) = f.shape.objs) {j : Int} (ha : AccT f g p x e j M) {L : List (List (List Int))} (hL : ListsT f g p L) : M <+: L := by
 have : ListsT f g p (M ++ L.filter fun t => decide (j ≤ ix (ix t x) e)) := by
  refine ⟨List.pairwise_append.mpr ⟨ha.srt, hL.srt.sublist List.filter_sublist, fun s hs' t ht => ?_⟩, fun t => ?_⟩
  ·obtain ⟨s1, s2⟩ := (ha.mem s).mp hs';rw [List.mem_filter, decide_eq_true_eq, hL.mem] at ht;exact ext_lt h hP hs s1 ht.1 (by omega)
  ·rw [List.mem_append, ha.mem, List.mem_filter, decide_eq_true_eq, hL.mem]
   constructor
   ·rintro (h | h) <;> exact h.1
   ·intro h1
    by_cases hlt : ix (ix t x) e < j
    ·exact .inl ⟨h1, hlt⟩
    ·exact .inr ⟨h1, by omega⟩
 rw [hL.uniq this];exact List.prefix_append _ _
theorem leastN {P : Nat → Prop} (h : ∃ n, P n) : ∃ n, P n ∧ ∀ m, m < n → ¬ P m := by
 obtain ⟨n, hn⟩ := h
 induction n using Nat.strongRecOn with
 | _ n ih =>
  by_cases hc : ∃ m, m < n ∧ P m
  ·obtain ⟨m, h1, h2⟩ := hc;exact ih m h1 h2
  ·exact ⟨n, hn, fun m hm hP => hc ⟨m, hm, hP⟩⟩
theorem fst_or (hf : f.Is) (hP : PT f g p) : (∃ x e, FstT f p x e) ∨ ∀ y i : Int, 0 ≤ y ∧ y < f.shape.objs → 0 ≤ i ∧ i < ix f.sizes y → ix (ix p y) i ≠ -1 := by
 cases hq : (posT f).find? fun q => decide (ix (ix p q.1) q.2 = -1) with
 | none =>
  refine .inr fun y i hy hi e => ?_
  have := List.find?_eq_none.mp hq (y, i) ((mem_posT hf.1).mpr ⟨hy, hi⟩)
  simp [e] at this
 | some q =>
  by_cases hn : ∀ y i : Int, 0 ≤ y ∧ y < f.shape.objs → 0 ≤ i ∧ i < ix f.sizes y → ix (ix p y) i ≠ -1
  ·exact .inr hn
  ·refine .inl ?_
   have hex : ∃ n : Nat, ∃ i : Int, ((n : Int) < f.shape.objs) ∧ (0 ≤ i ∧ i < ix f.sizes n) ∧ ix (ix p n) i = -1 := by
    false_or_by_contra
    rename_i hc
    refine hn fun y i hy hi he => hc ⟨y.toNat, i, ?_, ?_, ?_⟩
    ·omega
    ·rw [Int.toNat_of_nonneg hy.1]; exact hi
    ·rw [Int.toNat_of_nonneg hy.1]; exact he
   obtain ⟨n, ⟨i0, hn1, hi0, he0⟩, hmin⟩ := leastN hex
   have hex2 : ∃ m : Nat, ((m : Int) < ix f.sizes n) ∧ ix (ix p n) m = -1 := ⟨i0.toNat, by omega, by rw [Int.toNat_of_nonneg hi0.1]; exact he0⟩
   obtain ⟨m, ⟨hm1, hm2⟩, hmin2⟩ := leastN hex2;refine ⟨n, m, ⟨by omega, hn1⟩, ⟨by omega, hm1⟩, hm2, fun y i hy hi hlt he => ?_⟩
   rcases hlt with h | ⟨rfl, h⟩
   ·refine hmin y.toNat (by omega) ⟨i, by omega, ?_, ?_⟩
    ·rw [Int.toNat_of_nonneg hy.1]; exact hi
    ·rw [Int.toNat_of_nonneg hy.1]; exact he
   ·refine hmin2 i.toNat (by omega) ⟨by omega, ?_⟩;rw [Int.toNat_of_nonneg hi.1]; exact he
theorem lists_ex (hf : f.Is) (hg : g.Is) (sh : f.shape = g.shape) : ∀ (n : Nat) (p : List (List Int)), unsetT f p = n → PT f g p → ∃ M, ListsT f g p M := by
 intro n
 induction n using Nat.strongRecOn with
 | _ n ih =>
 intro p hn hP
 rcases fst_or hf hP with ⟨x, e, h⟩ | h
 rotate_left 1
 ·exact ⟨[p], lists_full hf hP h⟩
 have hsl := hf.1.sl
 have key : ∀ d : Nat, (d : Int) ≤ ix g.sizes x → ∃ M, AccT f g p x e d M := by
  intro d
  induction d with
  | zero => intro _; exact ⟨[], .zero h.hx h.he⟩
  | succ d ihd =>
   intro hd
   obtain ⟨M, hM⟩ := ihd (by omega)
   have hat : At3 f g x e d := ⟨hf, hg, sh, h.hx, h.he, by omega⟩
   rcases okS_or hat hP with ⟨p', N, s⟩ | hno
   ·obtain ⟨M', hM'⟩ := ih (unsetT f p') (by rw [← hn]; exact s.less hat hP h.un) p' rfl (s.pt hat hP);exact ⟨M ++ M', by rw [Int.natCast_succ]; exact hM.next h hP hsl hM' fun t => s.ext hat hP t⟩
   ·exact ⟨M, by rw [Int.natCast_succ]; exact hM.none hno⟩
 have hX := hg.1.inX (x := x) (by rw [← sh]; exact h.hx)
 have h0 := (hg.1.sz _ (ix_mem hX.2)).1
 obtain ⟨M, hM⟩ := key (ix g.sizes x).toNat (by omega);rw [Int.toNat_of_nonneg h0] at hM;exact ⟨M, hM.done h.hx h.he⟩
noncomputable def allMp (f g : SF) (p : List (List Int)) : List (List (List Int)) := open Classical in if h : ∃ M, ListsT f g p M then Classical.choose h else []
theorem allMp_is (hf : f.Is) (hg : g.Is) (sh : f.shape = g.shape) (hP : PT f g p) : ListsT f g p (allMp f g p) := by
 have h := lists_ex hf hg sh _ p rfl hP;rw [allMp, dif_pos h]; exact Classical.choose_spec h
theorem allMp_eq (hf : f.Is) (hg : g.Is) (sh : f.shape = g.shape) (hP : PT f g p) {M : List (List (List Int))} (h : ListsT f g p M) : M = allMp f g p := h.uniq (allMp_is hf hg sh hP)
noncomputable def choT (f g : SF) (p : List (List Int)) (x e : Int) (n : Nat) : List Int := open Classical in ((List.range n).filter fun u : Nat => decide (okS f g p x e u)).map Int.ofNat
theorem choT_t {n : Nat} (h : okS f g p x e n) : choT f g p x e (n + 1) = choT f g p x e n ++ [(n : Int)] := by
 classical
 rw [choT, List.range_succ, List.filter_append, List.filter_cons, if_pos (decide_eq_true h), List.map_append]; rfl
theorem choT_f {n : Nat} (h : ¬ okS f g p x e n) : choT f g p x e (n + 1) = choT f g p x e n := by
 classical
 rw [choT, List.range_succ, List.filter_append, List.filter_cons, if_neg (by simpa using h), List.map_append]; simp [choT]
theorem choT_len (n : Nat) : (choT f g p x e n).length ≤ n := by
 rw [choT, List.length_map];refine Nat.le_trans (List.length_filter_le _ _) ?_;rw [List.length_range]; exact Nat.le_refl _
theorem mem_choT {n : Nat} {u : Int} : u ∈ choT f g p x e n ↔ (0 ≤ u ∧ u < n) ∧ okS f g p x e u := by
 classical
 simp only [choT, List.mem_map, List.mem_filter, List.mem_range, decide_eq_true_eq]
 constructor
 ·rintro ⟨a, ⟨h1, h2⟩, rfl⟩;exact ⟨⟨by simp, by simpa using h1⟩, h2⟩
 ·rintro ⟨⟨h1, h2⟩, h3⟩;refine ⟨u.toNat, ⟨by omega, ?_⟩, by simp [Int.toNat_of_nonneg h1]⟩;rw [Int.toNat_of_nonneg h1]; exact h3
theorem choT_srt (n : Nat) : (choT f g p x e n).Pairwise (· < ·) := by
 classical
 rw [choT, List.pairwise_map];refine List.Pairwise.imp (R := fun a b : Nat => a < b) (fun {a b} h => by simpa using h) ?_;exact List.Pairwise.sublist List.filter_sublist List.pairwise_lt_range
theorem cho_none (hf : f.Is) (hg : g.Is) (sh : f.shape = g.shape) (hP : PT f g p) (hx : 0 ≤ x ∧ x < f.shape.objs) (he : 0 ≤ e ∧ e < ix f.sizes x) (h : choT f g p x e (ix g.sizes x).toNat = []) : ListsT f g p [] := by
 refine ⟨.nil, fun t => ⟨fun h => by simp at h, fun ht => ?_⟩⟩
 have hv := (ht.1.pl x hx).2 e he
 have hat : At3 f g x e (ix (ix t x) e) := ⟨hf, hg, sh, hx, he, hv⟩
 have hno : ¬ okS f g p x e (ix (ix t x) e) := fun hok => by
  have : ix (ix t x) e ∈ choT f g p x e (ix g.sizes x).toNat := mem_choT.mpr ⟨⟨hv.1, by omega⟩, hok⟩;rw [h] at this; simp at this
 exact absurd rfl (okS_none hat hP hno t ht)
structure ChoI (f g : SF) (p : List (List Int)) (x e : Int) (n i : Nat) (b : Int) (M : List (List (List Int))) : Prop where
 acc : AccT f g p x e b M
 b0 : 0 ≤ b ∧ b ≤ n
 lo : ∀ u, u ∈ (choT f g p x e n).drop i → b ≤ u
 hi : ∀ u, b ≤ u → u < n → okS f g p x e u → u ∈ (choT f g p x e n).drop i
theorem ChoI.start (hx : 0 ≤ x ∧ x < f.shape.objs) (he : 0 ≤ e ∧ e < ix f.sizes x) (n : Nat) : ChoI f g p x e n 0 0 [] :=
 ⟨.zero hx he, by omega, fun u hu => (mem_choT.mp (by simpa using hu)).1.1, fun u h1 h2 h3 => by simpa using mem_choT.mpr ⟨⟨h1, h2⟩, h3⟩⟩
theorem ChoI.step (w : ∀ d, 0 ≤ d → d < ix g.sizes x → At3 f g x e d) (h : FstT f p x e) (hP : PT f g p) (hs : (f.sizes.length : Int) = f.shape.objs) {n i : Nat} {b : Int} (hn : (n : Int) = ix g.sizes x) (s : ChoI f g p x e n i b M) (hi : i < (choT f g p x e n).length)
  {c : Int} (hc : (choT f g p x e n).getD i default = c) (h2 : ListsT f g p' M') (hp : ∀ t, ExtT f g p' t ↔ ExtT f g p t ∧ ix (ix t x) e = c) : ChoI f g p x e n (i + 1) (c + 1) (M ++ M') := by
 have hm := mem_choT.mp (mem_getD.mpr ⟨i, hi, hc⟩)
 have ed : (choT f g p x e n).drop i = c :: (choT f g p x e n).drop (i + 1) := by
  rw [List.drop_eq_getElem_cons hi]
  congr 1
  rw [← hc, List.getD_eq_getElem?_getD, List.getElem?_eq_getElem hi]; rfl
 have hsr : ∀ u, u ∈ (choT f g p x e n).drop (i + 1) → c < u := by
  have := (choT_srt (f := f) (g := g) (p := p) (x := x) (e := e) n).sublist (List.drop_sublist i _);rw [ed, List.pairwise_cons] at this;exact this.1
 have hbc := s.lo c (by rw [ed]; simp);refine ⟨AccT.next h hP hs (s.acc.skip hbc fun u h1 h2 t ht => ?_) h2 hp, by omega, fun u hu => by have := hsr u hu; omega, fun u h1 h2 h3 => ?_⟩
 ·have h0 := s.b0;refine okS_none (w u (by omega) (by omega)) hP (fun hok => ?_) t ht
  have := s.hi u h1 (by omega) hok;rw [ed] at this
  rcases List.mem_cons.mp this with rfl | hu
  ·omega
  ·have := hsr u hu; omega
 ·have := s.hi u (by omega) h2 h3;rw [ed] at this
  rcases List.mem_cons.mp this with rfl | hu
  ·omega
  ·exact hu
theorem ChoI.done (w : ∀ d, 0 ≤ d → d < ix g.sizes x → At3 f g x e d) (h : FstT f p x e) (hP : PT f g p) {n : Nat} {b : Int} (hn : (n : Int) = ix g.sizes x) (s : ChoI f g p x e n (choT f g p x e n).length b M) : ListsT f g p M := by
 refine AccT.done h.hx h.he ?_;refine s.acc.skip (by have := s.b0; omega) fun u h1 h2 t ht => ?_
 have h0 := s.b0;refine okS_none (w u (by omega) h2) hP (fun hok => ?_) t ht
 have := s.hi u h1 (by omega) hok
 simp at this
end
end Go.Shf
namespace Go.Shf
open Go.AW
section
variable {f g : SF} {p : List (List Int)} {x e : Int}
def ScanT (f : SF) (p : List (List Int)) (Y D x e : Int) : Prop :=
 ((x = -1 ∧ e = -1) ∨ ((0 ≤ x ∧ x < f.shape.objs) ∧ (0 ≤ e ∧ e < ix f.sizes x) ∧ ix (ix p x) e = -1 ∧ (Y < x ∨ (Y = x ∧ D ≤ e)))) ∧
  ∀ y i : Int, 0 ≤ y ∧ y < f.shape.objs → 0 ≤ i ∧ i < ix f.sizes y → (Y < y ∨ (Y = y ∧ D ≤ i)) → ix (ix p y) i = -1 → 0 ≤ x ∧ (x < y ∨ (x = y ∧ e ≤ i))
theorem ScanT.start {n : Int} (hn : f.shape.objs ≤ n) : ScanT f p n 0 (-1) (-1) := ⟨.inl ⟨rfl, rfl⟩, fun y i hy _ h _ => by omega⟩
theorem ScanT.row {Y D : Int} (hD : ix f.sizes Y ≤ D) (s : ScanT f p (Y + 1) 0 x e) : ScanT f p Y D x e := ⟨s.1.imp id fun ⟨h1, h2, h3, h4⟩ => ⟨h1, h2, h3, by omega⟩, fun y i hy hi h h0 => by
 refine s.2 y i hy hi ?_ h0
 rcases h with h | ⟨rfl, h⟩
 ·rcases Int.lt_or_le (Y + 1) y with h2 | h2
  ·exact .inl h2
  ·exact .inr ⟨by omega, hi.1⟩
 ·omega⟩
theorem ScanT.keep {Y D : Int} (s : ScanT f p Y (D + 1) x e) (h0 : ix (ix p Y) D ≠ -1) : ScanT f p Y D x e := ⟨s.1.imp id fun ⟨h1, h2, h3, h4⟩ => ⟨h1, h2, h3, by omega⟩, fun y i hy hi h h1 => by
 refine s.2 y i hy hi ?_ h1
 rcases h with h | ⟨rfl, h⟩
 ·exact .inl h
 ·refine .inr ⟨rfl, ?_⟩
  by_cases e : i = D
  ·subst e; exact absurd h1 h0
  ·omega⟩
theorem ScanT.hit {Y D : Int} (s : ScanT f p Y (D + 1) x e) (hY : 0 ≤ Y ∧ Y < f.shape.objs) (hD : 0 ≤ D ∧ D < ix f.sizes Y) (h0 : ix (ix p Y) D = -1) : ScanT f p Y D Y D := ⟨.inr ⟨hY, hD, h0, .inr ⟨rfl, by omega⟩⟩, fun y i hy hi h h1 => ⟨hY.1, h⟩⟩
theorem ScanT.none (s : ScanT f p 0 0 x e) (hx : x < 0) : ∀ y i : Int, 0 ≤ y ∧ y < f.shape.objs → 0 ≤ i ∧ i < ix f.sizes y → ix (ix p y) i ≠ -1 := fun y i hy hi h => by
 have := (s.2 y i hy hi (by omega) h).1;omega
theorem ScanT.fst (s : ScanT f p 0 0 x e) (hx : ¬ x < 0) : FstT f p x e := by
 rcases s.1 with h | ⟨h1, h2, h3, _⟩
 ·omega
 ·refine ⟨h1, h2, h3, fun y i hy hi hlt h => ?_⟩
  have := s.2 y i hy hi (by omega) h;omega
end
end Go.Shf
namespace Go.AW
def IoOnly (a : AV) : Prop := ∀ (g g' : Gh) (v : Value), (∀ i p, g.io i = some p → g'.io i = some p) → VRel g a v → VRel g' a v
theorem IoOnly.int (k : IntKind) (n : Int) : IoOnly (.int k n) := fun g g' v _ h => by cases h; exact .int k n
theorem IoOnly.bool (b : Bool) : IoOnly (.bool b) := fun g g' v _ h => by cases h; exact .bool b
theorem IoOnly.buf (i n : Nat) : IoOnly (.buf i n) := fun g g' v hg h => by
 cases h with
 | bufnil _ h => exact .bufnil _ (hg _ _ h)
 | buf _ _ b cap h => exact .buf _ _ b cap (hg _ _ h)
theorem IoOnly.nilsl : IoOnly .nilsl := fun g g' v hg h => by cases h; exact .nilsl
def MObj.plain : MObj → Prop
 | .cells _ cs _ => ∀ c, c ∈ cs → IoOnly c
 | .map _ _ => False
def MObj.frz : MObj → MObj
 | .cells sz cs _ => .cells sz cs cs.length
 | o => o
def MObj.isMap : MObj → Bool
 | .map _ _ => true
 | _ => false
def frzo : Option MObj → Option MObj
 | some (.cells sz cs _) => some (.cells sz cs cs.length)
 | _ => none
def Heap.frz (H : Heap) : Heap := (H.filter fun x => !((H.get x.1).elim false MObj.isMap)).map fun x => (x.1, x.2.frz)
theorem Heap.get_filter (H : Heap) (p : Nat → Bool) (i : Nat) : Heap.get (H.filter fun x => p x.1) i = if p i then H.get i else none := by
 induction H with
 | nil => simp [Heap.get]
 | cons x r ih =>
  obtain ⟨j, o⟩ := x;simp only [Heap.get, List.filter_cons, List.lookup] at ih ⊢
  by_cases hp : p j
  ·simp only [hp, if_true, List.lookup]
   by_cases e : i = j
   ·subst e; simp [hp]
   ·have : (i == j) = false := by simpa using e
    simp [this, ih]
  ·simp only [hp, Bool.false_eq_true, if_false]
   by_cases e : i = j
   ·subst e; rw [ih]; simp [hp]
   ·have : (i == j) = false := by simpa using e
    simp [this, ih]
theorem Heap.get_map (H : Heap) (f : MObj → MObj) (i : Nat) : Heap.get (H.map fun x => (x.1, f x.2)) i = (H.get i).map f := by
 induction H with
 | nil => rfl
 | cons x r ih =>
  obtain ⟨j, o⟩ := x;simp only [Heap.get, List.map_cons, List.lookup] at ih ⊢
  by_cases e : i = j
  ·subst e; simp
  ·have : (i == j) = false := by simpa using e
   simp [this, ih]
theorem Heap.get_frz (H : Heap) (i : Nat) : H.frz.get i = frzo (H.get i) := by
 unfold Heap.frz;rw [Heap.get_map, Heap.get_filter H fun j => !((H.get j).elim false MObj.isMap)]
 cases h : H.get i with
 | none => simp [frzo]
 | some o => cases o <;> simp [MObj.isMap, frzo, MObj.frz]
theorem frzo_some {o : Option MObj} {x : MObj} (h : frzo o = some x) : ∃ sz cs f, o = some (.cells sz cs f) ∧ x = .cells sz cs cs.length := by
 unfold frzo at h
 split at h
 ·cases h; exact ⟨_, _, _, rfl, rfl⟩
 ·cases h
inductive Tr (H : Heap) : AV → AV → Prop
 | val (a : AV) : Tr H a a
 | buf (id f : Nat) (cs es : List AV) (h : H.get id = some (.cells 1 cs f)) (hl : es.length = cs.length) (h1 : ∀ i, i < cs.length → (es.getD i nv).cells = [es.getD i nv])
   (ht : ∀ i, i < cs.length → Tr H (cs.getD i nv) (es.getD i nv)) : Tr H (.buf id cs.length) (.sl es)
 | agg (cs es : List AV) (hl : es.length = cs.length) (ht : ∀ i, i < cs.length → Tr H (cs.getD i nv) (es.getD i nv)) : Tr H (.agg cs) (.agg es)
 | ref (id sz f : Nat) (cs es : List AV) (h : H.get id = some (.cells sz cs f)) (hl : es.length = cs.length) (ht : ∀ i, i < cs.length → Tr H (cs.getD i nv) (es.getD i nv)) : Tr H (.ref id 0) (.ptr es)
def mapEs : Option Obj → Option (Array MapEntry)
 | some (.map es _) => some es
 | _ => none
noncomputable def Gh.lend (g : Gh) (H : Heap) (w : World) : Gh :=
 {
  fz := fun b o => @ite _ (∃ id cap sz cs f, H.get id = some (.cells sz cs f) ∧ g.io id = some (.blk b cap) ∧ o < cs.length) (Classical.propDecidable _) (w.cell? ⟨b, o, none⟩) (g.fz b o)
  fm := fun b => @ite _ (∃ id ks vs, H.get id = some (.map ks vs) ∧ g.io id = some (.mp b)) (Classical.propDecidable _) (mapEs w.heap[b]?) (g.fm b)
  io := g.io }
theorem Gh.le_lend {g : Gh} {B : Nat} {H : Heap} {w : World} (h : WRel g B H w) : g.le (g.lend H w) := by
 refine ⟨fun b o v e => ?_, fun b es e => ?_, fun _ _ h => h⟩
 ·simp only [Gh.lend]
  split
  ·exact h.fz b o v e
  ·exact e
 ·simp only [Gh.lend]
  split
  ·obtain ⟨clk, hc⟩ := h.fm b es e;rw [hc]; rfl
  ·exact e
theorem WRel.lend {g : Gh} {B : Nat} {H : Heap} {w : World} (h : WRel g B H w) : WRel (g.lend H w) B H.frz w := by
 have hle := Gh.le_lend h
 have hsome : ∀ i, (H.frz.get i).isSome → (H.get i).isSome := by
  intro i e
  obtain ⟨o, e⟩ := Option.isSome_iff_exists.1 e;rw [Heap.get_frz] at e
  obtain ⟨sz, cs, f, e, _⟩ := frzo_some e
  simp [e]
 constructor
 ·intro b o v e;simp only [Gh.lend] at e
  split at e
  ·exact e
  ·exact h.fz b o v e
 ·intro b es e;simp only [Gh.lend] at e
  split at e
  ·unfold mapEs at e
   split at e
   ·rename_i es' clk hc; cases e; exact ⟨clk, hc⟩
   ·cases e
  ·exact h.fm b es e
 ·intro i o e;rw [Heap.get_frz] at e
  obtain ⟨sz, cs, f, e1, rfl⟩ := frzo_some e;clear e
  obtain ⟨p, hp, hr⟩ := h.ob i _ e1;refine ⟨p, hp, ?_⟩
  cases p with
  | nil => simp only [ObjRel] at hr ⊢; simp [hr.1]
  | blk b cap =>
   simp only [ObjRel] at hr ⊢
   obtain ⟨h1, h2, h3, h4, c, el, h5, h6, h7, h8⟩ := hr;refine ⟨h1, Nat.le_refl _, h3, fun x hx => ?_, c, el, h5, h6, h7, fun i hi => (h8 i hi).mono hle⟩;simp only [Gh.lend];rw [if_neg, h4 x (by omega)]
   rintro ⟨id, cap', sz', cs', f', a1, a2, a3⟩
   by_cases hid : id = i
   ·subst hid; rw [e1] at a1; cases a1; omega
   ·exact h.inj id i b cap' cap hid (by simp [a1]) (by simp [e1]) a2 hp
  | mp b => simp [ObjRel] at hr
 ·intro i j b c c' n e1 e2;exact h.inj i j b c c' n (hsome i e1) (hsome j e2)
 ·intro i j b n e1 e2;exact h.injm i j b n (hsome i e1) (hsome j e2)
 ·exact h.base
 ·exact h.fin
theorem Tr.vrel {g : Gh} {B : Nat} {H : Heap} {w : World} (hW : WRel g B H w) {a e : AV} (t : Tr H a e) : ∀ v, VRel g a v → VRel (g.lend H w) e v := by
 induction t with
 | val a => intro v h; exact h.mono (Gh.le_lend hW)
 | buf id f cs es h hl h1 ht ih =>
  intro v hv
  obtain ⟨p, hp, hr⟩ := hW.ob id _ h
  generalize hn : cs.length = n at *
  cases hv with
  | bufnil _ hq =>
   have : es = [] := List.eq_nil_of_length_eq_zero hl;subst this;exact .slnil none 0
  | buf _ _ b cap hq =>
   rw [hp] at hq; cases hq;simp only [ObjRel] at hr
   obtain ⟨r1, r2, r3, r4, c, el, r5, r6, r7, r8⟩ := hr
   have hl' : es.length = cs.length := by omega
   have key : ∀ i j, i < es.length → j < 1 → i * 1 + j = i := by intro i j _ hj; omega
   refine hl ▸ VRel.sl es b 0 1 cap (fun i => c.getD i undef) (by omega) (by omega) (fun i hi => ?_) (fun i j hi hj => ?_) (fun i j hi hj => ?_)
   ·rw [h1 i (by omega)]; rfl
   ·rw [key i j hi hj, Nat.zero_add];simp only [Gh.lend];rw [if_pos ⟨id, cap, 1, cs, f, h, hp, by omega⟩];rw [cell_of_row w b i c el (0, 0) r5]
    have : i < c.size := by omega
    simp [Array.getD, this]
   ·rw [key i j hi hj, h1 i (by omega)]
    obtain rfl : j = 0 := by omega
    exact ih i (by omega) _ (r8 i (by omega))
 | agg cs es hl ht ih =>
  intro v hv
  cases hv with
  | agg _ vs hs hv => exact .agg es vs (by omega) fun i hi => ih i (by omega) _ (hv i (by omega))
 | ref id sz f cs es h hl ht ih =>
  intro v hv
  obtain ⟨p, hp, hr⟩ := hW.ob id _ h
  cases hv with
  | ref _ _ b cap hq =>
   rw [hp] at hq; cases hq;simp only [ObjRel] at hr
   obtain ⟨r1, r2, r3, r4, c, el, r5, r6, r7, r8⟩ := hr;refine .ptr es b 0 (fun i => c.getD i undef) (fun i hi => ?_) (fun i hi => ih i (by omega) _ (r8 i (by omega)));rw [Nat.zero_add];simp only [Gh.lend];rw [if_pos ⟨id, cap, sz, cs, f, h, hp, by omega⟩];rw [cell_of_row w b i c el (0, 0) r5]
   have : i < c.size := by omega
   simp [Array.getD, this]
theorem Heap.get_append (l H : Heap) (i : Nat) : Heap.get (l ++ H) i = (Heap.get l i).or (H.get i) := by
 induction l with
 | nil => simp [Heap.get]
 | cons x r ih =>
  obtain ⟨j, o⟩ := x;simp only [Heap.get, List.cons_append, List.lookup] at ih ⊢
  by_cases e : i = j
  ·subst e; simp
  ·have : (i == j) = false := by simpa using e
   simp [this, ih]
theorem Heap.get_mem {l : Heap} {i : Nat} {o : MObj} (h : Heap.get l i = some o) : (i, o) ∈ l := by
 induction l with
 | nil => simp [Heap.get] at h
 | cons x r ih =>
  obtain ⟨j, o'⟩ := x;simp only [Heap.get, List.lookup] at ih h
  by_cases e : i = j
  ·subst e; simp at h; simp [h]
  ·have : (i == j) = false := by simpa using e
   simp only [this] at h;exact List.mem_cons_of_mem _ (ih h)
theorem Heap.mem_get {l : Heap} (nd : (l.map Prod.fst).Nodup) {x : Nat × MObj} (h : x ∈ l) : Heap.get l x.1 = some x.2 := by
 induction l with
 | nil => simp at h
 | cons y r ih =>
  obtain ⟨j, o'⟩ := y;simp only [List.map_cons, List.nodup_cons] at nd;simp only [Heap.get, List.lookup]
  rcases List.mem_cons.mp h with rfl | hm
  ·simp
  ·have : (x.1 == j) = false := by
    simp only [beq_eq_false_iff_ne, ne_eq]
    intro e; exact nd.1 (e ▸ List.mem_map_of_mem hm)
   simp only [this];exact ih nd.2 hm
theorem WRel.giveBack {g g' : Gh} {B : Nat} {H H' l : Heap} {w w' : World} (h : WRel g B H w) (hg : (g.lend H w).le g')
  (h' : WRel g' B H' w') (ho : Owns H.frz H' l) (hl : ∀ x, x ∈ l → x.2.plain ∧ H.get x.1 = none) : g.le { g with io := g'.io } ∧ WRel { g with io := g'.io } B (l ++ H) w' := by
 have hle0 := (Gh.le_lend h).trans hg
 have hle : g.le { g with io := g'.io } := ⟨fun _ _ _ h => h, fun _ _ h => h, hle0.io⟩
 have fzn : ∀ b o, g'.fz b o = none → g.fz b o = none := by
  intro b o e
  cases e2 : g.fz b o with
  | none => rfl
  | some v => rw [hle0.fz _ _ _ e2] at e; cases e
 have hio : ∀ i o, H.get i = some o → ∃ p, g.io i = some p ∧ g'.io i = some p ∧ ObjRel g B w p o := by
  intro i o e
  obtain ⟨p, hp, hr⟩ := h.ob i o e;exact ⟨p, hp, hle0.io _ _ hp, hr⟩
 have cases : ∀ i, (Heap.get (l ++ H) i).isSome → (∃ sz cs f, H'.get i = some (.cells sz cs f)) ∨ ∃ ks vs, H.get i = some (.map ks vs) := by
  intro i e;rw [Heap.get_append] at e
  cases e1 : Heap.get l i with
  | some o =>
   have hm := Heap.get_mem e1
   have h1 := ho.get _ hm
   have h2 := (hl _ hm).1;simp only at h1 h2
   cases o with
   | cells sz cs f => exact .inl ⟨_, _, _, h1⟩
   | map ks vs => exact absurd h2 (by simp [MObj.plain])
  | none =>
   rw [e1, Option.none_or] at e
   obtain ⟨o, e⟩ := Option.isSome_iff_exists.1 e
   cases o with
   | cells sz cs f =>
    have : H.frz.get i = some (.cells sz cs cs.length) := by rw [Heap.get_frz, e]; rfl
    exact .inl ⟨_, _, _, ho.sub _ _ this⟩
   | map ks vs => exact .inr ⟨_, _, e⟩
 refine ⟨hle, ?_⟩
 constructor
 ·intro b o v e; exact h'.fz _ _ _ (hle0.fz _ _ _ e)
 ·intro b es e; exact h'.fm _ _ (hle0.fm _ _ e)
 ·intro i o e;rw [Heap.get_append] at e
  cases e1 : Heap.get l i with
  | some o1 =>
   rw [e1, Option.some_or] at e; cases e
   have hm := Heap.get_mem e1
   obtain ⟨p, hpp, hr⟩ := h'.ob i o (ho.get _ hm)
   have hpl := (hl _ hm).1;refine ⟨p, hpp, ?_⟩
   cases o with
   | map ks vs => exact absurd hpl (by simp [MObj.plain])
   | cells sz cs f =>
    cases p with
    | nil => exact hr
    | mp b => simp [ObjRel] at hr
    | blk b cap =>
     simp only [ObjRel] at hr ⊢
     obtain ⟨r1, r2, r3, r4, c, el, r5, r6, r7, r8⟩ := hr;refine ⟨r1, r2, r3, fun o ho => fzn _ _ (r4 o ho), c, el, r5, r6, r7, fun i hi => hpl _ ?_ g' _ _ (fun _ _ h => h) (r8 i hi)⟩;rw [List.getD_eq_getElem?_getD, List.getElem?_eq_getElem hi]; simp
  | none =>
   rw [e1, Option.none_or] at e
   obtain ⟨p, hp0, hp1, hr0⟩ := hio i o e;refine ⟨p, hp1, ?_⟩
   cases o with
   | map ks vs =>
    cases p with
    | nil => simp [ObjRel] at hr0
    | blk b cap => simp [ObjRel] at hr0
    | mp b =>
     simp only [ObjRel] at hr0 ⊢
     obtain ⟨q1, q2, es, clk, q3, q4, q5, q6, q7⟩ := hr0
     have hfm : (g.lend H w).fm b = some es := by
      simp only [Gh.lend];rw [if_pos ⟨i, ks, vs, e, hp0⟩, q3]; rfl
     obtain ⟨clk', hc⟩ := h'.fm _ _ (hg.fm _ _ hfm);exact ⟨q1, q2, es, clk', hc, q4, q5, fun i hi => (q6 i hi).mono hle, fun i hi => (q7 i hi).mono hle⟩
   | cells sz cs f =>
    have e2 : H.frz.get i = some (.cells sz cs cs.length) := by rw [Heap.get_frz, e]; rfl
    obtain ⟨p', hpp, hr⟩ := h'.ob i _ (ho.sub _ _ e2);rw [hp1] at hpp; cases hpp
    cases p with
    | nil => exact hr0
    | mp b => simp [ObjRel] at hr0
    | blk b cap =>
     simp only [ObjRel] at hr hr0 ⊢
     obtain ⟨q1, q2, q3, q4, c0, el0, q5, q6, q7, q8⟩ := hr0
     obtain ⟨r1, r2, r3, r4, c, el, r5, r6, r7, r8⟩ := hr;refine ⟨r1, q2, r3, q4, c, el, r5, r6, r7, fun j hj => ?_⟩
     have h1 : w.cell? ⟨b, j, none⟩ = some (c0.getD j undef) := by
      rw [cell_of_row w b j c0 el0 (0, 0) q5]
      have : j < c0.size := by omega
      simp [Array.getD, this]
     have h2 : w'.cell? ⟨b, j, none⟩ = some (c0.getD j undef) := by
      refine h'.fz _ _ _ (hg.fz _ _ _ ?_);simp only [Gh.lend];rw [if_pos ⟨i, cap, sz, cs, f, e, hp0, hj⟩]; exact h1
     rw [cell_of_row w' b j c el (0, 0) r5] at h2
     have h3 : c.getD j undef = c0.getD j undef := by
      have hj' : j < c.size := by omega
      rw [Array.getElem?_eq_getElem hj'] at h2;rw [← Option.some.inj h2]; simp [Array.getD, hj']
     rw [h3]; exact (q8 j hj).mono hle
 ·intro i j b c c' n e1 e2 e3 e4
  rcases cases i e1 with ⟨sz, cs, f, k1⟩ | ⟨ks, vs, k1⟩
  ·rcases cases j e2 with ⟨sz', cs', f', k2⟩ | ⟨ks, vs, k2⟩
   ·exact h'.inj i j b c c' n (by simp [k1]) (by simp [k2]) e3 e4
   ·obtain ⟨p, hp0, hp1, hr0⟩ := hio j _ k2;simp only at e4; rw [hp1] at e4; cases e4; simp [ObjRel] at hr0
  ·obtain ⟨p, hp0, hp1, hr0⟩ := hio i _ k1;simp only at e3; rw [hp1] at e3; cases e3; simp [ObjRel] at hr0
 ·intro i j b n e1 e2 e3 e4
  rcases cases i e1 with ⟨sz, cs, f, k1⟩ | ⟨ks, vs, k1⟩
  ·obtain ⟨p, hp, hr⟩ := h'.ob i _ k1;simp only at e3; rw [hp] at e3; cases e3; simp [ObjRel] at hr
  ·rcases cases j e2 with ⟨sz', cs', f', k2⟩ | ⟨ks', vs', k2⟩
   ·obtain ⟨p, hp, hr⟩ := h'.ob j _ k2;simp only at e4; rw [hp] at e4; cases e4; simp [ObjRel] at hr
   ·obtain ⟨p, hp0, hp1, _⟩ := hio i _ k1
    obtain ⟨q, hq0, hq1, _⟩ := hio j _ k2;simp only at e3 e4;rw [hp1] at e3; cases e3;rw [hq1] at e4; cases e4;exact h.injm i j b n (by simp [k1]) (by simp [k2]) hp0 hq0
 ·exact h'.base
 ·exact h'.fin
theorem WRel.lendNew {g g' : Gh} {B : Nat} {H H' l : Heap} {w w' : World} (h : WRel g B H w) (hg : (g.lend H w).le g') (h' : WRel g' B H' w') (ho : Owns H.frz H' l) (hl : ∀ x, x ∈ l → x.2.plain) :
  ∀ x, x ∈ l → H.get x.1 = none := by
 intro x hx
 have h1 := ho.out x hx
 have h2 := ho.get x hx
 have h3 := hl x hx;rw [Heap.get_frz] at h1
 cases e : H.get x.1 with
 | none => rfl
 | some o =>
  rw [e] at h1
  cases o with
  | cells sz cs f => simp [frzo] at h1
  | map ks vs =>
   obtain ⟨p, hp, hr⟩ := h.ob _ _ e
   cases p with
   | nil => simp [ObjRel] at hr
   | blk b cap => simp [ObjRel] at hr
   | mp b =>
    have hp' := ((Gh.le_lend h).trans hg).io _ _ hp
    obtain ⟨q, hq, hr2⟩ := h'.ob _ _ h2;rw [hp'] at hq; cases hq
    cases ho2 : x.2 with
    | cells sz cs f => rw [ho2] at hr2; simp [ObjRel] at hr2
    | map ks vs => rw [ho2] at h3; simp [MObj.plain] at h3
theorem CallH.borrow {P : Program} {B : Nat} {f : FuncId} {args es : List AV} {H : Heap} {K0 K : Kont} (hl : es.length = args.length)
  (ht : ∀ i, i < args.length → ∀ g w v, WRel g B H w → VRel g (args.getD i nv) v → VRel (g.lend H w) (es.getD i nv) v)
  (h : CallH P B f es H.frz K0) (hk : ∀ r H', K0 r H' → ∃ l, Owns H.frz H' l ∧ (∀ x, x ∈ l → x.2.plain) ∧ IoOnly r ∧ ((∀ x, x ∈ l → H.get x.1 = none) → K r (l ++ H))) : CallH P B f args H K := by
 refine ⟨h.1, fun g w vs hW hv => ?_⟩;refine (h.2 _ w vs hW.lend ⟨by rw [hv.1, hl], fun i hi => ht i (by omega) g w _ hW (hv.2 i (by omega))⟩).mono fun e w' ⟨v, he, g', r, H', a, b, c, d, k⟩ => ?_
 obtain ⟨l, ho, hpl, hio, hK⟩ := hk r H' b
 have hn := hW.lendNew a d ho hpl
 obtain ⟨q1, q2⟩ := hW.giveBack a d ho fun x hx => ⟨hpl x hx, hn x hx⟩;exact ⟨v, he, _, r, _, q1, hK hn, hio g' _ _ (fun _ _ h => h) c, q2, k⟩
theorem CallH.lentPure {P : Program} {B : Nat} {f : FuncId} {args es : List AV} {H : Heap} {K : Kont} {r : AV} (hr : IoOnly r) (hl : es.length = args.length)
  (ht : ∀ i, i < args.length → ∀ g w v, WRel g B H w → VRel g (args.getD i nv) v → VRel (g.lend H w) (es.getD i nv) v)
  (h : PureF P B f es r) (hk : K r H) : CallH P B f args H K :=
 CallH.borrow hl ht (h _) fun r' H' ⟨e1, e2⟩ => ⟨[], e2 ▸ .nil _, by simp, e1 ▸ hr, fun _ => by rw [e1]; exact hk⟩
theorem Tr.arg {B : Nat} {H : Heap} {a e : AV} (t : Tr H a e) : ∀ g w v, WRel g B H w → VRel g a v → VRel (g.lend H w) e v := fun g w v hW hv => t.vrel hW v hv
theorem val_arg {B : Nat} {H : Heap} (a : AV) : ∀ g w v, WRel g B H w → VRel g a v → VRel (g.lend H w) a v := fun g w v hW hv => hv.mono (Gh.le_lend hW)
theorem Owns.frz {H H' l : Heap} (h : Owns H.frz H' l) (hn : ∀ x, x ∈ l → H.get x.1 = none) : Owns H (l ++ H) l := by
 refine ⟨fun i o e => ?_, fun x hx => ?_, h.nd, hn⟩
 ·rw [Heap.get_append]
  cases e1 : Heap.get l i with
  | some o1 => have := hn _ (Heap.get_mem e1); simp only at this; rw [this] at e; cases e
  | none => simpa using e
 ·rw [Heap.get_append, Heap.mem_get h.nd hx]; rfl
theorem lent_arg {α : Type} [Inhabited α] {f : α → AV} [One f] {B : Nat} {H0 H : Heap} {l : List (Nat × MObj)} {id n fr : Nat} {A : List α} (o : Owns H0 H ((id, .cells 1 (A.map f) fr) :: l)) (hn : n = A.length) :
  ∀ g w v, WRel g B H w → VRel g (.buf id n) v → VRel (g.lend H w) (mL f A) v := by
 subst hn
 have h0 := o.h0;simp only at h0
 have := Tr.buf (H := H) id fr (A.map f) (A.map f) h0 rfl (fun i hi => by rw [List.length_map] at hi; rw [getD_map A hi]; exact one_cells _) (fun i _ => .val _);rw [List.length_map] at this;exact this.arg
theorem call_lent {α : Type} [Inhabited α] {f : α → AV} [One f] {P : Program} {B : Nat} {fn : FuncId} {args : List AV} {H0 H : Heap} {l : List (Nat × MObj)} {K : Kont} {id n fr : Nat} {A : List α} {r : AV} (t : Nat)
  (ha : args[t]? = some (.buf id n)) (o : Owns H0 H ((id, .cells 1 (A.map f) fr) :: l)) (hn : n = A.length) (hr : IoOnly r) (h : PureF P B fn (args.set t (mL f A)) r) (hk : K r H) : CallH P B fn args H K := by
 refine CallH.lentPure hr (by simp) (fun i hi => ?_) h hk
 by_cases e : i = t
 ·subst e
  have e1 : args.getD i nv = .buf id n := by rw [List.getD_eq_getElem?_getD, ha]; rfl
  have e2 : (args.set i (mL f A)).getD i nv = mL f A := by simp [List.getD_eq_getElem?_getD, hi]
  rw [e1, e2];exact lent_arg o hn
 ·have e2 : (args.set t (mL f A)).getD i nv = args.getD i nv := by
   rw [List.getD_eq_getElem?_getD, List.getElem?_set_ne (by omega), ← List.getD_eq_getElem?_getD]
  rw [e2]; exact val_arg _
theorem Owns.trans {H0 H H' base l : Heap} (h : Owns H0 H base) (k : Owns H H' l) : Owns H0 H' (l ++ base) := by
 refine ⟨h.sub.trans k.sub, fun x hx => ?_, ?_, fun x hx => ?_⟩
 ·rcases List.mem_append.mp hx with hx | hx
  ·exact k.get x hx
  ·exact k.sub _ _ (h.get x hx)
 ·rw [List.map_append, List.nodup_append];refine ⟨k.nd, h.nd, fun a ha b hb => ?_⟩
  obtain ⟨x, hx, rfl⟩ := List.mem_map.mp ha
  obtain ⟨y, hy, rfl⟩ := List.mem_map.mp hb
  intro e
  have h1 := k.out x hx
  have h2 := h.get y hy;rw [← e, h1] at h2; cases h2
 ·rcases List.mem_append.mp hx with hx | hx
  ·cases e : H0.get x.1 with
   | none => rfl
   | some o => have := h.sub _ _ e; rw [k.out x hx] at this; cases this
  ·exact h.out x hx
end Go.AW
namespace Go.AW
attribute [go_sem] Nat.mul_one Bool.not_true Bool.not_false
section
variable {α : Type} [Inhabited α] {f : α → AV} [One f] {H0 H : Heap} {l : List (Nat × MObj)} {K : Kont}
omit [Inhabited α] in
theorem mks_list {n : Nat} {z : AV} (f : α → AV) (a : α) (hz : z = f a) (h : Owns H0 H l) (hk : ∀ id H', Owns H0 H' ((id, .cells 1 ((List.replicate n a).map f) 0) :: l) → K (.buf id n) H') :
  newBuf n 1 (rep n [z]) K H := by
 rw [rep_one]; subst hz;refine newBuf_own h fun id H' o => hk id H' ?_;rw [List.map_replicate]; exact o
omit [One f] in
theorem rd_own {id off fr sz : Nat} {A : List α} (h : Owns H0 H ((id, .cells sz (A.map f) fr) :: l)) (ho : off < A.length) (hk : K (f (A.getD off default)) H) :
  rd1 (H.get id) none off K H := by
 have h0 := h.h0;simp only at h0;rw [h0, rd1_1];refine ⟨by simpa using ho, ?_⟩;rw [getD_map A ho]; exact hk
omit [Inhabited α] in
theorem set_own {id off : Nat} {A : List α} (a : α) {v : AV} (h : Owns H0 H ((id, .cells 1 (A.map f) 0) :: l)) (hv : v = f a) (ho : off < A.length)
  (hk : ∀ H', Owns H0 H' ((id, .cells 1 ((A.set off a).map f) 0) :: l) → K nv H') : st1 (H.get id) id off 1 [v] K H := by
 subst hv
 have h0 := h.h0;simp only at h0;rw [h0, st1_c];refine ⟨⟨by omega, by rw [List.length_map]; omega, rfl, fun c hc => ?_⟩, ?_⟩
 ·rw [List.mem_singleton] at hc; subst hc; exact One.one a
 ·have e : wr (A.map f) off [f a] = (A.set off a).map f := by
   simp only [wr, List.map_set]
  rw [e];exact hk _ (h.put _)
end
theorem filt_t {α : Type} [Inhabited α] {p : α → Bool} {l : List α} {k : Nat} (h : k < l.length) (hp : p (l.getD k default) = true) : (l.take (k + 1)).filter p = (l.take k).filter p ++ [l.getD k default] := by
 rw [take_succ' l h, List.filter_append]; simp only [List.filter_cons, hp, if_true, List.filter_nil]
theorem filt_f {α : Type} [Inhabited α] {p : α → Bool} {l : List α} {k : Nat} (h : k < l.length) (hp : p (l.getD k default) = false) : (l.take (k + 1)).filter p = (l.take k).filter p := by
 rw [take_succ' l h, List.filter_append]; simp only [List.filter_cons, hp, Bool.false_eq_true, if_false, List.filter_nil, List.append_nil]
theorem filt_len {α : Type} (p : α → Bool) (l : List α) (k : Nat) : ((l.take k).filter p).length ≤ k := Nat.le_trans (List.length_filter_le _ _) (by rw [List.length_take]; omega)
theorem Wk.call {P : Program} {B : Nat} {fn : FuncId} {args args' : List AV} {H H' : Heap} {K : Kont} (hl : args'.length = args.length)
  (hw : ∀ g w vs, WRel g B H w → VRels g args vs → ∃ g', g.le g' ∧ WRel g' B H' w ∧ VRels g' args' vs) (h : CallH P B fn args' H' K) : CallH P B fn args H K := by
 refine ⟨h.1, fun g w vs hW hv => ?_⟩
 obtain ⟨g', q1, q2, q3⟩ := hw g w vs hW hv;exact (h.2 g' w vs q2 q3).mono fun e w' ⟨v, he, g2, r, H2, a, b⟩ => ⟨v, he, g2, r, H2, q1.trans a, b⟩
theorem call_fz {α : Type} [Inhabited α] {f : α → AV} [One f] {P : Program} {B : Nat} {fn : FuncId} {args : List AV} {H0 H : Heap} {l : List (Nat × MObj)} {K : Kont} {id n fr : Nat} {A : List α} (t : Nat)
  (ha : args[t]? = some (.buf id n)) (o : Owns H0 H ((id, .cells 1 (A.map f) fr) :: l)) (hn : n = A.length)
  (hk : ∀ H', Owns H0 H' l → CallH P B fn (args.set t (mL f A)) H' K) : CallH P B fn args H K := by
 subst hn
 have h0 := o.h0;simp only at h0
 have ht : t < args.length := by
  rcases Nat.lt_or_ge t args.length with h | h
  ·exact h
  ·rw [List.getElem?_eq_none h] at ha; cases ha
 have hone : ∀ c, c ∈ A.map f → c.one = true := by
  intro c hc; obtain ⟨a, _, rfl⟩ := List.mem_map.mp hc; exact One.one a
 refine Wk.call (by simp) (fun g w vs hW hv => ?_) (hk _ (o.put (.cells 1 (A.map f) (A.map f).length)).tl)
 obtain ⟨σ', H', hwk, rfl, rfl⟩ := fz_wk (t := t) (σ := [(t, some (.buf id A.length))]) (H := H) (F := fun σ' H' => σ' = Env.put [(t, some (.buf id A.length))] t (.sl (A.map f)) ∧ H' = H.set id (.cells 1 (A.map f) (A.map f).length)) (by
  have : Env.get [(t, some (AV.buf id A.length))] t = some (.buf id A.length) := by simp [Env.get]
  rw [this];simp only [fzW, h0, fz1];refine ⟨⟨by simp, by omega, hone⟩, ?_, trivial⟩;rw [chunk_one _ _ (by simp)])
 obtain ⟨g', q1, q2, q3⟩ := hwk g B w vs hW (fun s v e => by
  simp only [Env.get] at e
  split at e
  ·rename_i e2; subst e2; cases e
   have := hv.2 s ht;rw [List.getD_eq_getElem?_getD, ha] at this;exact ⟨by rw [hv.1]; exact ht, this⟩
  ·cases e)
 refine ⟨g', q1, q2, by rw [hv.1]; simp, fun i hi => ?_⟩;rw [List.length_set] at hi
 by_cases e : i = t
 ·subst e
  have := (q3 i (.sl (A.map f)) (by simp [Env.put, Env.get])).2
  have e2 : (args.set i (mL f A)).getD i nv = .sl (A.map f) := by simp [List.getD_eq_getElem?_getD, hi, mL]
  rw [e2]; exact this
 ·have e2 : (args.set t (mL f A)).getD i nv = args.getD i nv := by
   rw [List.getD_eq_getElem?_getD, List.getElem?_set_ne (by omega), ← List.getD_eq_getElem?_getD]
  rw [e2]; exact (hv.2 i hi).mono q1
end Go.AW
