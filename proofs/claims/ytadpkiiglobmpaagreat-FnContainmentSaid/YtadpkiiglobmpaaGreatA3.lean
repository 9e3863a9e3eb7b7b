/- Plain data, plain laws. -/
import Derived.Test.YtadpkiiglobmpaaGreatA2
set_option linter.unusedVariables false
set_option linter.unusedSimpArgs false
set_option linter.unusedSectionVars false
namespace Go.AW
class One {α : Type} (f : α → AV) : Prop where
 cells : ∀ a, (f a).cells = [f a]
 one : ∀ a, (f a).one = true
def mL {α : Type} (f : α → AV) (l : List α) : AV := .sl (l.map f)
abbrev iI : Int → AV := AV.int .i64
abbrev iL : List Int → AV := mL iI
abbrev iLL : List (List Int) → AV := mL iL
abbrev iLLL : List (List (List Int)) → AV := mL iLL
instance : One iI := ⟨fun _ => rfl, fun _ => rfl⟩
instance : One AV.bool := ⟨fun _ => rfl, fun _ => rfl⟩
instance : One AV.str := ⟨fun _ => rfl, fun _ => rfl⟩
instance {α : Type} (f : α → AV) : One (mL f) := ⟨fun _ => rfl, fun _ => rfl⟩
def ix {α : Type} [Inhabited α] (l : List α) (i : Int) : α := l.getD i.toNat default
theorem ix_nat {α : Type} [Inhabited α] (l : List α) (k : Nat) : ix l (k : Int) = l.getD k default := by simp [ix]
section
variable {P : Program} {B : Nat} {F : Env → Heap → Prop} {σ : Env} {H : Heap} {d : Option Nat} {α : Type} [Inhabited α] {f : α → AV}
theorem getD_map (l : List α) {i : Nat} (h : i < l.length) : (l.map f).getD i nv = f (l.getD i default) := by
 simp [List.getD_eq_getElem?_getD, h]
theorem one_cells [One f] (a : α) : (f a).cells = [f a] := One.cells a
@[go_sem] theorem cells_mL (l : List α) : (mL f l).cells = [mL f l] := rfl
@[go_sem] theorem lenE_mL (l : List α) : lenE (some (mL f l)) = some (True, .int .i64 l.length) := by simp [mL, lenE]
@[go_sem] theorem idxE_mL [One f] (l : List α) (k : IntKind) (i : Int) :
  pE d F σ H (idxE 1 (some (mL f l)) (some (.int k i))) = ((0 ≤ i ∧ i.toNat < l.length) ∧ putK d F σ (.ptr [f (ix l i)]) H) := by
 simp only [mL, idxE, pE, pW, List.length_map, eq_iff_iff]
 constructor
 ·rintro ⟨⟨h1, h2, h3⟩, h4⟩
  rw [getD_map l h2, one_cells] at h4
  exact ⟨⟨h1, h2⟩, h4⟩
 ·rintro ⟨⟨h1, h2⟩, h4⟩
  rw [getD_map l h2, one_cells]
  exact ⟨⟨h1, h2, rfl⟩, h4⟩
theorem flat_map [One f] (l : List α) : flat (l.map f) = l.map f := by
 induction l with
 | nil => rfl
 | cons a r ih => simp [flat, one_cells, ih]
theorem okEls_map [One f] (l : List α) : okEls 1 (l.map f) := by
 intro e he
 obtain ⟨a, _, rfl⟩ := List.mem_map.mp he
 rw [one_cells]
 refine ⟨rfl, fun c hc => ?_⟩
 rw [List.mem_singleton] at hc; subst hc; exact One.one a
@[go_sem] theorem srcOf_mL [One f] (l : List α) : srcOf 1 (some (mL f l)) H = some (True, l.length, l.map f) := by
 simp [mL, srcOf, okEls_map, flat_map]
@[go_sem] theorem slcE_lo [One f] (l : List α) (k : IntKind) (a : Int) : slcE 1 (some (mL f l)) (some (some (.int k a))) none = some (0 ≤ a ∧ a ≤ l.length, mL f (l.drop a.toNat)) := by
 have : List.take l.length (l.map f) = l.map f := List.take_of_length_le (by simp)
 simp [mL, slcE, slcB, slcL, okEls_map, this]
@[go_sem] theorem slcE_hi [One f] (l : List α) (k : IntKind) (b : Int) : slcE 1 (some (mL f l)) none (some (some (.int k b))) = some (0 ≤ b ∧ b ≤ l.length, mL f (l.take b.toNat)) := by
 simp [mL, slcE, slcB, slcL, okEls_map, ← List.map_take]
@[go_sem] theorem slcE_both [One f] (l : List α) (k k' : IntKind) (a b : Int) : slcE 1 (some (mL f l)) (some (some (.int k a))) (some (some (.int k' b))) = some (0 ≤ a ∧ a ≤ b ∧ b ≤ l.length, mL f ((l.take b.toNat).drop a.toNat)) := by
 simp [mL, slcE, slcB, slcL, okEls_map, ← List.map_take, ← List.map_drop]
@[go_sem] theorem okEls_nil (n : Nat) : okEls n [] = True := by simp [okEls]
@[go_sem] theorem okEls_cons (n : Nat) (a : AV) (r : List AV) : okEls n (a :: r) = ((a.cells.length = n ∧ ∀ c, c ∈ a.cells → c.one = true) ∧ okEls n r) := by
 simp [okEls]
theorem okEls_one [One f] (a : α) : okEls 1 [f a] := by
 intro e he
 rw [List.mem_singleton] at he; subst he
 rw [one_cells]
 refine ⟨rfl, fun c hc => ?_⟩
 rw [List.mem_singleton] at hc; subst hc; exact One.one a
theorem fine_mL_le {l : List α} (h : AV.fine (mL f l)) : l.length ≤ maxL := by simpa using h.sl_le
theorem ix_mem {l : List α} {i : Int} (h : i.toNat < l.length) : ix l i ∈ l := by
 rw [ix, List.getD_eq_getElem?_getD]; simp [h]
theorem take_succ' (l : List α) {k : Nat} (h : k < l.length) : l.take (k + 1) = l.take k ++ [l.getD k default] := by
 rw [List.take_add_one]; simp [List.getD_eq_getElem?_getD, h]
end
@[go_sem] theorem and_true_r (p : Prop) : (p ∧ True) = p := and_true p
@[go_sem] theorem true_and_r (p : Prop) : (True ∧ p) = p := true_and p
@[go_sem] theorem zle (n : Nat) : (0 ≤ n) = True := by simp
@[go_sem] theorem le_maxL1 : (1 ≤ maxL) = True := by simp [maxL]
@[go_sem] theorem le_maxL2 : (2 ≤ maxL) = True := by simp [maxL]
@[go_sem] theorem one_int (k : IntKind) (n : Int) : (AV.int k n).one = true := rfl
@[go_sem] theorem one_mL {α : Type} (f : α → AV) (l : List α) : (mL f l).one = true := rfl
@[go_sem] theorem one_bool (b : Bool) : (AV.bool b).one = true := rfl
@[go_sem] theorem one_str (b : List UInt8) : (AV.str b).one = true := rfl
@[go_sem] theorem one_sl (b : List AV) : (AV.sl b).one = true := rfl
@[go_sem] theorem one_buf (i n : Nat) : (AV.buf i n).one = true := rfl
@[go_sem] theorem one_ptr (b : List AV) : (AV.ptr b).one = true := rfl
@[go_sem] theorem memnil (p : AV → Prop) : (∀ c, c ∈ ([] : List AV) → p c) = True := by simp
@[go_sem] theorem memcons (p : AV → Prop) (a : AV) (r : List AV) : (∀ c, c ∈ a :: r → p c) = (p a ∧ ∀ c, c ∈ r → p c) := by simp
@[go_sem] theorem len1 (a : AV) : [a].length = 1 := rfl
@[go_sem] theorem len0 : ([] : List AV).length = 0 := rfl
theorem awp_for {P : Program} {B : Nat} {l : List Nat} {c : SC} {Q : AQ} {σ : Env} {H : Heap} (lf : List Nat) {G : Type} (E : Nat → G → Env) (J : Nat → G → Heap → Prop) (n : Nat) (g : G)
  (h0 : J 0 g H) (he : Env.keep l σ = E 0 g ++ Env.keep lf σ)
  (h : ∀ k g H, k ≤ n → J k g H → awp P B c (lpQ l (fun m σ' H => ∃ k g, k ≤ n ∧ m = n - k ∧ J k g H ∧ σ' = E k g ++ Env.keep lf σ) (n - k) Q) (E k g ++ Env.keep lf σ) H) :
  awp P B (.loop l c) Q σ H :=
 awp_loop (fun m σ' H => ∃ k g, k ≤ n ∧ m = n - k ∧ J k g H ∧ σ' = E k g ++ Env.keep lf σ) n ⟨0, g, by omega, rfl, h0, he⟩
  fun m σ H ⟨k, g, h1, h2, h3, h4⟩ => h2 ▸ h4 ▸ h k g H h1 h3
theorem for_next {G : Type} {S : Nat → G → Env} {J : Nat → G → Heap → Prop} {n k : Nat} {σ : Env} {H : Heap} (g : G) (h : k < n) (hj : J (k + 1) g H) (he : σ = S (k + 1) g) :
  ∃ m σ' H', m < n - k ∧ (∃ k g, k ≤ n ∧ m = n - k ∧ J k g H' ∧ σ' = S k g) ∧ Wk σ H σ' H' :=
 ⟨n - (k + 1), σ, H, by omega, ⟨k + 1, g, h, rfl, hj, he⟩, .refl _ _⟩
theorem awp_while {P : Program} {B : Nat} {l : List Nat} {c : SC} {Q : AQ} {σ : Env} {H : Heap} (lf : List Nat) {G : Type} (E : G → Env) (J : Nat → G → Heap → Prop) (n : Nat) (g : G)
  (h0 : J n g H) (he : Env.keep l σ = E g ++ Env.keep lf σ)
  (h : ∀ m g H, J m g H → awp P B c (lpQ l (fun m σ' H => ∃ g, J m g H ∧ σ' = E g ++ Env.keep lf σ) m Q) (E g ++ Env.keep lf σ) H) :
  awp P B (.loop l c) Q σ H :=
 awp_loop (fun m σ' H => ∃ g, J m g H ∧ σ' = E g ++ Env.keep lf σ) n ⟨g, h0, he⟩
  fun m σ H ⟨g, h3, h4⟩ => h4 ▸ h m g H h3
theorem while_next {G : Type} {S : G → Env} {J : Nat → G → Heap → Prop} {m : Nat} {σ : Env} {H : Heap} (m' : Nat) (g : G) (h : m' < m) (hj : J m' g H) (he : σ = S g) :
  ∃ m' σ' H', m' < m ∧ (∃ g, J m' g H' ∧ σ' = S g) ∧ Wk σ H σ' H' :=
 ⟨m', σ, H, h, ⟨g, hj, he⟩, .refl _ _⟩
@[go_sem] theorem env_app_cons (a : Nat × Option AV) (l r : Env) : (a :: l) ++ r = a :: (l ++ r) := rfl
@[go_sem] theorem env_app_nil (r : Env) : ([] : Env) ++ r = r := rfl
structure Owns (H0 H : Heap) (l : List (Nat × MObj)) : Prop where
 sub : H0.sub H
 get : ∀ x, x ∈ l → H.get x.1 = some x.2
 nd : (l.map Prod.fst).Nodup
 out : ∀ x, x ∈ l → H0.get x.1 = none
theorem Owns.nil (H : Heap) : Owns H H [] := ⟨.refl H, by simp, by simp, by simp⟩
theorem Owns.h0 {H0 H : Heap} {a : Nat × MObj} {l : List (Nat × MObj)} (h : Owns H0 H (a :: l)) : H.get a.1 = some a.2 := h.get a (by simp)
theorem Owns.tl {H0 H : Heap} {a : Nat × MObj} {l : List (Nat × MObj)} (h : Owns H0 H (a :: l)) : Owns H0 H l :=
 ⟨h.sub, fun x hx => h.get x (by simp [hx]), (by simpa using h.nd : _ ∧ _).2, fun x hx => h.out x (by simp [hx])⟩
theorem Owns.perm {H0 H : Heap} {l r : List (Nat × MObj)} (h : Owns H0 H l) (hp : l.Perm r) : Owns H0 H r :=
 ⟨h.sub, fun x hx => h.get x (hp.mem_iff.mpr hx), ((hp.map _).nodup_iff.mp h.nd), fun x hx => h.out x (hp.mem_iff.mpr hx)⟩
theorem Owns.swap {H0 H : Heap} {a b : Nat × MObj} {l : List (Nat × MObj)} (h : Owns H0 H (a :: b :: l)) : Owns H0 H (b :: a :: l) := h.perm (List.Perm.swap b a l)
theorem Owns.new {H0 H : Heap} {l : List (Nat × MObj)} (h : Owns H0 H l) {id : Nat} (hn : H.get id = none) (o : MObj) : Owns H0 (H.set id o) ((id, o) :: l) := by
 refine ⟨fun i x hx => ?_, fun x hx => ?_, ?_, fun x hx => ?_⟩
 ·have := h.sub i x hx
  rw [Heap.get_set_ne]; exact this
  rintro rfl; rw [hn] at this; cases this
 ·simp only [List.mem_cons] at hx
  rcases hx with rfl | hx
  ·simp
  ·rw [Heap.get_set_ne]; exact h.get x hx
   intro e; have := h.get x hx; rw [e, hn] at this; cases this
 ·simp only [List.map_cons, List.nodup_cons]
  refine ⟨fun hm => ?_, h.nd⟩
  obtain ⟨x, hx, e⟩ := List.mem_map.mp hm
  have := h.get x hx; rw [e, hn] at this; cases this
 ·simp only [List.mem_cons] at hx
  rcases hx with rfl | hx
  ·cases hh : H0.get id with
   | none => rfl
   | some o' => have := h.sub _ _ hh; rw [hn] at this; cases this
  ·exact h.out x hx
theorem Owns.put {H0 H : Heap} {l : List (Nat × MObj)} {id : Nat} {o : MObj} (h : Owns H0 H ((id, o) :: l)) (o' : MObj) : Owns H0 (H.set id o') ((id, o') :: l) := by
 have hnd := h.nd
 simp only [List.map_cons, List.nodup_cons] at hnd
 have hne : ∀ x, x ∈ l → x.1 ≠ id := fun x hx e => hnd.1 (e ▸ List.mem_map_of_mem hx)
 have ho := h.out (id, o) (by simp)
 refine ⟨fun i x hx => ?_, fun x hx => ?_, by simpa using hnd, fun x hx => ?_⟩
 ·rw [Heap.get_set_ne]; exact h.sub i x hx
  rintro rfl; simp only at ho; rw [ho] at hx; cases hx
 ·simp only [List.mem_cons] at hx
  rcases hx with rfl | hx
  ·simp
  ·rw [Heap.get_set_ne _ _ (hne x hx)]; exact h.get x (by simp [hx])
 ·simp only [List.mem_cons] at hx
  rcases hx with rfl | hx
  ·exact ho
  ·exact h.out x (by simp [hx])
theorem Owns.mv {H0 H : Heap} {l : List (Nat × MObj)} {id id' : Nat} {o : MObj} (h : Owns H0 H ((id, o) :: l)) (hn : H.get id' = none) (o' : MObj) : Owns H0 ((H.del id).set id' o') ((id', o') :: l) := by
 have hnd := h.nd
 simp only [List.map_cons, List.nodup_cons] at hnd
 have hne : ∀ x, x ∈ l → x.1 ≠ id := fun x hx e => hnd.1 (e ▸ List.mem_map_of_mem hx)
 have ho := h.out (id, o) (by simp)
 have hd : Owns H0 (H.del id) l := by
  refine ⟨fun i x hx => ?_, fun x hx => ?_, hnd.2, fun x hx => h.out x (by simp [hx])⟩
  ·rw [Heap.get_del_ne]; exact h.sub i x hx
   rintro rfl; simp only at ho; rw [ho] at hx; cases hx
  ·rw [Heap.get_del_ne _ (hne x hx)]; exact h.get x (by simp [hx])
 refine hd.new ?_ o'
 by_cases e : id' = id
 ·subst e; exact Heap.get_del_same _ _
 ·rw [Heap.get_del_ne _ e]; exact hn
section
variable {α : Type} [Inhabited α] {f : α → AV} [One f] {H0 H : Heap} {l : List (Nat × MObj)} {K : Kont}
theorem newBuf_own {n sz : Nat} {cs : List AV} (h : Owns H0 H l) (hk : ∀ id H', Owns H0 H' ((id, .cells sz cs 0) :: l) → K (.buf id n) H') : newBuf n sz cs K H :=
 fun id hn => hk id _ (h.new hn _)
theorem newRef_own {sz : Nat} {cs : List AV} (h : Owns H0 H l) (hk : ∀ id H', Owns H0 H' ((id, .cells sz cs 0) :: l) → K (.ref id 0) H') : newRef sz cs K H :=
 fun id hn => hk id _ (h.new hn _)
theorem newMap_own (h : Owns H0 H l) (hk : ∀ id H', Owns H0 H' ((id, .map [] []) :: l) → K (.mref id) H') : newMap K H :=
 fun id hn => hk id _ (h.new hn _)
omit [Inhabited α] in
/-- An empty list of ours. -/
theorem new_list (f : α → AV) (h : Owns H0 H l) (hk : ∀ id H', Owns H0 H' ((id, .cells 1 (([] : List α).map f) 0) :: l) → K (.buf id ([] : List α).length) H') : newBuf 0 1 [] K H :=
 newBuf_own h hk
theorem app_own {id fr n : Nat} {out : List α} (a : α) {v : AV} (h : Owns H0 H ((id, .cells 1 (out.map f) fr) :: l)) (hv : v = f a) (hn : n = out.length) (hm : out.length + 1 ≤ maxL)
  (hk : ∀ id' H', Owns H0 H' ((id', .cells 1 ((out ++ [a]).map f) fr) :: l) → K (.buf id' (out ++ [a]).length) H') :
  appW 1 (some (.buf id n)) (some (.sl [v])) K H := by
 subst hv hn
 have h0 := h.h0
 simp only at h0
 simp only [appW, h0, srcOf, app2]
 refine ⟨⟨trivial, by simp, by simpa using hm, by simpa using hm, okEls_one a⟩, fun id' hn => ?_⟩
 have := h.mv hn (.cells 1 ((out ++ [a]).map f) fr)
 have e : out.map f ++ flat [f a] = (out ++ [a]).map f := by simp [flat, one_cells]
 rw [e]
 have := hk id' _ this
 simpa using this
theorem app_list {id fr n : Nat} {out r : List α} (h : Owns H0 H ((id, .cells 1 (out.map f) fr) :: l)) (hn : n = out.length) (hm : out.length + r.length ≤ maxL)
  (hk : ∀ id' H', Owns H0 H' ((id', .cells 1 ((out ++ r).map f) fr) :: l) → K (.buf id' (out ++ r).length) H') :
  appW 1 (some (.buf id n)) (some (mL f r)) K H := by
 subst hn
 have h0 := h.h0
 simp only at h0
 simp only [appW, h0, app2, srcOf_mL]
 refine ⟨⟨trivial, by simp, hm, by simpa using hm⟩, fun id' hn => ?_⟩
 have := h.mv hn (.cells 1 ((out ++ r).map f) fr)
 have e : out.map f ++ r.map f = (out ++ r).map f := by simp
 rw [e]
 have := hk id' _ this
 simpa using this
theorem nil_own (a : α) {v : AV} (h : Owns H0 H l) (hv : v = f a)
  (hk : ∀ id' H', Owns H0 H' ((id', .cells 1 ([a].map f) 0) :: l) → K (.buf id' [a].length) H') :
  appW 1 (some .nilsl) (some (.sl [v])) K H := by
 subst hv
 simp only [appW, srcOf, app1]
 refine ⟨⟨by simp [maxL], by simp [maxL], okEls_one a⟩, fun id hn => ?_⟩
 have := hk id _ (h.new hn (.cells 1 ([a].map f) 0))
 simpa [flat, one_cells] using this
end
section
variable {α : Type} {f : α → AV} [One f] {H0 H : Heap} {l : List (Nat × MObj)}
theorem fz_own {t id n fr : Nat} {out : List α} {F : Env → Heap → Prop} {σ : Env} (h : Owns H0 H ((id, .cells 1 (out.map f) fr) :: l)) (hn : n = out.length)
  (hk : ∀ H', Owns H0 H' l → F ((t, some (mL f out)) :: σ) H') : fz1 t id n F σ H (H.get id) := by
 subst hn
 have h0 := h.h0
 simp only at h0
 rw [h0, fz1_one]
 refine ⟨⟨by simp, fun c hc => ?_⟩, hk _ (h.put _).tl⟩
 obtain ⟨a, _, rfl⟩ := List.mem_map.mp hc
 exact One.one a
end
theorem wsucc {k : Nat} (h : k < 1125899906842624) : IntKind.i64.wrap ((k : Int) + 1) = ((k + 1 : Nat) : Int) := by
 rw [wrap_i64 (by omega) (by omega)]; omega
theorem of_decide {p : Prop} [Decidable p] (h : decide p = true) : p := by simpa using h
theorem of_ndecide {p : Prop} [Decidable p] (h : decide p = false) : ¬ p := by simpa using h
end Go.AW
namespace Go.AW
structure Pur (P : Program) (B : Nat) (f : FuncId) (args : List AV) (r : AV) : Prop where
 run : PureF P B f args r
theorem Pur.go {P : Program} {B : Nat} {f : FuncId} {args : List AV} {r : AV} {H : Heap} {K : Kont} (h : Pur P B f args r) (hk : r.fine → K r H) : CallH P B f args H K :=
 h.run.go hk
end Go.AW
namespace Go.AW
noncomputable def dec (p : Prop) : Bool := @decide p (Classical.propDecidable p)
theorem dec_t {p : Prop} (h : p) : dec p = true := by simp [dec, h]
theorem dec_f {p : Prop} (h : ¬ p) : dec p = false := by simp [dec, h]
theorem dec_iff {p : Prop} : dec p = true ↔ p := by simp [dec]
theorem dec_niff {p : Prop} : dec p = false ↔ ¬ p := by simp [dec]
theorem dec_congr {p q : Prop} (h : p ↔ q) : dec p = dec q := by rw [show p = q from propext h]
theorem decide_dec (p : Prop) [Decidable p] : decide p = dec p := by
 by_cases h : p
 ·rw [dec_t h]; simpa using h
 ·rw [dec_f h]; simpa using h
theorem lt_succ_all {k : Nat} {p : Nat → Prop} (h : ∀ i, i < k → p i) (hk : p k) : ∀ i, i < k + 1 → p i := fun i hi => by
 by_cases e : i = k
 ·subst e; exact hk
 ·exact h i (by omega)
theorem mem_getD {α : Type} [Inhabited α] {l : List α} {a : α} : a ∈ l ↔ ∃ i, i < l.length ∧ l.getD i default = a := by
 rw [List.mem_iff_getElem]
 constructor
 ·rintro ⟨i, h, e⟩; exact ⟨i, h, by simpa [List.getD_eq_getElem?_getD, h] using e⟩
 ·rintro ⟨i, h, e⟩; exact ⟨i, h, by simpa [List.getD_eq_getElem?_getD, h] using e⟩
theorem all_getD {α : Type} [Inhabited α] {l : List α} {p : α → Prop} : (∀ a, a ∈ l → p a) ↔ ∀ i, i < l.length → p (l.getD i default) := by
 constructor
 ·intro h i hi; exact h _ (mem_getD.mpr ⟨i, hi, rfl⟩)
 ·rintro h a ha; obtain ⟨i, hi, rfl⟩ := mem_getD.mp ha; exact h i hi
@[go_sem] theorem ix_nat' {α : Type} [Inhabited α] (l : List α) (k : Nat) : ix l (k : Int) = l.getD k default := ix_nat l k
@[go_sem] theorem toNat_nat (k : Nat) : ((k : Int)).toNat = k := Int.toNat_natCast k
@[go_sem] theorem nat_nonneg (k : Nat) : (0 ≤ (k : Int)) = True := by simp
@[go_sem] theorem lt_nat (a b : Nat) : decide ((a : Int) < (b : Int)) = decide (a < b) := by simp
theorem wpred {k : Nat} (h : 0 < k) (h' : k < 1125899906842624) : IntKind.i64.wrap ((k : Int) - 1) = ((k - 1 : Nat) : Int) := by
 rw [wrap_i64 (by omega) (by omega)]; omega
def indexOf {α : Type} [DecidableEq α] (l : List α) (n : α) : Int := match l.idxOf? n with
 | some i => i
 | none => -1
theorem indexOf_hit {α : Type} [DecidableEq α] [Inhabited α] {l : List α} {n : α} {k : Nat} (hk : k < l.length) (hall : ∀ i, i < k → l.getD i default ≠ n) (he : l.getD k default = n) : indexOf l n = k := by
 have : l.idxOf? n = some k := by
  rw [List.idxOf?_eq_some_iff]
  refine ⟨hk, by simpa [List.getD_eq_getElem?_getD, hk] using he, fun j hj => ?_⟩
  have := hall j hj
  simpa [List.getD_eq_getElem?_getD, show j < l.length by omega] using this
 simp [indexOf, this]
theorem indexOf_miss {α : Type} [DecidableEq α] [Inhabited α] {l : List α} {n : α} (hall : ∀ i, i < l.length → l.getD i default ≠ n) : indexOf l n = -1 := by
 have : l.idxOf? n = none := by
  rw [List.idxOf?_eq_none_iff]
  intro h; obtain ⟨i, hi, e⟩ := mem_getD.mp h; exact hall i hi e
 simp [indexOf, this]
end Go.AW
namespace Go.AW
theorem indexOf_bd {α : Type} [DecidableEq α] (l : List α) (n : α) : -1 ≤ indexOf l n ∧ indexOf l n < l.length := by
 unfold indexOf
 split
 ·rename_i i h
  rw [List.idxOf?_eq_some_iff] at h
  obtain ⟨hi, _⟩ := h
  omega
 ·omega
end Go.AW
namespace Go.AW
theorem bnt (b : Bool) : ((!b) = true) = (b = false) := by simp
theorem bnf (b : Bool) : ((!b) = false) = (b = true) := by simp
theorem dect (p : Prop) : (dec p = true) = p := propext dec_iff
theorem decf (p : Prop) : (dec p = false) = ¬ p := propext dec_niff
end Go.AW
namespace Go.AW
@[go_sem] theorem eq_nat (a b : Nat) : decide ((a : Int) = (b : Int)) = decide (a = b) := by simp [Int.ofNat_inj]
@[go_sem] theorem le_nat (a b : Nat) : decide ((a : Int) ≤ (b : Int)) = decide (a ≤ b) := by simp
def rc1 (n : Option Nat) (off : Nat) : Option MObj → Option AV
 | some (.cells _ cs _) => match n with
  | none => if off < cs.length then some (cs.getD off nv) else none
  | some n => if off + n ≤ cs.length then some (.agg ((cs.drop off).take n)) else none
 | _ => none
@[go_sem] theorem rcV_ref (n : Option Nat) (id off : Nat) (H : Heap) : rcV n (some (.ref id off)) H = rc1 n off (H.get id) := by
 unfold rcV rc1
 cases n <;> (dsimp only; split <;> simp_all)
@[go_sem] theorem rc1_1 (off sz f : Nat) (cs : List AV) : rc1 none off (some (.cells sz cs f)) = if off < cs.length then some (cs.getD off nv) else none := rfl
@[go_sem] theorem rc1_n (n off sz f : Nat) (cs : List AV) : rc1 (some n) off (some (.cells sz cs f)) = if off + n ≤ cs.length then some (.agg ((cs.drop off).take n)) else none := rfl
theorem drop_cons {α : Type} [Inhabited α] (l : List α) {k : Nat} (h : k < l.length) : l.drop k = l.getD k default :: l.drop (k + 1) := by
 rw [List.drop_eq_getElem_cons h]; simp [List.getD_eq_getElem?_getD, h]
attribute [go_sem] List.drop_succ_cons List.drop_zero List.take_succ_cons List.take_zero List.getD_cons_zero List.getD_cons_succ List.length_cons List.length_nil List.set_cons_succ List.set_cons_zero
end Go.AW
namespace Go.AW
theorem rep_one (z : AV) : ∀ n, rep n [z] = List.replicate n z
 | 0 => rfl
 | n + 1 => by simp [rep, rep_one z n, List.replicate_succ]
section
variable {α : Type} {f : α → AV} [One f] {H0 H : Heap} {l : List (Nat × MObj)} {K : Kont}
theorem mks_own {n : Nat} {z : AV} (f : α → AV) (h : Owns H0 H l) (hk : ∀ id H', Owns H0 H' ((id, .cells 1 (([] : List α).map f ++ List.replicate n z) 0) :: l) → K (.buf id n) H') :
  newBuf n 1 (rep n [z]) K H := by
 rw [rep_one]; exact newBuf_own h hk
theorem st_own {id off m : Nat} {z : AV} {A : List α} (a : α) {v : AV} (h : Owns H0 H ((id, .cells 1 (A.map f ++ List.replicate (m + 1) z) 0) :: l)) (hv : v = f a) (ho : off = A.length)
  (hk : ∀ H', Owns H0 H' ((id, .cells 1 ((A ++ [a]).map f ++ List.replicate m z) 0) :: l) → K nv H') :
  st1 (H.get id) id off 1 [v] K H := by
 subst hv ho
 have h0 := h.h0
 simp only at h0
 rw [h0, st1_c]
 refine ⟨⟨by omega, by simp, rfl, fun c hc => ?_⟩, ?_⟩
 ·rw [List.mem_singleton] at hc; subst hc; exact One.one a
 ·have e : wr (A.map f ++ List.replicate (m + 1) z) A.length [f a] = (A ++ [a]).map f ++ List.replicate m z := by
   simp only [wr, List.replicate_succ, List.map_append, List.map_cons, List.map_nil, List.append_assoc]
   rw [List.set_append_right _ _ (by simp)]
   simp
  rw [e]
  exact hk _ (h.put _)
theorem fz_made {t id n : Nat} {z : AV} {A : List α} {F : Env → Heap → Prop} {σ : Env} (h : Owns H0 H ((id, .cells 1 (A.map f ++ List.replicate 0 z) 0) :: l)) (hn : n = A.length)
  (hk : ∀ H', Owns H0 H' l → F ((t, some (mL f A)) :: σ) H') : fz1 t id n F σ H (H.get id) := by
 rw [List.replicate_zero, List.append_nil] at h
 exact fz_own h hn hk
end
theorem take_map_succ {α β : Type} [Inhabited α] (l : List α) (g : α → β) {k : Nat} (h : k < l.length) : (l.take (k + 1)).map g = (l.take k).map g ++ [g (l.getD k default)] := by
 rw [take_succ' l h]; simp
theorem range_succ_filter (p : Nat → Bool) (k : Nat) : (List.range (k + 1)).filter p = (List.range k).filter p ++ if p k then [k] else [] := by
 rw [List.range_succ, List.filter_append]; simp [List.filter_cons]
end Go.AW
namespace Go.AW
theorem sub_set {H0 H : Heap} {i : Nat} {o : MObj} (h : H0.sub H) (n : H0.get i = none) : H0.sub (H.set i o) := by
 intro j x hx
 rw [Heap.get_set_ne]
 ·exact h j x hx
 ·rintro rfl; rw [n] at hx; cases hx
attribute [go_sem] Heap.get_set_same
end Go.AW
namespace Go.AW
@[go_sem] theorem xor_tl (b : Bool) : (true ^^ b) = !b := by simp
@[go_sem] theorem xor_fl (b : Bool) : (false ^^ b) = b := by simp
@[go_sem] theorem and_dec (p q : Prop) [Decidable p] [Decidable q] : (decide p && decide q) = dec (p ∧ q) := by rw [← decide_dec]; simp
end Go.AW
namespace Go.AW
def faultK (P : Prop) (H0 : Heap) : Kont := fun r H' => H' = H0 ∧ ∃ k a b d : Int, r = .tup [.int .i64 k, .int .i64 a, .int .i64 b, .int .i64 d] ∧ (k = 0 ↔ P)
theorem fault_ret {P : Prop} {H0 H : Heap} {k a b d : Int} (h : k = 0 ↔ P) (hs : H0.sub H) : subW (faultK P H0) (.tup [.int .i64 k, .int .i64 a, .int .i64 b, .int .i64 d]) H :=
 ⟨H0, hs, rfl, k, a, b, d, rfl, h⟩
end Go.AW
namespace Go.Shf
open Go.AW
structure Cat where
 objs : Int
 frm : List Int
 to : List Int
 idn : List Int
 comp : List (List Int)
 deriving Inhabited
structure SF where
 shape : Cat
 sizes : List Int
 acts : List (List Int)
 deriving Inhabited
structure Top where
 shape : Cat
 covers : List (List (List Int))
 deriving Inhabited
structure SM where
 src : SF
 tgt : SF
 parts : List (List Int)
 deriving Inhabited
@[go_sem] def Cat.cells (c : Cat) : List AV := [iI c.objs, iL c.frm, iL c.to, iL c.idn, iLL c.comp]
@[go_sem] def SF.cells (f : SF) : List AV := [iI f.shape.objs, iL f.shape.frm, iL f.shape.to, iL f.shape.idn, iLL f.shape.comp, iL f.sizes, iLL f.acts]
@[go_sem] def Top.cells (j : Top) : List AV := [iI j.shape.objs, iL j.shape.frm, iL j.shape.to, iL j.shape.idn, iLL j.shape.comp, iLLL j.covers]
@[go_sem] def SM.cells (m : SM) : List AV := [iI m.src.shape.objs, iL m.src.shape.frm, iL m.src.shape.to, iL m.src.shape.idn, iLL m.src.shape.comp, iL m.src.sizes, iLL m.src.acts,
 iI m.tgt.shape.objs, iL m.tgt.shape.frm, iL m.tgt.shape.to, iL m.tgt.shape.idn, iLL m.tgt.shape.comp, iL m.tgt.sizes, iLL m.tgt.acts, iLL m.parts]
def cmp : List Int → List Int → Int
 | [], [] => 0
 | [], _ :: _ => -1
 | _ :: _, [] => 1
 | a :: r, b :: s => if a = b then cmp r s else if a < b then -1 else 1
theorem cmp_zero : ∀ {a b : List Int}, cmp a b = 0 ↔ a = b
 | [], [] => by simp [cmp]
 | [], _ :: _ => by simp [cmp]
 | _ :: _, [] => by simp [cmp]
 | a :: r, b :: s => by
  unfold cmp
  split
  ·rename_i h; rw [cmp_zero]; simp [h]
  ·rename_i h; split <;> simp [h]
theorem cmp_neg : ∀ (a b : List Int), cmp a b = - cmp b a
 | [], [] => by simp [cmp]
 | [], _ :: _ => by simp [cmp]
 | _ :: _, [] => by simp [cmp]
 | a :: r, b :: s => by
  unfold cmp
  by_cases h : a = b
  ·simp only [h, if_true]; exact cmp_neg r s
  ·have h3 : ¬ b = a := fun e => h e.symm
   simp only [h, h3, if_false]
   by_cases h2 : a < b
   ·have h4 : ¬ b < a := by omega
    simp [h2, h4]
   ·have h4 : b < a := by omega
    simp [h2, h4]
theorem cmp_trans : ∀ {a b c : List Int}, cmp a b < 0 → cmp b c < 0 → cmp a c < 0
 | [], [], _, h, _ => by simp [cmp] at h
 | [], _ :: _, [], _, h => by simp [cmp] at h
 | [], _ :: _, _ :: _, _, _ => by simp [cmp]
 | _ :: _, [], _, h, _ => by simp [cmp] at h
 | _ :: _, _ :: _, [], _, h => by simp [cmp] at h
 | a :: r, b :: s, c :: t, h, k => by
  unfold cmp at h k ⊢
  by_cases e1 : a = b
  ·by_cases e2 : b = c
   ·simp only [e1, e2, if_true] at h k ⊢; exact cmp_trans h k
   ·subst e1; rw [if_neg e2] at k ⊢; exact k
  ·by_cases e2 : b = c
   ·subst e2; rw [if_neg e1] at h ⊢; exact h
   ·rw [if_neg e1] at h; rw [if_neg e2] at k
    split at h <;> split at k <;> first | omega | (rw [if_neg (by omega), if_pos (by omega)]; decide)
def outs (c : Cat) (x : Int) : List Int := ((List.range c.frm.length).filter fun i => c.frm.getD i default = x).map Int.ofNat
end Go.Shf
namespace Go.Shf
open Go.AW
structure Cat.Shape (c : Cat) : Prop where
 o : 0 ≤ c.objs ∧ c.objs ≤ 8
 m : c.frm.length ≤ 40
 frm : ∀ y, y ∈ c.frm → 0 ≤ y ∧ y < c.objs
 tol : c.to.length = c.frm.length
 to : ∀ y, y ∈ c.to → 0 ≤ y ∧ y < c.objs
 cl : c.comp.length = c.frm.length
 il : (c.idn.length : Int) = c.objs
 idn : ∀ y, y ∈ c.idn → 0 ≤ y ∧ y < (c.frm.length : Int)
 ide : ∀ x : Nat, x < c.idn.length → ix c.frm (c.idn.getD x default) = x ∧ ix c.to (c.idn.getD x default) = x
 row : ∀ f : Nat, f < c.frm.length → (c.comp.getD f default).length = c.frm.length
 non : ∀ f g : Nat, f < c.frm.length → g < c.frm.length → c.to.getD f default ≠ c.frm.getD g default → (c.comp.getD f default).getD g default = -1
 yes : ∀ f g : Nat, f < c.frm.length → g < c.frm.length → c.to.getD f default = c.frm.getD g default →
  (0 ≤ (c.comp.getD f default).getD g default ∧ (c.comp.getD f default).getD g default < c.frm.length) ∧
  ix c.frm ((c.comp.getD f default).getD g default) = c.frm.getD f default ∧ ix c.to ((c.comp.getD f default).getD g default) = c.to.getD g default
structure Cat.Laws (c : Cat) : Prop where
 idl : ∀ f : Nat, f < c.frm.length → ix (ix c.comp (ix c.idn (c.frm.getD f default))) f = f ∧ ix (c.comp.getD f default) (ix c.idn (c.to.getD f default)) = f
 assoc : ∀ f g h : Nat, f < c.frm.length → g < c.frm.length → h < c.frm.length → c.to.getD f default = c.frm.getD g default → c.to.getD g default = c.frm.getD h default →
  ix (ix c.comp ((c.comp.getD f default).getD g default)) h = ix (c.comp.getD f default) ((c.comp.getD g default).getD h default)
def Cat.Is (c : Cat) : Prop := c.Shape ∧ c.Laws
end Go.Shf
namespace Go.Shf
open Go.AW
theorem Cat.Shape.frm' {c : Cat} (s : c.Shape) {f : Nat} (h : f < c.frm.length) : 0 ≤ c.frm.getD f default ∧ (c.frm.getD f default).toNat < c.idn.length := by
 have := s.frm _ (mem_getD.mpr ⟨f, h, rfl⟩); have := s.il; omega
theorem Cat.Shape.to' {c : Cat} (s : c.Shape) {f : Nat} (h : f < c.frm.length) : 0 ≤ c.to.getD f default ∧ (c.to.getD f default).toNat < c.idn.length := by
 have := s.to _ (mem_getD.mpr ⟨f, by have := s.tol; omega, rfl⟩); have := s.il; omega
theorem Cat.Shape.id' {c : Cat} (s : c.Shape) {x : Int} (h : x.toNat < c.idn.length) : 0 ≤ ix c.idn x ∧ (ix c.idn x).toNat < c.frm.length := by
 have := s.idn _ (ix_mem h); omega
theorem Cat.Shape.row' {c : Cat} (s : c.Shape) {a : Int} (h : a.toNat < c.frm.length) : (ix c.comp a).length = c.frm.length := s.row _ h
theorem Cat.Shape.pos {c : Cat} (s : c.Shape) {f g : Nat} (hf : f < c.frm.length) (hg : g < c.frm.length) : (0 ≤ (c.comp.getD f default).getD g default) ↔ c.to.getD f default = c.frm.getD g default := by
 constructor
 ·intro h; apply Classical.byContradiction; intro e; have := s.non f g hf hg e; omega
 ·intro e; exact (s.yes f g hf hg e).1.1
theorem Cat.Shape.lt {c : Cat} (s : c.Shape) {f g : Nat} (hf : f < c.frm.length) (hg : g < c.frm.length) : ((c.comp.getD f default).getD g default).toNat < c.frm.length := by
 by_cases e : c.to.getD f default = c.frm.getD g default
 ·have := (s.yes f g hf hg e).1; omega
 ·have := s.non f g hf hg e; omega
def Cat.IdAt (c : Cat) (f : Nat) : Prop := ix (ix c.comp (ix c.idn (c.frm.getD f default))) f = f ∧ ix (c.comp.getD f default) (ix c.idn (c.to.getD f default)) = f
def Cat.AssocAt (c : Cat) (f g h : Nat) : Prop := c.to.getD f default = c.frm.getD g default → c.to.getD g default = c.frm.getD h default →
  ix (ix c.comp ((c.comp.getD f default).getD g default)) h = ix (c.comp.getD f default) ((c.comp.getD g default).getD h default)
end Go.Shf
namespace Go.Shf
open Go.AW
theorem mem_outs {c : Cat} {x y : Int} : y ∈ outs c x ↔ 0 ≤ y ∧ y.toNat < c.frm.length ∧ ix c.frm y = x := by
 simp only [outs, List.mem_map, List.mem_filter, List.mem_range, decide_eq_true_eq]
 constructor
 ·rintro ⟨b, ⟨h1, h2⟩, rfl⟩; exact ⟨Int.natCast_nonneg b, by simpa using h1, by simpa [ix] using h2⟩
 ·rintro ⟨h1, h2, h3⟩; exact ⟨y.toNat, ⟨h2, h3⟩, Int.toNat_of_nonneg h1⟩
end Go.Shf
namespace Go.Shf
open Go.AW
end Go.Shf
namespace Go.Shf
open Go.AW
structure SF.Shape (f : SF) : Prop where
 is : f.shape.Is
 sl : (f.sizes.length : Int) = f.shape.objs
 al : f.acts.length = f.shape.frm.length
 sz : ∀ y, y ∈ f.sizes → 0 ≤ y ∧ y < 17
 act : ∀ a : Nat, a < f.acts.length → ((f.acts.getD a default).length : Int) = ix f.sizes (f.shape.frm.getD a default) ∧
  ∀ y, y ∈ f.acts.getD a default → 0 ≤ y ∧ y < ix f.sizes (f.shape.to.getD a default)
end Go.Shf
namespace Go.Shf
open Go.AW
structure SF.Laws (f : SF) : Prop where
 idl : ∀ x : Nat, x < f.shape.idn.length → ∀ e : Nat, e < (ix f.acts (f.shape.idn.getD x default)).length → (ix f.acts (f.shape.idn.getD x default)).getD e default = e
 comp : ∀ a b : Nat, a < f.shape.frm.length → b < f.shape.frm.length → f.shape.to.getD a default = f.shape.frm.getD b default → ∀ e : Nat, e < (f.acts.getD a default).length →
  (ix f.acts ((f.shape.comp.getD a default).getD b default)).getD e default = ix (f.acts.getD b default) ((f.acts.getD a default).getD e default)
def SF.CompAt (f : SF) (a b : Nat) : Prop := f.shape.to.getD a default = f.shape.frm.getD b default → ∀ e : Nat, e < (f.acts.getD a default).length →
  (ix f.acts ((f.shape.comp.getD a default).getD b default)).getD e default = ix (f.acts.getD b default) ((f.acts.getD a default).getD e default)
def SF.Is (f : SF) : Prop := f.Shape ∧ f.Laws
theorem SF.Shape.actLen {f : SF} (s : f.Shape) {a : Int} (h : a.toNat < f.shape.frm.length) : ((ix f.acts a).length : Int) = ix f.sizes (ix f.shape.frm a) := (s.act a.toNat (by rw [s.al]; exact h)).1
theorem SF.Shape.idLen {f : SF} (s : f.Shape) {x : Nat} (h : x < f.shape.idn.length) : ((ix f.acts (f.shape.idn.getD x default)).length : Int) = f.sizes.getD x default := by
 have h1 := s.is.1.idn _ (mem_getD.mpr ⟨x, h, rfl⟩)
 rw [s.actLen (by omega), (s.is.1.ide x h).1, ix_nat]
end Go.Shf
namespace Go.Shf
open Go.AW
def nats (p : Nat → Bool) (n : Nat) : List Int := ((List.range n).filter p).map Int.ofNat
theorem mem_nats {p : Nat → Bool} {n : Nat} {y : Int} : y ∈ nats p n ↔ 0 ≤ y ∧ y.toNat < n ∧ p y.toNat = true := by
 simp only [nats, List.mem_map, List.mem_filter, List.mem_range]
 constructor
 ·rintro ⟨b, ⟨h1, h2⟩, rfl⟩; exact ⟨Int.natCast_nonneg b, by simpa using h1, by simpa using h2⟩
 ·rintro ⟨h1, h2, h3⟩; exact ⟨y.toNat, ⟨h2, h3⟩, Int.toNat_of_nonneg h1⟩
theorem nats_succ (p : Nat → Bool) (n : Nat) : nats p (n + 1) = nats p n ++ if p n then [(n : Int)] else [] := by
 rw [nats, range_succ_filter, List.map_append]; congr 1; split <;> rfl
theorem nats_t {p : Nat → Bool} {n : Nat} (h : p n = true) : nats p (n + 1) = nats p n ++ [(n : Int)] := by rw [nats_succ, if_pos h]
theorem nats_f {p : Nat → Bool} {n : Nat} (h : p n = false) : nats p (n + 1) = nats p n := by rw [nats_succ, if_neg (by simp [h]), List.append_nil]
@[simp] theorem nats_0 (p : Nat → Bool) : nats p 0 = [] := rfl
theorem nats_len (p : Nat → Bool) (n : Nat) : (nats p n).length ≤ n := by
 rw [nats, List.length_map]; exact Nat.le_trans (List.length_filter_le _ _) (by simp)
def pullP (c : Cat) (a : Int) (s : List Int) (b : Nat) : Bool := decide (ix c.to a = c.frm.getD b default) && decide ((ix c.comp a).getD b default ∈ s)
def pullS (c : Cat) (a : Int) (s : List Int) : List Int := nats (pullP c a s) c.frm.length
section
variable {c : Cat}
theorem Cat.Shape.comp (s : c.Shape) {a b : Int} (ha : 0 ≤ a ∧ a.toNat < c.frm.length) (hb : 0 ≤ b ∧ b.toNat < c.frm.length) (e : ix c.to a = ix c.frm b) :
  (0 ≤ ix (ix c.comp a) b ∧ (ix (ix c.comp a) b).toNat < c.frm.length) ∧ ix c.frm (ix (ix c.comp a) b) = ix c.frm a ∧ ix c.to (ix (ix c.comp a) b) = ix c.to b := by
 have := s.yes a.toNat b.toNat ha.2 hb.2 e
 refine ⟨⟨this.1.1, ?_⟩, this.2⟩
 have := this.1; simp only [ix]; omega
theorem Cat.Is.assoc (h : c.Is) {f g k : Int} (hf : 0 ≤ f ∧ f.toNat < c.frm.length) (hg : 0 ≤ g ∧ g.toNat < c.frm.length) (hk : 0 ≤ k ∧ k.toNat < c.frm.length)
  (e1 : ix c.to f = ix c.frm g) (e2 : ix c.to g = ix c.frm k) : ix (ix c.comp (ix (ix c.comp f) g)) k = ix (ix c.comp f) (ix (ix c.comp g) k) := by
 have := h.2.assoc f.toNat g.toNat k.toNat hf.2 hg.2 hk.2 e1 e2
 simpa only [ix, Int.toNat_natCast] using this
theorem Cat.Shape.toObj (s : c.Shape) {f : Int} (hf : f.toNat < c.frm.length) : 0 ≤ ix c.to f ∧ ix c.to f < c.objs := s.to _ (ix_mem (by rw [s.tol]; exact hf))
theorem Cat.Shape.frmObj (s : c.Shape) {f : Int} (hf : f.toNat < c.frm.length) : 0 ≤ ix c.frm f ∧ ix c.frm f < c.objs := s.frm _ (ix_mem hf)
theorem Cat.Shape.idArr (s : c.Shape) {x : Int} (hx : 0 ≤ x ∧ x < c.objs) : (0 ≤ ix c.idn x ∧ (ix c.idn x).toNat < c.frm.length) ∧ ix c.frm (ix c.idn x) = x ∧ ix c.to (ix c.idn x) = x := by
 have hl := s.il
 have h1 := s.id' (x := x) (by omega)
 have h2 := s.ide x.toNat (by omega)
 rw [Int.toNat_of_nonneg hx.1] at h2
 exact ⟨h1, h2⟩
theorem Cat.Is.idr (h : c.Is) {f : Int} (hf : 0 ≤ f ∧ f.toNat < c.frm.length) : ix (ix c.comp f) (ix c.idn (ix c.to f)) = f := by
 have := (h.2.idl f.toNat hf.2).2
 rw [Int.toNat_of_nonneg hf.1] at this; exact this
theorem Cat.Is.idl (h : c.Is) {f : Int} (hf : 0 ≤ f ∧ f.toNat < c.frm.length) : ix (ix c.comp (ix c.idn (ix c.frm f))) f = f := by
 have := (h.2.idl f.toNat hf.2).1
 rw [Int.toNat_of_nonneg hf.1] at this; exact this
end
end Go.Shf
namespace Go.Shf
open Go.AW
end Go.Shf
namespace Go.Shf
open Go.AW
theorem getD_set {α : Type} (l : List α) (i j : Nat) (a d : α) : (l.set i a).getD j d = if i = j ∧ j < l.length then a else l.getD j d := by
 rw [List.getD_eq_getElem?_getD, List.getElem?_set, List.getD_eq_getElem?_getD]
 by_cases h : i = j
 ·subst h
  by_cases h2 : i < l.length
  ·simp [h2]
  ·simp [h2, List.getElem?_eq_none (show l.length ≤ i by omega)]
 ·simp [h]
end Go.Shf
namespace Go.Shf
open Go.AW
theorem cmp_le_trans {a b c : List Int} (h : cmp a b ≤ 0) (k : cmp b c ≤ 0) : cmp a c ≤ 0 := by
 by_cases h1 : cmp a b = 0
 ·rw [cmp_zero.mp h1]; exact k
 ·by_cases h2 : cmp b c = 0
  ·rw [← cmp_zero.mp h2]; exact h
  ·have := cmp_trans (a := a) (b := b) (c := c) (by omega) (by omega); omega
end Go.Shf
namespace Go.Shf
open Go.AW
def rowP (c : Cat) (L : List (List (List Int))) (a : Nat) : List Int := (L.getD (c.frm.getD a default).toNat default).map fun s => indexOf (L.getD (c.to.getD a default).toNat default) (pullS c a s)
def pullsOf (c : Cat) (L : List (List (List Int))) : List (List Int) := (List.range c.frm.length).map (rowP c L)
def topOf (c : Cat) (L : List (List (List Int))) (x : Nat) : Int := indexOf (L.getD x default) (outs c x)
def topsOf (c : Cat) (L : List (List (List Int))) : List Int := (List.range L.length).map (topOf c L)
theorem map_range_succ {α : Type} (f : Nat → α) (k : Nat) : (List.range (k + 1)).map f = (List.range k).map f ++ [f k] := by rw [List.range_succ]; simp
theorem getD_map_range {α : Type} (f : Nat → α) (d : α) {n k : Nat} (h : k < n) : ((List.range n).map f).getD k d = f k := by
 simp [List.getD_eq_getElem?_getD, h]
@[go_sem] def tabCells (c : Cat) (L : List (List (List Int))) : List AV := [iI c.objs, iL c.frm, iL c.to, iL c.idn, iLL c.comp, iLLL L, iLL (pullsOf c L), iL (topsOf c L)]
@[go_sem] def tabZ : List AV := [.int .i64 0, .nilsl, .nilsl, .nilsl, .nilsl, .nilsl, .nilsl, .nilsl]
theorem indexOf_in {α : Type} [DecidableEq α] [Inhabited α] {l : List α} {a : α} (h : a ∈ l) : 0 ≤ indexOf l a ∧ (indexOf l a).toNat < l.length ∧ ix l (indexOf l a) = a := by
 unfold indexOf
 split
 ·rename_i i e
  rw [List.idxOf?_eq_some_iff] at e
  obtain ⟨hi, e, _⟩ := e
  refine ⟨by omega, by simpa using hi, ?_⟩
  simpa [ix, List.getD_eq_getElem?_getD, hi] using e
 ·rename_i e; rw [List.idxOf?_eq_none_iff] at e; exact absurd h e
theorem indexOf_nodup {α : Type} [DecidableEq α] [Inhabited α] {l : List α} (h : l.Nodup) {k : Nat} (hk : k < l.length) : indexOf l (l.getD k default) = k := by
 refine indexOf_hit hk (fun i hi e => ?_) rfl
 have h1 : i < l.length := by omega
 have := (List.getElem_inj h (h₀ := h1) (h₁ := hk)).mp (by simpa [List.getD_eq_getElem?_getD, h1, hk] using e)
 omega
end Go.Shf
namespace Go.Shf
open Go.AW
end Go.Shf
namespace Go.Shf
open Go.AW
theorem map_getD {α β : Type} [Inhabited α] (f : α → β) {l : List α} {k : Nat} {d : β} (h : k < l.length) : (l.map f).getD k d = f (l.getD k default) := by simp [List.getD_eq_getElem?_getD, h]
end Go.Shf
namespace Go.Shf
open Go.AW
end Go.Shf
namespace Go.Shf
open Go.AW
structure Lk where
 i : Int
 j : Int
 left : List Int
 right : List Int
 deriving Inhabited
def Fits (p : List Int) (l : Lk) : Prop := 0 ≤ ix p l.i → 0 ≤ ix p l.j → ix l.left (ix p l.i) = ix l.right (ix p l.j)
def Cons (ls : List Lk) (p : List Int) : Prop := ∀ l, l ∈ ls → Fits p l
structure Ext (sizes : List Int) (ls : List Lk) (p t : List Int) : Prop where
 len : t.length = p.length
 new : ∀ n, n < p.length → p.getD n default = -1 → 0 ≤ t.getD n default ∧ t.getD n default < sizes.getD n default
 old : ∀ n, n < p.length → p.getD n default ≠ -1 → t.getD n default = p.getD n default
 cons : Cons ls t
structure IsLex (S : List Int → Prop) (L : List (List Int)) : Prop where
 srt : L.Pairwise fun s t => cmp s t < 0
 mem : ∀ t, t ∈ L ↔ S t
end Go.Shf
namespace Go.Shf
open Go.AW
end Go.Shf
namespace Go.Shf
open Go.AW
section
variable {sizes : List Int} {ls : List Lk} {p : List Int}
open Classical in
noncomputable def exS (sizes : List Int) (ls : List Lk) (p : List Int) : List (List Int) := if h : ∃ L, IsLex (Ext sizes ls p) L then Classical.choose h else []
end
end Go.Shf
namespace Go.Shf
open Go.AW
end Go.Shf
namespace Go.Shf
open Go.AW
def lkRow (c : Cat) (s : List Int) (i b : Nat) : List Int := [(i : Int), (b : Int), indexOf s (ix (ix c.comp (s.getD i default)) b)]
def hitP (c : Cat) (s : List Int) (i b : Nat) : Bool := decide (c.frm.getD b default = ix c.to (s.getD i default))
def rowsAt (c : Cat) (s : List Int) (i n : Nat) : List (List Int) := ((List.range n).filter (hitP c s i)).map (lkRow c s i)
def rowsTo (c : Cat) (s : List Int) (k : Nat) : List (List Int) := (List.range k).flatMap fun i => rowsAt c s i c.frm.length
def rowsOf (c : Cat) (s : List Int) : List (List Int) := rowsTo c s s.length
def famSizes (f : SF) (s : List Int) : List Int := s.map fun a => ix f.sizes (ix f.shape.to a)
def natsL (n : Int) : List Int := (List.range n.toNat).map Int.ofNat
def lkOf (f : SF) (s r : List Int) : Lk := ⟨r.getD 0 default, r.getD 2 default, ix f.acts (r.getD 1 default), natsL (ix (famSizes f s) (r.getD 2 default))⟩
def famLinks (f : SF) (s : List Int) : List Lk := (rowsOf f.shape s).map (lkOf f s)
noncomputable def solS (sizes : List Int) (ls : List Lk) : List (List Int) := exS sizes ls (List.replicate sizes.length (-1))
noncomputable def famS (f : SF) (s : List Int) : List (List Int) := solS (famSizes f s) (famLinks f s)
section
variable {f : SF} {x : Int} {s : List Int}
theorem SF.Shape.sizeAt (h : f.Shape) {y : Int} (hy : 0 ≤ y ∧ y < f.shape.objs) : 0 ≤ ix f.sizes y ∧ ix f.sizes y ≤ 16 := by
 have := h.sl
 have := h.sz _ (ix_mem (l := f.sizes) (i := y) (by omega)); omega
end
end Go.Shf
namespace Go.Shf
open Go.AW
def movedF (c : Cat) (V : List (List Int)) (a : Int) (t : List Int) : List Int := (ix V (ix c.to a)).map fun b => ix t (indexOf (ix V (ix c.frm a)) (ix (ix c.comp a) b))
noncomputable def famAt (f : SF) (V : List (List Int)) (x : Nat) : List (List Int) := famS f (V.getD x default)
noncomputable def famsOf (f : SF) (V : List (List Int)) : List (List (List Int)) := (List.range V.length).map (famAt f V)
noncomputable def sizeAt (f : SF) (V : List (List Int)) (x : Nat) : Int := ((famAt f V x).length : Int)
noncomputable def stepSizes (f : SF) (V : List (List Int)) : List Int := (List.range V.length).map (sizeAt f V)
noncomputable def actAt (f : SF) (V : List (List Int)) (a : Nat) : List Int :=
 (famAt f V (f.shape.frm.getD a default).toNat).map fun t => indexOf (famAt f V (f.shape.to.getD a default).toNat) (movedF f.shape V a t)
noncomputable def stepActs (f : SF) (V : List (List Int)) : List (List Int) := (List.range f.shape.frm.length).map (actAt f V)
def SF.CompL (f : SF) : Prop := ∀ a b : Int, (0 ≤ a ∧ a.toNat < f.shape.frm.length) → (0 ≤ b ∧ b.toNat < f.shape.frm.length) → ix f.shape.to a = ix f.shape.frm b → ∀ e : Int, 0 ≤ e ∧ e.toNat < (ix f.acts a).length →
 ix (ix f.acts (ix (ix f.shape.comp a) b)) e = ix (ix f.acts b) (ix (ix f.acts a) e)
theorem SF.Is.compL {f : SF} (h : f.Is) : f.CompL := fun a b ha hb e x hx => by
 have := h.2.comp a.toNat b.toNat ha.2 hb.2 e x.toNat hx.2
 exact this
end Go.Shf
namespace Go.Shf
open Go.AW
end Go.Shf
namespace Go.Shf
open Go.AW
def homP (c : Cat) (x y : Int) (i : Nat) : Bool := decide (c.frm.getD i default = x) && decide (c.to.getD i default = y)
def hom (c : Cat) (x y : Int) : List Int := nats (homP c x y) c.frm.length
theorem mem_hom {c : Cat} {x y a : Int} : a ∈ hom c x y ↔ (0 ≤ a ∧ a.toNat < c.frm.length) ∧ ix c.frm a = x ∧ ix c.to a = y := by
 simp only [hom, homP, mem_nats, Bool.and_eq_true, decide_eq_true_eq, and_assoc]; exact Iff.rfl
def repSize (c : Cat) (x : Int) (y : Nat) : Int := ((hom c x y).length : Int)
def repSizes (c : Cat) (x : Int) : List Int := (List.range c.objs.toNat).map (repSize c x)
def repAct (c : Cat) (x : Int) (a : Nat) : List Int := (hom c x (c.frm.getD a default)).map fun h => indexOf (hom c x (c.to.getD a default)) (ix (ix c.comp h) a)
def repActs (c : Cat) (x : Int) : List (List Int) := (List.range c.frm.length).map (repAct c x)
def repF (c : Cat) (x : Int) : SF := ⟨c, repSizes c x, repActs c x⟩
section
variable {c : Cat}
theorem indexOf_ix {α : Type} [DecidableEq α] [Inhabited α] {l : List α} (h : l.Nodup) {k : Int} (hk : 0 ≤ k ∧ k.toNat < l.length) : indexOf l (ix l k) = k := by
 have := indexOf_nodup h hk.2
 rw [Int.toNat_of_nonneg hk.1] at this
 exact this
def RepFew (c : Cat) (x : Int) : Prop := ∀ y : Nat, y < c.objs.toNat → (hom c x y).length ≤ 16
end
end Go.Shf
namespace Go.Shf
open Go.AW
structure MapL (f g : SF) (p : List (List Int)) : Prop where
 len : (p.length : Int) = f.shape.objs
 pl : ∀ x : Int, 0 ≤ x ∧ x < f.shape.objs → ((ix p x).length : Int) = ix f.sizes x ∧ ∀ e : Int, 0 ≤ e ∧ e < ix f.sizes x → 0 ≤ ix (ix p x) e ∧ ix (ix p x) e < ix g.sizes x
 nl : ∀ b : Int, 0 ≤ b ∧ b.toNat < f.shape.frm.length → ∀ e : Int, 0 ≤ e ∧ e < ix f.sizes (ix f.shape.frm b) → ix (ix p (ix f.shape.to b)) (ix (ix f.acts b) e) = ix (ix g.acts b) (ix (ix p (ix f.shape.frm b)) e)
end Go.Shf
namespace Go.Shf
open Go.AW
section
variable {f : SF} {L p : List (List (List Int))} {q m : List (List Int)}
theorem SF.Shape.inAct (h : f.Shape) {a e : Int} (ha : 0 ≤ a ∧ a.toNat < f.shape.frm.length) (he : 0 ≤ e ∧ e < ix f.sizes (ix f.shape.frm a)) : 0 ≤ e ∧ e.toNat < (ix f.acts a).length := by
 have := h.actLen ha.2; omega
theorem SF.Shape.inX (h : f.Shape) {x : Int} (hx : 0 ≤ x ∧ x < f.shape.objs) : 0 ≤ x ∧ x.toNat < f.sizes.length := by have := h.sl; omega
theorem SF.Shape.actTo (h : f.Shape) {a e : Int} (ha : 0 ≤ a ∧ a.toNat < f.shape.frm.length) (he : 0 ≤ e ∧ e < ix f.sizes (ix f.shape.frm a)) : 0 ≤ ix (ix f.acts a) e ∧ ix (ix f.acts a) e < ix f.sizes (ix f.shape.to a) :=
 (h.act a.toNat (by rw [h.al]; exact ha.2)).2 _ (ix_mem (h.inAct ha he).2)
end
end Go.Shf
namespace Go.Shf
open Go.AW
section
variable {f g : SF}
variable {p p' : List (List Int)} {x e d : Int} {k : Nat} {N : List (Int × Int)}
theorem take_one {α : Type} [Inhabited α] (l : List α) {k : Nat} (hk : k < l.length) : l.take (k + 1) = l.take k ++ [l.getD k default] := by
 have hN : l[k] = l.getD k default := by simp [List.getD_eq_getElem?_getD, hk]
 rw [← hN]; exact (List.take_append_getElem hk).symm
theorem SF.Is.idAct (h : f.Is) {x e : Int} (hx : 0 ≤ x ∧ x < f.shape.objs) (he : 0 ≤ e ∧ e < ix f.sizes x) : ix (ix f.acts (ix f.shape.idn x)) e = e := by
 have hl := h.1.is.1.il
 have h2 := h.1.idLen (x := x.toNat) (by omega)
 have h3 := h.2.idl x.toNat (by omega) e.toNat (by
  have e0 : ix f.sizes x = f.sizes.getD x.toNat default := rfl
  omega)
 rw [Int.toNat_of_nonneg he.1] at h3
 exact h3
theorem countP_less {α : Type} {P Q : α → Bool} {b : α} : ∀ {l : List α}, (∀ a, a ∈ l → P a = true → Q a = true) → b ∈ l → P b = false → Q b = true → l.countP P < l.countP Q
 | [], _, hb, _, _ => by simp at hb
 | a :: r, h, hb, hp, hq => by
  have hle : r.countP P ≤ r.countP Q := List.countP_mono_left fun a ha => h a (List.mem_cons_of_mem _ ha)
  rw [List.countP_cons, List.countP_cons]
  by_cases e : b ∈ r
  ·have := countP_less (fun a ha => h a (List.mem_cons_of_mem _ ha)) e hp hq
   have ha := h a List.mem_cons_self
   cases hpa : P a with
   | true => rw [ha hpa]; simpa using this
   | false => cases Q a <;> simp <;> omega
  ·rcases List.mem_cons.mp hb with rfl | hb
   ·rw [hp, hq]; simp; omega
   ·exact absurd hb e
variable {M M' : List (List (List Int))}
end
end Go.Shf
namespace Go.Shf
open Go.AW
def prodT : List Int → Int
 | [] => 1
 | a :: l => a * prodT l
theorem prodT_pos : ∀ {s : List Int}, (∀ a, a ∈ s → 0 < a) → 0 < prodT s
 | [], _ => by simp [prodT]
 | a :: l, h => by
  rw [prodT]
  exact Int.mul_pos (h a (by simp)) (prodT_pos fun b hb => h b (by simp [hb]))
theorem prodT_zero : ∀ {s : List Int}, 0 ∈ s → prodT s = 0
 | a :: l, h => by
  rw [prodT]
  rcases List.mem_cons.mp h with e | e
  ·rw [← e, Int.zero_mul]
  ·rw [prodT_zero e, Int.mul_zero]
theorem prodT_nonneg {s : List Int} (h : ∀ a, a ∈ s → 0 ≤ a) : 0 ≤ prodT s := by
 by_cases h0 : 0 ∈ s
 ·rw [prodT_zero h0]; exact Int.le_refl _
 ·exact Int.le_of_lt (prodT_pos fun a ha => by
   have := h a ha
   have : a ≠ 0 := fun e => h0 (e ▸ ha)
   omega)
theorem prodT_le {b : Int} (hb : 0 ≤ b) : ∀ {s : List Int}, (∀ a, a ∈ s → 0 ≤ a ∧ a ≤ b) → prodT s ≤ b ^ s.length
 | [], _ => by simp [prodT]
 | a :: l, h => by
  rw [prodT, List.length_cons, Int.pow_succ, Int.mul_comm (b ^ l.length)]
  have h1 := h a (by simp)
  have h2 := prodT_le hb (s := l) fun c hc => h c (by simp [hc])
  have h3 := prodT_nonneg (s := l) fun c hc => (h c (by simp [hc])).1
  exact Int.mul_le_mul h1.2 h2 h3 hb
theorem prodT_append : ∀ (s t : List Int), prodT (s ++ t) = prodT s * prodT t
 | [], t => by simp [prodT]
 | a :: s, t => by rw [List.cons_append, prodT, prodT, prodT_append s t, Int.mul_assoc]
def digT (s : List Int) (n : Int) (i : Nat) : Int := (n / prodT (s.drop (i + 1))) % s.getD i default
def atT (s : List Int) (n : Int) : List Int := (List.range s.length).map (digT s n)
theorem atT_cons (a : Int) (s : List Int) (n : Int) : atT (a :: s) n = ((n / prodT s) % a) :: atT s n := by
 rw [atT, List.length_cons, List.range_succ_eq_map, List.map_cons, List.map_map]
 rfl
def InB : List Int → List Int → Prop
 | [], [] => True
 | a :: s, b :: t => (0 ≤ b ∧ b < a) ∧ InB s t
 | _, _ => False
def numT : List Int → List Int → Int
 | _ :: s, b :: t => b * prodT s + numT s t
 | _, _ => 0
theorem InB.len : ∀ {s t : List Int}, InB s t → t.length = s.length
 | [], [], _ => rfl
 | a :: s, b :: t, h => by rw [List.length_cons, List.length_cons, InB.len h.2]
theorem InB.pos : ∀ {s t : List Int}, InB s t → ∀ a, a ∈ s → 0 < a
 | [], [], _, a, ha => by simp at ha
 | a :: s, b :: t, h, c, hc => by
  rcases List.mem_cons.mp hc with rfl | hc
  ·have := h.1; omega
  ·exact InB.pos h.2 c hc
theorem InB.at : ∀ {s t : List Int}, InB s t → ∀ i, i < s.length → 0 ≤ t.getD i default ∧ t.getD i default < s.getD i default
 | [], [], _, i, hi => by simp at hi
 | a :: s, b :: t, h, 0, _ => by simpa using h.1
 | a :: s, b :: t, h, i + 1, hi => by
  have := InB.at h.2 i (by simpa using hi)
  simpa using this
theorem InB.of : ∀ {s t : List Int}, t.length = s.length → (∀ i, i < s.length → 0 ≤ t.getD i default ∧ t.getD i default < s.getD i default) → InB s t
 | [], [], _, _ => trivial
 | a :: s, b :: t, hl, h => ⟨by simpa using h 0 (by simp), InB.of (by simpa using hl) fun i hi => by simpa using h (i + 1) (by simpa using hi)⟩
 | [], b :: t, hl, _ => by simp at hl
 | a :: s, [], hl, _ => by simp at hl
theorem numT_lt : ∀ {s t : List Int}, InB s t → 0 ≤ numT s t ∧ numT s t < prodT s
 | [], [], _ => by simp [numT, prodT]
 | a :: s, b :: t, h => by
  have ih := numT_lt h.2
  have hp := prodT_pos h.2.pos
  have hb := h.1
  rw [numT, prodT]
  have h1 : 0 ≤ b * prodT s := Int.mul_nonneg h.1.1 (Int.le_of_lt hp)
  have h2 : (b + 1) * prodT s ≤ a * prodT s := Int.mul_le_mul_of_nonneg_right (by omega) (Int.le_of_lt hp)
  rw [Int.add_mul, Int.one_mul] at h2
  omega
theorem atT_add : ∀ {s : List Int}, (∀ a, a ∈ s → 0 < a) → ∀ n k : Int, atT s (n + k * prodT s) = atT s n
 | [], _, n, k => rfl
 | a :: s, h, n, k => by
  have hp := prodT_pos (s := s) fun b hb => h b (by simp [hb])
  have e : n + k * prodT (a :: s) = n + (k * a) * prodT s := by rw [prodT, Int.mul_assoc]
  rw [atT_cons, atT_cons, e, atT_add (fun b hb => h b (by simp [hb])) n (k * a), Int.add_mul_ediv_right _ _ (by omega), Int.add_mul_emod_self_right]
theorem atT_num : ∀ {s t : List Int}, InB s t → atT s (numT s t) = t
 | [], [], _ => rfl
 | a :: s, b :: t, h => by
  have ih := atT_num h.2
  have hl := numT_lt h.2
  have hp := prodT_pos h.2.pos
  rw [atT_cons, numT, Int.add_comm, atT_add h.2.pos, ih, Int.add_mul_ediv_right _ _ (by omega), Int.ediv_eq_zero_of_lt hl.1 hl.2, Int.zero_add, Int.emod_eq_of_lt h.1.1 h.1.2]
theorem atT_in : ∀ {s : List Int}, (∀ a, a ∈ s → 0 < a) → ∀ n : Int, InB s (atT s n)
 | [], _, n => trivial
 | a :: s, h, n => by
  rw [atT_cons]
  have ha := h a (by simp)
  exact ⟨⟨Int.emod_nonneg _ (by omega), Int.emod_lt_of_pos _ ha⟩, atT_in (fun b hb => h b (by simp [hb])) n⟩
theorem atT_mod {s : List Int} (h : ∀ a, a ∈ s → 0 < a) (n : Int) : atT s n = atT s (n % prodT s) := by
 have := atT_add h (n % prodT s) (n / prodT s)
 rw [← this, Int.mul_comm, Int.emod_add_mul_ediv]
theorem at_lt : ∀ {s : List Int}, (∀ a, a ∈ s → 0 < a) → ∀ {m n : Int}, 0 ≤ m → m < n → n < prodT s → cmp (atT s m) (atT s n) < 0
 | [], _, m, n, h0, h1, h2 => by simp only [prodT] at h2; omega
 | a :: s, h, m, n, h0, h1, h2 => by
  have hs : ∀ b, b ∈ s → 0 < b := fun b hb => h b (by simp [hb])
  have hp := prodT_pos hs
  rw [prodT] at h2
  have hn : n / prodT s < a := Int.ediv_lt_of_lt_mul hp h2
  have hm : m / prodT s ≤ n / prodT s := Int.ediv_le_ediv hp (by omega)
  have hm0 : 0 ≤ m / prodT s := Int.ediv_nonneg h0 (by omega)
  rw [atT_cons, atT_cons, Int.emod_eq_of_lt hm0 (by omega), Int.emod_eq_of_lt (by omega) hn, cmp]
  by_cases e : m / prodT s = n / prodT s
  ·rw [if_pos e, atT_mod hs m, atT_mod hs n]
   have e1 := Int.emod_add_mul_ediv m (prodT s)
   have e2 := Int.emod_add_mul_ediv n (prodT s)
   rw [e] at e1
   exact at_lt hs (Int.emod_nonneg _ (by omega)) (by omega) (Int.emod_lt_of_pos _ hp)
  ·rw [if_neg e, if_pos (by omega)]; omega
def tupL (s : List Int) : List (List Int) := (List.range (prodT s).toNat).map fun k : Nat => atT s k
theorem mem_tupL {s t : List Int} (hs : ∀ a, a ∈ s → 0 ≤ a) : t ∈ tupL s ↔ InB s t := by
 rw [tupL, List.mem_map]
 constructor
 ·rintro ⟨k, hk, rfl⟩
  rw [List.mem_range] at hk
  refine atT_in (fun a ha => ?_) _
  have h1 := hs a ha
  by_cases e : a = 0
  ·subst e; rw [prodT_zero ha] at hk; simp at hk
  ·omega
 ·intro h
  have := numT_lt h
  exact ⟨(numT s t).toNat, List.mem_range.mpr (by omega), by rw [Int.toNat_of_nonneg this.1, atT_num h]⟩
theorem tupL_sorted {s : List Int} (hs : ∀ a, a ∈ s → 0 ≤ a) : (tupL s).Pairwise fun a b => cmp a b < 0 := by
 rw [tupL, List.pairwise_map]
 refine List.Pairwise.imp_of_mem (fun {a b} ha hb h => ?_) List.pairwise_lt_range
 rw [List.mem_range] at ha hb
 refine at_lt (fun a ha => ?_) (by omega) (by omega) (by omega)
 have h1 := hs a ha
 by_cases e : a = 0
 ·subst e; rw [prodT_zero ha] at hb; simp at hb
 ·omega
structure QS where
 v : List Int
 l : List (Int × Int)
 r : List (Int × Int)
 o : List Int
def TermOk (c : Cat) (v : List Int) (t : Int × Int) : Prop := (0 ≤ t.1 ∧ t.1.toNat < v.length) ∧ (0 ≤ t.2 ∧ t.2.toNat < c.frm.length) ∧ ix c.frm t.2 = ix v t.1
def CondOk (c : Cat) (v : List Int) (a b : Int × Int) : Prop := TermOk c v a ∧ TermOk c v b ∧ ix c.to a.2 = ix c.to b.2
structure QS.Ok (q : QS) (c : Cat) : Prop where
 v4 : q.v.length ≤ 4
 vo : ∀ x, x ∈ q.v → 0 ≤ x ∧ x < c.objs
 l6 : q.l.length ≤ 6
 rl : q.r.length = q.l.length
 cond : ∀ i, i < q.l.length → CondOk c q.v (q.l.getD i default) (q.r.getD i default)
 o4 : q.o.length ≤ 4
 ov : ∀ x, x ∈ q.o → 0 ≤ x ∧ x < q.v.length
def szT (f : SF) (v : List Int) : List Int := v.map (ix f.sizes)
def holdT (f : SF) (t : List Int) (a b : Int × Int) : Prop := ix (ix f.acts a.2) (ix t a.1) = ix (ix f.acts b.2) (ix t b.1)
def solvT (f : SF) (q : QS) (t : List Int) : Prop := ∀ i, i < q.l.length → holdT f t (q.l.getD i default) (q.r.getD i default)
noncomputable def solQ (f : SF) (q : QS) : List (List Int) := (tupL (szT f q.v)).filter fun t => dec (solvT f q t)
section
variable {f : SF} {q : QS}
theorem szT_bd (h : f.Is) (hq : q.Ok f.shape) : ∀ a, a ∈ szT f q.v → 0 ≤ a ∧ a ≤ 16 := by
 intro a ha
 obtain ⟨x, hx, rfl⟩ := List.mem_map.mp ha
 have := h.1.sizeAt (hq.vo x hx)
 omega
theorem szT_len : (szT f q.v).length = q.v.length := List.length_map _
theorem mem_solQ (h : f.Is) (hq : q.Ok f.shape) {t : List Int} : t ∈ solQ f q ↔ InB (szT f q.v) t ∧ solvT f q t := by
 rw [solQ, List.mem_filter, mem_tupL fun a ha => (szT_bd h hq a ha).1, dec_iff]
theorem term_in (h : f.Is) (hq : q.Ok f.shape) {t : List Int} (ht : InB (szT f q.v) t) {a : Int × Int} (ha : TermOk f.shape q.v a) :
  (0 ≤ a.1 ∧ a.1.toNat < t.length) ∧ (0 ≤ a.2 ∧ a.2.toNat < f.acts.length) ∧ 0 ≤ ix t a.1 ∧ (ix t a.1).toNat < (ix f.acts a.2).length := by
 have h1 := ht.len
 rw [szT_len] at h1
 have h2 := ht.at a.1.toNat (by rw [szT_len]; exact ha.1.2)
 rw [szT, map_getD _ ha.1.2] at h2
 have h3 : ix f.sizes (ix q.v a.1) = ix f.sizes (ix f.shape.frm a.2) := by rw [ha.2.2]
 have h4 : q.v.getD a.1.toNat default = ix q.v a.1 := rfl
 have h5 : t.getD a.1.toNat default = ix t a.1 := rfl
 have h6 := h.1.actLen ha.2.1.2
 rw [h4, h5] at h2
 refine ⟨⟨ha.1.1, by have := ha.1.2; omega⟩, ⟨ha.2.1.1, by rw [h.1.al]; exact ha.2.1.2⟩, h2.1, by omega⟩
end
end Go.Shf
namespace Go.Shf
open Go.AW
theorem getD_setD {α : Type} [Inhabited α] (l : List α) {i : Nat} (a : α) (hi : i < l.length) {y : Nat} : (l.set i a).getD y default = if y = i then a else l.getD y default := by
 simp only [List.getD_eq_getElem?_getD, List.getElem?_set]
 by_cases h : i = y
 ·subst h; simp [hi]
 ·rw [if_neg h, if_neg (Ne.symm h)]
structure SF.Pre (f : SF) (c : Cat) (N : Nat) : Prop where
 sh : f.shape = c
 sl : (f.sizes.length : Int) = c.objs
 al : f.acts.length = c.frm.length
 sz : ∀ y, y ∈ f.sizes → 0 ≤ y ∧ y ≤ N
 act : ∀ a : Nat, a < c.frm.length → ((f.acts.getD a default).length : Int) = ix f.sizes (c.frm.getD a default) ∧ ∀ y, y ∈ f.acts.getD a default → 0 ≤ y ∧ y < ix f.sizes (c.to.getD a default)
structure FreeI (c : Cat) (os : List Int) (k h : Nat) (LL : List (List (List Int))) : Prop where
 len : (LL.length : Int) = c.objs
 of : ∀ y : Nat, y < LL.length → ∀ q, q ∈ LL.getD y default → ∃ i j : Nat, q = [(i : Int), (j : Int)] ∧ i < os.length ∧ j < c.frm.length ∧ c.frm.getD j default = os.getD i default ∧ c.to.getD j default = y
 all : ∀ i j : Nat, (i < k ∨ (i = k ∧ j < h)) → i < os.length → j < c.frm.length → c.frm.getD j default = os.getD i default → ([(i : Int), (j : Int)] : List Int) ∈ LL.getD (c.to.getD j default).toNat default
 bd : ∀ y : Nat, (LL.getD y default).length ≤ k * c.frm.length + h
section
variable {c : Cat} {os : List Int} {k h : Nat} {LL : List (List (List Int))}
theorem FreeI.zero (hc : 0 ≤ c.objs) : FreeI c os 0 0 (List.replicate c.objs.toNat []) where
 len := by simp; omega
 of y hy q hq := by
  rw [List.length_replicate] at hy
  simp [List.getD_eq_getElem?_getD, hy] at hq
 all i j h := by omega
 bd y := by
  by_cases hy : y < c.objs.toNat
  ·simp [List.getD_eq_getElem?_getD, hy]
  ·rw [List.getD_eq_getElem?_getD, List.getElem?_eq_none (by simp; omega)]
   simp
   rfl
theorem FreeI.skip (s : FreeI c os k h LL) (hn : c.frm.getD h default ≠ os.getD k default) : FreeI c os k (h + 1) LL := ⟨s.len, s.of, fun i j hij hi hj e => by
 by_cases e1 : i = k ∧ j = h
 ·rw [e1.1, e1.2] at e; exact absurd e hn
 ·exact s.all i j (by omega) hi hj e, fun y => by have := s.bd y; omega⟩
theorem FreeI.hit (s : FreeI c os k h LL) (hc : c.Shape) (hk : k < os.length) (hh : h < c.frm.length) (e : c.frm.getD h default = os.getD k default) :
  FreeI c os k (h + 1) (LL.set (c.to.getD h default).toNat (LL.getD (c.to.getD h default).toNat default ++ [[(k : Int), (h : Int)]])) := by
 have ht := hc.toObj (f := (h : Int)) (by simpa using hh)
 rw [ix_nat] at ht
 have hl := s.len
 have hin : (c.to.getD h default).toNat < LL.length := by omega
 have hget : ∀ y : Nat, (LL.set (c.to.getD h default).toNat (LL.getD (c.to.getD h default).toNat default ++ [[(k : Int), (h : Int)]])).getD y default =
   if y = (c.to.getD h default).toNat then LL.getD y default ++ [[(k : Int), (h : Int)]] else LL.getD y default := by
  intro y
  rw [getD_setD _ _ hin]
  by_cases hy : y = (c.to.getD h default).toNat
  ·rw [if_pos hy, if_pos hy, hy]
  ·rw [if_neg hy, if_neg hy]
 refine ⟨by rw [List.length_set]; exact hl, fun y hy q hq => ?_, fun i j hij hi hj e1 => ?_, fun y => ?_⟩
 ·rw [List.length_set] at hy
  rw [hget] at hq
  split at hq
  ·rename_i hyy
   rcases List.mem_append.mp hq with hq | hq
   ·exact s.of y hy q hq
   ·rw [List.mem_singleton] at hq
    exact ⟨k, h, hq, hk, hh, e, by rw [hyy]; omega⟩
  ·exact s.of y hy q hq
 ·rw [hget]
  by_cases e2 : i = k ∧ j = h
  ·rw [e2.1, e2.2, if_pos rfl]; simp
  ·have := s.all i j (by omega) hi hj e1
   split
   ·exact List.mem_append_left _ this
   ·exact this
 ·rw [hget]
  have := s.bd y
  split
  ·rw [List.length_append, List.length_singleton]; omega
  ·omega
theorem FreeI.next (s : FreeI c os k c.frm.length LL) : FreeI c os (k + 1) 0 LL := ⟨s.len, s.of, fun i j hij hi hj e => s.all i j (by omega) hi hj e, fun y => by
 have := s.bd y
 rw [Nat.succ_mul]; omega⟩
def freeAct (c : Cat) (LL : List (List (List Int))) (a : Nat) : List Int := (LL.getD (c.frm.getD a default).toNat default).map fun q => indexOf (LL.getD (c.to.getD a default).toNat default) [ix q 0, (ix c.comp (ix q 1)).getD a default]
def freeF (c : Cat) (LL : List (List (List Int))) : SF := ⟨c, LL.map fun l => (l.length : Int), (List.range c.frm.length).map (freeAct c LL)⟩
theorem free_pre (hc : c.Is) (s : FreeI c os os.length 0 LL) {N : Nat} (hN : os.length * c.frm.length ≤ N) : (freeF c LL).Pre c N where
 sh := rfl
 sl := by simp only [freeF, List.length_map]; exact s.len
 al := by simp [freeF]
 sz y hy := by
  obtain ⟨l, hl, rfl⟩ := List.mem_map.mp hy
  obtain ⟨i, hi, rfl⟩ := mem_getD.mp hl
  have := s.bd i; omega
 act a ha := by
  have hl := s.len
  have hf := hc.1.frmObj (f := (a : Int)) (by simpa using ha)
  have ht := hc.1.toObj (f := (a : Int)) (by simpa using ha)
  rw [ix_nat] at hf ht
  have e1 : (freeF c LL).acts.getD a default = freeAct c LL a := by rw [freeF]; exact getD_map_range _ _ ha
  have e2 : ∀ y : Int, 0 ≤ y ∧ y < c.objs → ix (freeF c LL).sizes y = ((LL.getD y.toNat default).length : Int) := fun y hy => by
   rw [ix, freeF]; exact map_getD _ (by omega)
  rw [e1, e2 _ hf, e2 _ ht]
  refine ⟨by simp [freeAct], fun y hy => ?_⟩
  obtain ⟨q, hq, rfl⟩ := List.mem_map.mp hy
  obtain ⟨i, j, rfl, hi, hj, e3, e4⟩ := s.of _ (by omega) q hq
  have h1 : (0 : Int) ≤ (j : Int) ∧ (j : Int).toNat < c.frm.length := ⟨by omega, by simpa using hj⟩
  have h2 : (0 : Int) ≤ (a : Int) ∧ (a : Int).toNat < c.frm.length := ⟨by omega, by simpa using ha⟩
  have hcm := hc.1.comp h1 h2 (by rw [ix_nat, ix_nat, e4]; omega)
  obtain ⟨v, hv⟩ : ∃ v : Nat, ix (ix c.comp (j : Int)) (a : Int) = v := ⟨_, (Int.toNat_of_nonneg hcm.1.1).symm⟩
  rw [hv] at hcm
  simp only [ix_nat] at hcm
  have hall := s.all i v (.inl hi) hi (by simpa using hcm.1.2) (by rw [hcm.2.1, e3])
  rw [hcm.2.2] at hall
  have e5 : ([ix [(i : Int), (j : Int)] 0, (ix c.comp (ix [(i : Int), (j : Int)] 1)).getD a default] : List Int) = [(i : Int), (v : Int)] := by
   have : (ix c.comp (j : Int)).getD a default = v := by rw [← hv, ix_nat (ix c.comp (j : Int))]
   show [(i : Int), (ix c.comp (j : Int)).getD a default] = _
   rw [this]
  rw [e5]
  have := indexOf_in hall
  omega
end
def uneq (l : List Int) : Nat := ((List.range l.length).flatMap fun d => (List.range l.length).map fun e => (d, e)).countP fun q : Nat × Nat => decide (l.getD q.1 default ≠ l.getD q.2 default)
theorem uneq_less {l m : List Int} (hl : m.length = l.length) (h : ∀ i j : Nat, i < l.length → j < l.length → l.getD i default = l.getD j default → m.getD i default = m.getD j default)
  {u v : Nat} (hu : u < l.length) (hv : v < l.length) (h1 : l.getD u default ≠ l.getD v default) (h2 : m.getD u default = m.getD v default) : uneq m < uneq l := by
 unfold uneq
 rw [hl]
 refine countP_less (b := (u, v)) (fun q hq hq2 => ?_) (by simp; exact ⟨hu, hv⟩) (decide_eq_false (by simpa using h2)) (decide_eq_true h1)
 simp only [List.mem_flatMap, List.mem_range, List.mem_map] at hq
 obtain ⟨i, hi, j, hj, rfl⟩ := hq
 have hq2 := of_decide_eq_true hq2
 exact decide_eq_true fun e => hq2 (h i j hi hj e)
def pot (C : List (List Int)) : Nat := (C.map uneq).sum
theorem pot_set : ∀ (C : List (List Int)) (y : Nat) (m : List Int), y < C.length → uneq m < uneq (C.getD y default) → pot (C.set y m) < pot C
 | [], _, _, h, _ => by simp at h
 | a :: C, 0, m, _, h => by
  simp only [pot, List.set_cons_zero, List.map_cons, List.sum_cons]
  have : uneq m < uneq a := h
  omega
 | a :: C, y + 1, m, hy, h => by
  have := pot_set C y m (by simpa using hy) (by simpa using h)
  simp only [pot, List.set_cons_succ, List.map_cons, List.sum_cons] at this ⊢
  omega
def pairsOf (p : List Int) : List (List Int) := (List.range p.length).map fun i => [indexOf p (p.getD i default), (i : Int)]
def Glued (ps : List (List Int)) (m : List Int) : Prop := ∀ q, q ∈ ps → ix m (ix q 0) = ix m (ix q 1)
theorem glued_less {l m : List Int} (hl : m.length = l.length) {u v : Int} (hu : 0 ≤ u ∧ u.toNat < l.length) (hv : 0 ≤ v ∧ v.toNat < l.length) (h1 : ix l u ≠ ix l v) (hg : Glued (pairsOf l ++ [[u, v]]) m) : uneq m < uneq l := by
 refine uneq_less hl (fun i j hi hj e => ?_) hu.2 hv.2 h1 ?_
 ·have hp : ∀ i : Nat, i < l.length → m.getD (indexOf l (l.getD i default)).toNat default = m.getD i default := fun i hi => by
   have := hg [indexOf l (l.getD i default), (i : Int)] (List.mem_append_left _ (List.mem_map.mpr ⟨i, List.mem_range.mpr hi, rfl⟩))
   have e : ix m (ix [indexOf l (l.getD i default), (i : Int)] 1) = m.getD i default := ix_nat m i
   rw [e] at this
   exact this
  rw [← hp i hi, ← hp j hj, e]
 ·exact hg [u, v] (List.mem_append_right _ (by simp))
def relab (A : List Int) (a b : Int) : List Int := A.map fun v => if v = b then a else v
theorem relab_len (A : List Int) (a b : Int) : (relab A a b).length = A.length := by simp [relab]
theorem relab_ix {A : List Int} {a b i : Int} (h : i.toNat < A.length) : ix (relab A a b) i = if ix A i = b then a else ix A i := by
 rw [ix, relab, map_getD _ h]; rfl
theorem Glued.relab {ps : List (List Int)} {A : List Int} (hp : ∀ q, q ∈ ps → (ix q 0).toNat < A.length ∧ (ix q 1).toNat < A.length) (h : Glued ps A) (a b : Int) : Glued ps (relab A a b) := fun q hq => by
 have h1 := hp q hq
 rw [relab_ix h1.1, relab_ix h1.2, h q hq]
theorem Glued.step {ps : List (List Int)} {A : List Int} (hp : ∀ q, q ∈ ps → (ix q 0).toNat < A.length ∧ (ix q 1).toNat < A.length) {q : List Int} (hq : (ix q 0).toNat < A.length ∧ (ix q 1).toNat < A.length) (h : Glued ps A) :
  Glued (ps ++ [q]) (Go.Shf.relab A (ix A (ix q 0)) (ix A (ix q 1))) := fun r hr => by
 rcases List.mem_append.mp hr with hr | hr
 ·exact h.relab hp _ _ r hr
 ·rw [List.mem_singleton] at hr
  subst hr
  rw [relab_ix hq.1, relab_ix hq.2, if_pos rfl]
  split <;> rfl
end Go.Shf
namespace Go.Shf
open Go.AW
theorem indexOf_appT {s : List Int} {u v : Int} (h : u ∈ s) : indexOf (s ++ [v]) u = indexOf s u := by
 obtain ⟨h1, h2, h3⟩ := indexOf_in h
 unfold indexOf
 have : (s ++ [v]).idxOf? u = s.idxOf? u := by
  have hs : ∃ i, s.idxOf? u = some i := by
   cases e : s.idxOf? u with
   | some i => exact ⟨i, rfl⟩
   | none => rw [List.idxOf?_eq_none_iff] at e; exact absurd h e
  obtain ⟨i, hi⟩ := hs
  rw [hi]
  rw [List.idxOf?_eq_some_iff] at hi ⊢
  obtain ⟨k1, k2, k3⟩ := hi
  refine ⟨by simp; omega, by rw [List.getElem_append_left k1]; exact k2, fun j hj => ?_⟩
  rw [List.getElem_append_left (by omega)]; exact k3 j hj
 rw [this]
theorem indexOf_newT {s : List Int} {v : Int} (h : v ∉ s) : indexOf (s ++ [v]) v = s.length := by
 refine indexOf_hit (k := s.length) (by simp) (fun i hi e => h ?_) (by simp [List.getD_eq_getElem?_getD])
 rw [List.getD_eq_getElem?_getD, List.getElem?_append_left hi, ← List.getD_eq_getElem?_getD] at e
 exact mem_getD.mpr ⟨i, hi, e⟩
def seenL (l : List Int) : List Int := l.foldl (fun s v => if v ∈ s then s else s ++ [v]) []
theorem seenL_snoc (l : List Int) (v : Int) : seenL (l ++ [v]) = if v ∈ seenL l then seenL l else seenL l ++ [v] := by rw [seenL, List.foldl_append]; rfl
theorem mem_seenL : ∀ (k : Nat) (l : List Int), l.length = k → ∀ v, v ∈ seenL l ↔ v ∈ l
 | 0, l, h, v => by rw [List.length_eq_zero_iff] at h; subst h; simp [seenL]
 | k + 1, l, h, v => by
  have hne : l ≠ [] := fun e => by rw [e] at h; simp at h
  obtain ⟨r, x, rfl⟩ : ∃ r x, l = r ++ [x] := ⟨l.dropLast, l.getLast hne, (List.dropLast_concat_getLast hne).symm⟩
  have ih := mem_seenL k r (by simpa using h)
  rw [seenL_snoc]
  by_cases hx : x ∈ seenL r
  ·rw [if_pos hx, ih]
   simp only [List.mem_append, List.mem_singleton]
   exact ⟨.inl, fun h => h.elim id fun e => e ▸ (ih x).mp hx⟩
  ·rw [if_neg hx]
   simp only [List.mem_append, List.mem_singleton, ih]
theorem seenL_len : ∀ (k : Nat) (l : List Int), l.length = k → (seenL l).length ≤ k
 | 0, l, h => by rw [List.length_eq_zero_iff] at h; subst h; simp [seenL]
 | k + 1, l, h => by
  have hne : l ≠ [] := fun e => by rw [e] at h; simp at h
  obtain ⟨r, x, rfl⟩ : ∃ r x, l = r ++ [x] := ⟨l.dropLast, l.getLast hne, (List.dropLast_concat_getLast hne).symm⟩
  have ih := seenL_len k r (by simpa using h)
  rw [seenL_snoc]
  split
  ·omega
  ·simp; omega
def classL (l : List Int) : List Int := l.map fun v => indexOf (seenL l) v
theorem classL_len (l : List Int) : (classL l).length = l.length := by simp [classL]
theorem classL_snoc (l : List Int) (v : Int) : classL (l ++ [v]) = classL l ++ [indexOf (seenL (l ++ [v])) v] := by
 rw [classL, List.map_append, List.map_cons, List.map_nil]
 congr 1
 refine List.map_congr_left fun u hu => ?_
 have := (mem_seenL _ l rfl u).mpr hu
 rw [seenL_snoc]
 split
 ·rfl
 ·exact indexOf_appT this
theorem classL_ran {l : List Int} {v : Int} (h : v ∈ classL l) : 0 ≤ v ∧ v < l.length := by
 obtain ⟨u, hu, rfl⟩ := List.mem_map.mp h
 have := indexOf_in ((mem_seenL _ l rfl u).mpr hu)
 have := seenL_len _ l rfl
 omega
theorem Glued.class {ps : List (List Int)} {l : List Int} (hp : ∀ q, q ∈ ps → (ix q 0).toNat < l.length ∧ (ix q 1).toNat < l.length) (h : Glued ps l) : Glued ps (classL l) := fun q hq => by
 have h1 := hp q hq
 have key : ∀ i : Int, i.toNat < l.length → ix (classL l) i = indexOf (seenL l) (ix l i) := fun i hi => by rw [ix, classL, map_getD _ hi]; rfl
 rw [key _ h1.1, key _ h1.2, h q hq]
def labs (n : Nat) (ps : List (List Int)) : List Int := ps.foldl (fun A q => relab A (ix A (ix q 0)) (ix A (ix q 1))) ((List.range n).map Int.ofNat)
theorem labs_snoc (n : Nat) (ps : List (List Int)) (q : List Int) : labs n (ps ++ [q]) = relab (labs n ps) (ix (labs n ps) (ix q 0)) (ix (labs n ps) (ix q 1)) := by simp [labs, List.foldl_append]
theorem labs_succ (n : Nat) (ps : List (List Int)) {k : Nat} (hk : k < ps.length) : labs n (ps.take (k + 1)) = relab (labs n (ps.take k)) (ix (labs n (ps.take k)) (ix (ps.getD k default) 0)) (ix (labs n (ps.take k)) (ix (ps.getD k default) 1)) := by
 rw [take_one ps hk, labs_snoc]
theorem labs_fold (ps : List (List Int)) : ∀ (done : List (List Int)) (A : List Int), (∀ q, q ∈ done ++ ps → (ix q 0).toNat < A.length ∧ (ix q 1).toNat < A.length) → Glued done A →
  (ps.foldl (fun A q => relab A (ix A (ix q 0)) (ix A (ix q 1))) A).length = A.length ∧ Glued (done ++ ps) (ps.foldl (fun A q => relab A (ix A (ix q 0)) (ix A (ix q 1))) A) := by
 induction ps with
 | nil => intro done A _ h; exact ⟨rfl, by simpa using h⟩
 | cons q r ih =>
  intro done A hr h
  have hq := hr q (by simp)
  have h2 := h.step (fun q hq => hr q (by simp [hq])) hq
  have := ih (done ++ [q]) (relab A (ix A (ix q 0)) (ix A (ix q 1))) (fun p hp => by
   rw [relab_len]; exact hr p (by simpa using hp)) h2
  rw [List.foldl_cons]
  rw [relab_len] at this
  exact ⟨this.1, by simpa using this.2⟩
theorem labs_len (n : Nat) (ps : List (List Int)) : (labs n ps).length = n := by
 have : ∀ (ps : List (List Int)) (A : List Int), (ps.foldl (fun A q => relab A (ix A (ix q 0)) (ix A (ix q 1))) A).length = A.length := by
  intro ps
  induction ps with
  | nil => intro A; rfl
  | cons q r ih => intro A; rw [List.foldl_cons, ih, relab_len]
 rw [labs, this]; simp
def joinL (n : Nat) (ps : List (List Int)) : List Int := classL (labs n ps)
theorem joinL_len (n : Nat) (ps : List (List Int)) : (joinL n ps).length = n := by rw [joinL, classL_len, labs_len]
theorem joinL_glued {n : Nat} {ps : List (List Int)} (hp : ∀ q, q ∈ ps → (ix q 0).toNat < n ∧ (ix q 1).toNat < n) : Glued ps (joinL n ps) := by
 have hr : ∀ q, q ∈ ps → (ix q 0).toNat < ((List.range n).map Int.ofNat).length ∧ (ix q 1).toNat < ((List.range n).map Int.ofNat).length := fun q hq => by simpa using hp q hq
 have := (labs_fold ps [] ((List.range n).map Int.ofNat) (by simpa using hr) (fun q hq => by simp at hq)).2
 refine Glued.class (fun q hq => by rw [labs_len]; exact hp q hq) ?_
 simpa [labs] using this
def relabTo (A : List Int) (a b : Int) (i : Nat) : List Int := relab (A.take i) a b ++ A.drop i
theorem relabTo_len (A : List Int) (a b : Int) {i : Nat} (hi : i ≤ A.length) : (relabTo A a b i).length = A.length := by simp [relabTo, relab_len]; omega
theorem relabTo_zero (A : List Int) (a b : Int) : relabTo A a b 0 = A := by simp [relabTo, relab]
theorem relabTo_all (A : List Int) (a b : Int) : relabTo A a b A.length = relab A a b := by simp [relabTo]
theorem relab_same (A : List Int) (a : Int) : relab A a a = A := by
 rw [relab]
 have : ∀ v, v ∈ A → (if v = a then a else v) = v := fun v _ => by split <;> simp_all
 rw [List.map_congr_left this, List.map_id']
theorem relabTo_get (A : List Int) (a b : Int) {i : Nat} (hi : i < A.length) : (relabTo A a b i).getD i default = A.getD i default := by
 rw [relabTo, List.getD_eq_getElem?_getD, List.getElem?_append_right (by rw [relab_len, List.length_take]; omega), relab_len, List.length_take]
 rw [show i - min i A.length = 0 by omega, List.getElem?_drop, List.getD_eq_getElem?_getD]; simp
theorem relabTo_succ (A : List Int) (a b : Int) {i : Nat} (hi : i < A.length) : relabTo A a b (i + 1) = (relabTo A a b i).set i (if A.getD i default = b then a else A.getD i default) := by
 have hl : (relab (A.take i) a b).length = i := by rw [relab_len, List.length_take]; omega
 rw [relabTo, relabTo, take_one A hi]
 have e1 : relab (A.take i ++ [A.getD i default]) a b = relab (A.take i) a b ++ [if A.getD i default = b then a else A.getD i default] := by simp [relab]
 have e2 : A.drop i = A.getD i default :: A.drop (i + 1) := by
  rw [List.drop_eq_getElem_cons hi]; simp [List.getD_eq_getElem?_getD, hi]
 rw [e1, e2, List.set_append_right _ _ (by omega), hl, Nat.sub_self, List.set_cons_zero, List.append_assoc]; rfl
end Go.Shf
namespace Go.Shf
open Go.AW
end Go.Shf
namespace Go.Shf
open Go.AW
end Go.Shf
namespace Go.Shf
open Go.AW
end Go.Shf
namespace Go.Shf
open Go.AW
def mxL (l : List Int) : Int := l.foldl (fun n v => if v + 1 > n then v + 1 else n) 0
theorem mxL_snoc (l : List Int) (v : Int) : mxL (l ++ [v]) = if v + 1 > mxL l then v + 1 else mxL l := by rw [mxL, List.foldl_append]; rfl
theorem mxL_succ (l : List Int) {k : Nat} (hk : k < l.length) : mxL (l.take (k + 1)) = if l.getD k default + 1 > mxL (l.take k) then l.getD k default + 1 else mxL (l.take k) := by rw [take_one l hk, mxL_snoc]
theorem mxL_all {l : List Int} {N : Int} (h0 : 0 ≤ N) (h : ∀ v, v ∈ l → 0 ≤ v ∧ v < N) : ∀ k, k ≤ l.length → (0 ≤ mxL (l.take k) ∧ mxL (l.take k) ≤ N) ∧ ∀ i, i < k → l.getD i default < mxL (l.take k)
 | 0, _ => ⟨by simpa [mxL] using h0, fun i hi => by omega⟩
 | k + 1, hk => by
  have ih := mxL_all h0 h k (by omega)
  have hv := h _ (mem_getD.mpr ⟨k, hk, rfl⟩)
  rw [mxL_succ l hk]
  refine ⟨by split <;> omega, fun i hi => ?_⟩
  by_cases e : i = k
  ·subst e; split <;> omega
  ·have := ih.2 i (by omega)
   split <;> omega
theorem mxL_bd {l : List Int} {N : Int} (h0 : 0 ≤ N) (h : ∀ v, v ∈ l → 0 ≤ v ∧ v < N) : (0 ≤ mxL l ∧ mxL l ≤ N) ∧ ∀ v, v ∈ l → v < mxL l := by
 have := mxL_all h0 h l.length (Nat.le_refl _)
 rw [List.take_length] at this
 exact ⟨this.1, fun v hv => by obtain ⟨i, hi, rfl⟩ := mem_getD.mp hv; exact this.2 i hi⟩
end Go.Shf
namespace Go.Shf
open Go.AW
end Go.Shf
namespace Go.Shf
open Go.AW
theorem cmp_irr (a : List Int) : ¬ cmp a a < 0 := by
 have := cmp_zero.mpr (rfl : a = a); omega
theorem asc_uniq {A B : List (List Int)} (hA : A.Pairwise fun a b => cmp a b < 0) (hB : B.Pairwise fun a b => cmp a b < 0) (h : ∀ t, t ∈ A ↔ t ∈ B) : A = B := by
 have nd : ∀ {L : List (List Int)}, (L.Pairwise fun a b => cmp a b < 0) → L.Nodup := fun h => h.imp fun {a b} h e => by subst e; exact cmp_irr _ h
 exact List.Perm.eq_of_pairwise (le := fun a b => cmp a b < 0) (fun a b _ _ h1 h2 => by have := cmp_neg a b; omega) hA hB ((List.perm_ext_iff_of_nodup (nd hA) (nd hB)).mpr h)
def thenT (o t : List Int) : List Int := o.map fun k => ix t k
def szO (f : SF) (q : QS) : List Int := q.o.map fun k => ix f.sizes (ix q.v k)
noncomputable def rowsQ (f : SF) (q : QS) : List (List Int) := (tupL (szO f q)).filter fun t => dec (∃ s, s ∈ solQ f q ∧ thenT q.o s = t)
noncomputable def supQ (f : SF) (q : QS) (r : List Int) : List (List Int) := (solQ f q).filter fun s => decide (thenT q.o s = r)
section
variable {f : SF} {q : QS}
theorem QS.Ok.oAt {c : Cat} (hq : q.Ok c) {k : Int} (hk : k ∈ q.o) : (0 ≤ k ∧ k.toNat < q.v.length) ∧ 0 ≤ ix q.v k ∧ ix q.v k < c.objs := by
 have h := hq.ov k hk
 have h2 : k.toNat < q.v.length := by omega
 exact ⟨⟨h.1, h2⟩, hq.vo _ (ix_mem h2)⟩
theorem szO_bd (h : f.Is) (hq : q.Ok f.shape) : ∀ a, a ∈ szO f q → 0 ≤ a ∧ a ≤ 16 := by
 intro a ha
 obtain ⟨k, hk, rfl⟩ := List.mem_map.mp ha
 have := h.1.sizeAt (hq.oAt hk).2
 omega
theorem sol_at {s : List Int} (hs : InB (szT f q.v) s) {k : Int} (hk : 0 ≤ k ∧ k.toNat < q.v.length) : 0 ≤ ix s k ∧ ix s k < ix f.sizes (ix q.v k) := by
 have := hs.at k.toNat (by rw [szT_len]; exact hk.2)
 rw [szT, map_getD _ hk.2] at this
 exact this
theorem then_in (hq : q.Ok f.shape) {s : List Int} (hs : InB (szT f q.v) s) : InB (szO f q) (thenT q.o s) := by
 refine .of (by simp [szO, thenT]) fun i hi => ?_
 have hi' : i < q.o.length := by simpa [szO] using hi
 have hk : q.o.getD i default ∈ q.o := mem_getD.mpr ⟨i, hi', rfl⟩
 rw [thenT, szO, map_getD _ hi', map_getD _ hi']
 exact sol_at hs (hq.oAt hk).1
theorem mem_rowsQ (h : f.Is) (hq : q.Ok f.shape) {t : List Int} : t ∈ rowsQ f q ↔ ∃ s, s ∈ solQ f q ∧ thenT q.o s = t := by
 rw [rowsQ, List.mem_filter, mem_tupL fun a ha => (szO_bd h hq a ha).1, dec_iff]
 constructor
 ·exact fun h => h.2
 ·rintro ⟨s, hs, rfl⟩
  exact ⟨then_in hq ((mem_solQ h hq).mp hs).1, s, hs, rfl⟩
theorem rowsQ_sorted (h : f.Is) (hq : q.Ok f.shape) : (rowsQ f q).Pairwise fun a b => cmp a b < 0 := (tupL_sorted fun a ha => (szO_bd h hq a ha).1).sublist List.filter_sublist
def movT (q : QS) (m : List (List Int)) (s : List Int) : List Int := (List.range q.v.length).map fun i : Nat => ix (ix m (q.v.getD i default)) (s.getD i default)
theorem movT_ix {m : List (List Int)} {s : List Int} {k : Int} (hk : 0 ≤ k ∧ k.toNat < q.v.length) : ix (movT q m s) k = ix (ix m (ix q.v k)) (ix s k) := by
 rw [ix, movT, getD_map_range _ _ hk.2]; rfl
theorem movT_sol {g : SF} (hf : f.Is) (hg : g.Is) (e : f.shape = g.shape) (hq : q.Ok f.shape) {m : List (List Int)} (hm : MapL f g m) {s : List Int} (hs : s ∈ solQ f q) : movT q m s ∈ solQ g q := by
 obtain ⟨h1, h2⟩ := (mem_solQ hf hq).mp hs
 have hq' : q.Ok g.shape := e ▸ hq
 refine (mem_solQ hg hq').mpr ⟨.of (by rw [szT_len]; simp [movT]) fun i hi => ?_, fun i hi => ?_⟩
 ·rw [szT_len] at hi
  have hk : 0 ≤ (i : Int) ∧ (i : Int).toNat < q.v.length := ⟨by omega, by simpa using hi⟩
  have h3 := sol_at h1 hk
  have h4 := (hm.pl (ix q.v i) (hq.vo _ (ix_mem hk.2))).2 (ix s i) h3
  rw [szT, map_getD _ hi, movT, getD_map_range _ _ hi]
  rw [ix_nat, ix_nat] at h4
  exact h4
 ·have h3 := h2 i hi
  obtain ⟨ha, hb, eab⟩ := hq.cond i hi
  simp only [holdT] at h3 ⊢
  rw [movT_ix ha.1, movT_ix hb.1, ← ha.2.2, ← hb.2.2]
  have ra := sol_at h1 ha.1
  have rb := sol_at h1 hb.1
  rw [← ha.2.2] at ra
  rw [← hb.2.2] at rb
  rw [← hm.nl _ ha.2.1 _ ra, ← hm.nl _ hb.2.1 _ rb, h3, eab]
end
end Go.Shf
namespace Go.Shf
open Go.AW
section
variable {c : Cat} {q : QS} {G f : SF} {cls : Int × Int → Int}
inductive EqC (c : Cat) (q : QS) : Int × Int → Int × Int → Prop
 | gen (i : Nat) (k : Int) : i < q.l.length → 0 ≤ k ∧ k.toNat < c.frm.length → ix c.to (q.l.getD i default).2 = ix c.frm k →
   EqC c q ((q.l.getD i default).1, ix (ix c.comp (q.l.getD i default).2) k) ((q.r.getD i default).1, ix (ix c.comp (q.r.getD i default).2) k)
 | refl (p) : EqC c q p p
 | symm {p p'} : EqC c q p p' → EqC c q p' p
 | trans {p p' p''} : EqC c q p p' → EqC c q p' p'' → EqC c q p p''
theorem TermOk.comp (h : c.Is) {p : Int × Int} (hp : TermOk c q.v p) {a : Int} (ha : 0 ≤ a ∧ a.toNat < c.frm.length) (e : ix c.to p.2 = ix c.frm a) :
  TermOk c q.v (p.1, ix (ix c.comp p.2) a) ∧ ix c.to (ix (ix c.comp p.2) a) = ix c.to a := by
 have := h.1.comp hp.2.1 ha e
 exact ⟨⟨hp.1, this.1, this.2.1.trans hp.2.2⟩, this.2.2⟩
theorem EqC.ok (h : c.Is) (hq : q.Ok c) {p p' : Int × Int} (e : EqC c q p p') : (TermOk c q.v p ↔ TermOk c q.v p') ∧ ix c.to p.2 = ix c.to p'.2 := by
 induction e with
 | gen i k hi hk ek =>
  obtain ⟨ha, hb, eab⟩ := hq.cond i hi
  have h1 := ha.comp h hk ek
  have h2 := hb.comp h hk (eab ▸ ek)
  exact ⟨⟨fun _ => h2.1, fun _ => h1.1⟩, h1.2.trans h2.2.symm⟩
 | refl p => exact ⟨.rfl, rfl⟩
 | symm _ ih => exact ⟨ih.1.symm, ih.2.symm⟩
 | trans _ _ ih1 ih2 => exact ⟨ih1.1.trans ih2.1, ih1.2.trans ih2.2⟩
theorem EqC.act (h : c.Is) (hq : q.Ok c) {p p' : Int × Int} (e : EqC c q p p') {a : Int} (ha : 0 ≤ a ∧ a.toNat < c.frm.length) (ea : ix c.to p.2 = ix c.frm a) :
  EqC c q (p.1, ix (ix c.comp p.2) a) (p'.1, ix (ix c.comp p'.2) a) := by
 induction e with
 | gen i k hi hk ek =>
  obtain ⟨hl, hr, eab⟩ := hq.cond i hi
  have h1 := hl.comp h hk ek
  have ea' : ix c.to k = ix c.frm a := h1.2.symm.trans ea
  have hka := h.1.comp hk ha ea'
  have := EqC.gen (c := c) (q := q) i (ix (ix c.comp k) a) hi hka.1 (ek.trans hka.2.1.symm)
  rw [← h.assoc hl.2.1 hk ha ek ea', ← h.assoc hr.2.1 hk ha (eab ▸ ek) ea'] at this
  exact this
 | refl p => exact .refl _
 | symm e ih => exact (ih ((e.ok h hq).2.trans ea)).symm
 | trans e1 e2 ih1 ih2 => exact (ih1 ea).trans (ih2 ((e1.ok h hq).2.symm.trans ea))
def valT (f : SF) (t : List Int) (p : Int × Int) : Int := ix (ix f.acts p.2) (ix t p.1)
theorem valT_comp (hf : f.Is) (hq : q.Ok f.shape) {t : List Int} (ht : InB (szT f q.v) t) {p : Int × Int} (hp : TermOk f.shape q.v p) {a : Int} (ha : 0 ≤ a ∧ a.toNat < f.shape.frm.length) (e : ix f.shape.to p.2 = ix f.shape.frm a) :
  valT f t (p.1, ix (ix f.shape.comp p.2) a) = ix (ix f.acts a) (valT f t p) := by
 have h1 := (term_in hf hq ht hp).2.2
 exact hf.compL p.2 a hp.2.1 ha e (ix t p.1) h1
theorem valT_in (hf : f.Is) (hq : q.Ok f.shape) {t : List Int} (ht : InB (szT f q.v) t) {p : Int × Int} (hp : TermOk f.shape q.v p) : 0 ≤ valT f t p ∧ valT f t p < ix f.sizes (ix f.shape.to p.2) := by
 have h1 := sol_at ht hp.1
 rw [← hp.2.2] at h1
 exact hf.1.actTo hp.2.1 h1
theorem EqC.val (hf : f.Is) (hq : q.Ok f.shape) {t : List Int} (ht : t ∈ solQ f q) {p p' : Int × Int} (e : EqC f.shape q p p') : valT f t p = valT f t p' := by
 obtain ⟨h1, h2⟩ := (mem_solQ hf hq).mp ht
 induction e with
 | gen i k hi hk ek =>
  obtain ⟨hl, hr, eab⟩ := hq.cond i hi
  rw [valT_comp hf hq h1 hl hk ek, valT_comp hf hq h1 hr hk (eab ▸ ek)]
  exact congrArg _ (h2 i hi)
 | refl p => rfl
 | symm _ ih => exact ih.symm
 | trans _ _ ih1 ih2 => exact ih1.trans ih2
structure CanonOk (c : Cat) (q : QS) (G : SF) (cls : Int × Int → Int) : Prop where
 sh : G.shape = c
 sl : (G.sizes.length : Int) = c.objs
 al : G.acts.length = c.frm.length
 sz : ∀ y, y ∈ G.sizes → 0 ≤ y ∧ y < 17
 len : ∀ a : Int, 0 ≤ a ∧ a.toNat < c.frm.length → ((ix G.acts a).length : Int) = ix G.sizes (ix c.frm a)
 rng : ∀ p, TermOk c q.v p → 0 ≤ cls p ∧ cls p < ix G.sizes (ix c.to p.2)
 surj : ∀ y e : Int, 0 ≤ y ∧ y < c.objs → 0 ≤ e ∧ e < ix G.sizes y → ∃ p, TermOk c q.v p ∧ ix c.to p.2 = y ∧ cls p = e
 act : ∀ p, TermOk c q.v p → ∀ a : Int, 0 ≤ a ∧ a.toNat < c.frm.length → ix c.to p.2 = ix c.frm a → ix (ix G.acts a) (cls p) = cls (p.1, ix (ix c.comp p.2) a)
 rel : ∀ p p', TermOk c q.v p → TermOk c q.v p' → ix c.to p.2 = ix c.to p'.2 → (cls p = cls p' ↔ EqC c q p p')
theorem CanonOk.is (k : CanonOk c q G cls) (h : c.Is) : G.Is := by
 obtain ⟨rfl, sl, al, sz, len, rng, surj, act, rel⟩ := k
 refine ⟨⟨h, sl, al, sz, fun a ha => ?_⟩, ⟨fun x hx e he => ?_, fun a b ha hb hab e he => ?_⟩⟩
 ·have ha' : 0 ≤ (a : Int) ∧ (a : Int).toNat < G.shape.frm.length := by omega
  have hl := len a ha'
  rw [ix_nat, ix_nat] at hl
  refine ⟨hl, fun y hy => ?_⟩
  obtain ⟨e, he, rfl⟩ := mem_getD.mp hy
  have hf := h.1.frmObj ha'.2
  obtain ⟨p, hp, ep, e2⟩ := surj (ix G.shape.frm a) e hf (by rw [ix_nat]; omega)
  have h1 := act p hp a ha' ep
  have h2 := hp.comp h ha' ep
  have h3 := rng _ h2.1
  rw [h2.2, ← h1, e2, ix_nat, ix_nat, ix_nat G.shape.to a] at h3
  exact h3
 ·have hil := h.1.il
  have hxo : 0 ≤ (x : Int) ∧ (x : Int) < G.shape.objs := by omega
  obtain ⟨i1, i2, i3⟩ := h.1.idArr hxo
  have e0 : ix G.shape.idn (x : Int) = G.shape.idn.getD x default := ix_nat _ _
  rw [← e0] at he ⊢
  have hl := len _ i1
  rw [i2] at hl
  obtain ⟨p, hp, ep, e2⟩ := surj x e hxo (by omega)
  have h1 := act p hp _ i1 (ep.trans i2.symm)
  rw [e2, ix_nat, ← ep, h.idr hp.2.1, e2] at h1
  rw [← ep]; exact h1
 ·have ha' : 0 ≤ (a : Int) ∧ (a : Int).toNat < G.shape.frm.length := by omega
  have hb' : 0 ≤ (b : Int) ∧ (b : Int).toNat < G.shape.frm.length := by omega
  have hf := h.1.frmObj ha'.2
  have hl := len a ha'
  rw [ix_nat, ix_nat] at hl
  have hab' : ix G.shape.to (a : Int) = ix G.shape.frm (b : Int) := by rw [ix_nat, ix_nat]; exact hab
  obtain ⟨p, hp, ep, e2⟩ := surj (ix G.shape.frm a) e hf (by rw [ix_nat]; omega)
  have hc := h.1.comp ha' hb' hab'
  have h1 := act p hp a ha' ep
  have hpa := hp.comp h ha' ep
  have h2 := act _ hpa.1 b hb' (hpa.2.trans hab')
  have h3 := act p hp _ hc.1 (ep.trans hc.2.1.symm)
  simp only at h2
  rw [← h1, h.assoc hp.2.1 ha' hb' ep hab', ← h3, e2] at h2
  simp only [ix_nat] at h2
  exact h2.symm
def genT (c : Cat) (q : QS) (cls : Int × Int → Int) : List Int := (List.range q.v.length).map fun i : Nat => cls ((i : Int), ix c.idn (q.v.getD i default))
theorem genT_ix {i : Int} (hi : 0 ≤ i ∧ i.toNat < q.v.length) : ix (genT c q cls) i = cls (i, ix c.idn (ix q.v i)) := by
 rw [ix, genT, getD_map_range _ _ hi.2, Int.toNat_of_nonneg hi.1]; rfl
theorem QS.Ok.vAt (hq : q.Ok c) {i : Int} (hi : 0 ≤ i ∧ i.toNat < q.v.length) : 0 ≤ ix q.v i ∧ ix q.v i < c.objs := hq.vo _ (ix_mem hi.2)
theorem id_term (h : c.Is) (hq : q.Ok c) {i : Int} (hi : 0 ≤ i ∧ i.toNat < q.v.length) : TermOk c q.v (i, ix c.idn (ix q.v i)) ∧ ix c.to (ix c.idn (ix q.v i)) = ix q.v i := by
 have := h.1.idArr (hq.vAt hi)
 exact ⟨⟨hi, this.1, this.2.1⟩, this.2.2⟩
theorem CanonOk.term (k : CanonOk c q G cls) (h : c.Is) (hq : q.Ok c) {p : Int × Int} (hp : TermOk c q.v p) : valT G (genT c q cls) p = cls p := by
 have hi := id_term h hq hp.1
 have := k.act _ hi.1 p.2 hp.2.1 (hi.2.trans hp.2.2.symm)
 rw [valT, genT_ix hp.1, this, ← hp.2.2, h.idl hp.2.1]
theorem CanonOk.genIn (k : CanonOk c q G cls) (h : c.Is) (hq : q.Ok c) : InB (szT G q.v) (genT c q cls) := by
 refine .of (by simp [genT, szT]) fun i hi => ?_
 rw [szT_len] at hi
 have hi' : 0 ≤ (i : Int) ∧ (i : Int).toNat < q.v.length := by omega
 have ht := id_term h hq hi'
 have := k.rng _ ht.1
 simp only at this
 rw [ht.2, ← genT_ix (c := c) (cls := cls) hi', ix_nat, ix_nat q.v] at this
 rw [szT, map_getD _ hi]; exact this
theorem CanonOk.gen (k : CanonOk c q G cls) (h : c.Is) (hq : q.Ok c) : genT c q cls ∈ solQ G q := by
 have hG := k.is h
 have hq' : q.Ok G.shape := by rw [k.sh]; exact hq
 refine (mem_solQ hG hq').mpr ⟨k.genIn h hq, fun i hi => ?_⟩
 obtain ⟨ha, hb, eab⟩ := hq.cond i hi
 have hid := h.1.idArr (h.1.toObj ha.2.1.2)
 have e := EqC.gen (c := c) (q := q) i _ hi hid.1 hid.2.1.symm
 rw [h.idr ha.2.1, eab, h.idr hb.2.1] at e
 have e2 := (k.rel _ _ ha hb eab).mpr e
 have := (k.term h hq ha).trans (e2.trans (k.term h hq hb).symm)
 exact this
open Classical in
/-- The natural map of a solution. -/
noncomputable def mapC (c : Cat) (q : QS) (G f : SF) (cls : Int × Int → Int) (t : List Int) : List (List Int) :=
 (List.range G.sizes.length).map fun y : Nat => (List.range (G.sizes.getD y default).toNat).map fun e : Nat =>
  if h : ∃ p, TermOk c q.v p ∧ ix c.to p.2 = y ∧ cls p = e then valT f t (Classical.choose h) else 0
open Classical in
theorem mapC_row {t : List Int} {y : Int} (hy : y.toNat < G.sizes.length) : ix (mapC c q G f cls t) y = (List.range (G.sizes.getD y.toNat default).toNat).map fun e : Nat =>
  if h : ∃ p, TermOk c q.v p ∧ ix c.to p.2 = ((y.toNat : Nat) : Int) ∧ cls p = e then valT f t (Classical.choose h) else 0 := by
 rw [ix, mapC, getD_map_range _ _ hy]
theorem mapC_ix (k : CanonOk c q G cls) (hf : f.Is) (sh : f.shape = c) (hq : q.Ok c) {t : List Int} (ht : t ∈ solQ f q) {p : Int × Int} (hp : TermOk c q.v p) :
  ix (ix (mapC c q G f cls t) (ix c.to p.2)) (cls p) = valT f t p := by
 subst sh
 have ho := hf.1.is.1.toObj hp.2.1.2
 have hr := k.rng p hp
 have hsl := k.sl
 have hy : (ix f.shape.to p.2).toNat < G.sizes.length := by omega
 have hz : ix G.sizes (ix f.shape.to p.2) = G.sizes.getD (ix f.shape.to p.2).toNat default := rfl
 have hex : ∃ p', TermOk f.shape q.v p' ∧ ix f.shape.to p'.2 = (((ix f.shape.to p.2).toNat : Nat) : Int) ∧ cls p' = (((cls p).toNat : Nat) : Int) := ⟨p, hp, by omega, by omega⟩
 rw [mapC_row hy, ix, getD_map_range _ _ (by omega), dif_pos hex]
 obtain ⟨h1, h2, h3⟩ := Classical.choose_spec hex
 have h2' : ix f.shape.to (Classical.choose hex).2 = ix f.shape.to p.2 := by rw [h2]; omega
 have h3' : cls (Classical.choose hex) = cls p := by rw [h3]; omega
 exact ((k.rel _ _ h1 hp h2').mp h3').val hf hq ht
theorem mapC_map (k : CanonOk c q G cls) (hf : f.Is) (sh : f.shape = c) (hq : q.Ok c) {t : List Int} (ht : t ∈ solQ f q) : MapL G f (mapC c q G f cls t) := by
 have hc : c.Is := sh ▸ hf.1.is
 have htb := ((mem_solQ hf (sh ▸ hq)).mp ht).1
 refine ⟨by rw [mapC, List.length_map, List.length_range, k.sh]; exact k.sl, fun x hx => ?_, fun b hb e he => ?_⟩
 ·rw [k.sh] at hx
  have hsl := k.sl
  have hy : x.toNat < G.sizes.length := by omega
  have hz : ix G.sizes x = G.sizes.getD x.toNat default := rfl
  have hz0 := k.sz _ (mem_getD.mpr ⟨x.toNat, hy, rfl⟩)
  refine ⟨by rw [mapC_row hy, List.length_map, List.length_range]; omega, fun e he => ?_⟩
  obtain ⟨p, hp, ep, e2⟩ := k.surj x e hx he
  subst ep; subst e2
  rw [mapC_ix k hf sh hq ht hp]
  subst sh
  exact valT_in hf hq htb hp
 ·rw [k.sh] at hb he ⊢
  obtain ⟨p, hp, ep, e2⟩ := k.surj _ e (hc.1.frmObj hb.2) he
  subst e2
  have hpb := hp.comp hc hb ep
  rw [k.act p hp b hb ep, ← ep, mapC_ix k hf sh hq ht hp, ← hpb.2]
  have := mapC_ix k hf sh hq ht hpb.1
  simp only at this
  rw [this]
  subst sh
  exact valT_comp hf hq htb hp hb ep
theorem mov_mapC (k : CanonOk c q G cls) (hf : f.Is) (sh : f.shape = c) (hq : q.Ok c) {t : List Int} (ht : t ∈ solQ f q) : movT q (mapC c q G f cls t) (genT c q cls) = t := by
 have hc : c.Is := sh ▸ hf.1.is
 have htb := ((mem_solQ hf (sh ▸ hq)).mp ht).1
 have htl := htb.len
 rw [szT_len] at htl
 refine List.ext_getElem (by simp [movT, htl]) fun i h1 h2 => ?_
 have hi : 0 ≤ (i : Int) ∧ (i : Int).toNat < q.v.length := by simpa [movT] using h1
 have hid := id_term hc hq hi
 have e1 : (movT q (mapC c q G f cls t) (genT c q cls))[i] = ix (movT q (mapC c q G f cls t) (genT c q cls)) (i : Int) := by simp [ix_nat, List.getD_eq_getElem?_getD, h1]
 have e2 : t[i] = ix t (i : Int) := by simp [ix_nat, List.getD_eq_getElem?_getD, h2]
 rw [e1, e2, movT_ix hi, genT_ix hi]
 have h3 := mapC_ix k hf sh hq ht hid.1
 simp only at h3
 rw [hid.2] at h3
 rw [h3]
 subst sh
 have h4 := sol_at htb hi
 exact hf.idAct (hq.vAt hi) h4
end
end Go.Shf
namespace Go.Shf
open Go.AW
inductive Root (j : List Int) : Int → Int → Prop
 | here (x) : ix j x = x → Root j x x
 | up (x r) : ix j x ≠ x → Root j (ix j x) r → Root j x r
theorem Root.uniq {j : List Int} {x r s : Int} (h : Root j x r) (k : Root j x s) : r = s := by
 induction h with
 | here x e =>
  cases k with
  | here _ _ => rfl
  | up _ _ ne _ => exact absurd e ne
 | up x r ne _ ih =>
  cases k with
  | here _ e => exact absurd e ne
  | up _ _ _ k => exact ih k
theorem Root.at {j : List Int} {x r : Int} (h : Root j x r) : ix j r = r := by
 induction h with
 | here x e => exact e
 | up x r _ _ ih => exact ih
theorem Root.next {j : List Int} {x r : Int} (h : Root j x r) : Root j (ix j x) r := by
 cases h with
 | here _ e => rw [e]; exact .here _ e
 | up _ _ _ h => exact h
theorem Root.prev {j : List Int} {x r : Int} (h : Root j (ix j x) r) : Root j x r := by
 by_cases e : ix j x = x
 ·rwa [e] at h
 ·exact .up _ _ e h
def InR (n : Nat) (x : Int) : Prop := 0 ≤ x ∧ x.toNat < n
structure UF (j : List Int) : Prop where
 le : ∀ x : Int, InR j.length x → 0 ≤ ix j x ∧ ix j x ≤ x
section
variable {j : List Int} {n : Nat}
theorem UF.inR (u : UF j) {x : Int} (hx : InR j.length x) : InR j.length (ix j x) := by
 have := u.le x hx; have h := hx.2; exact ⟨this.1, by omega⟩
theorem UF.root (u : UF j) : ∀ (k : Nat) (x : Int), x.toNat ≤ k → InR j.length x → ∃ r, Root j x r ∧ InR j.length r ∧ r ≤ x := by
 intro k
 induction k with
 | zero =>
  intro x hk hx
  have := u.le x hx
  have hx1 := hx.1
  exact ⟨x, .here x (by omega), hx, Int.le_refl _⟩
 | succ k ih =>
  intro x hk hx
  by_cases e : ix j x = x
  ·exact ⟨x, .here x e, hx, Int.le_refl _⟩
  ·have hl := u.le x hx
   obtain ⟨r, h1, h2, h3⟩ := ih (ix j x) (by omega) (u.inR hx)
   exact ⟨r, .up x r e h1, h2, by omega⟩
theorem UF.rootAt (u : UF j) {x : Int} (hx : InR j.length x) : ∃ r, Root j x r ∧ InR j.length r ∧ r ≤ x := u.root x.toNat x (Nat.le_refl _) hx
theorem ix_set_same {a b : Int} (ha : InR j.length a) : ix (j.set a.toNat b) a = b := by
 have := ha.2
 simp [ix, List.getD_eq_getElem?_getD, this]
theorem ix_set_other {a b x : Int} (ha : 0 ≤ a) (hx : 0 ≤ x) (ne : x ≠ a) : ix (j.set a.toNat b) x = ix j x := by
 have : a.toNat ≠ x.toNat := by omega
 simp [ix, List.getD_eq_getElem?_getD, List.getElem?_set_ne this]
theorem UF.halve (u : UF j) {x : Int} (hx : InR j.length x) : UF (j.set x.toNat (ix j (ix j x))) ∧ ∀ y r, InR j.length y → Root j y r → Root (j.set x.toNat (ix j (ix j x))) y r := by
 have h1 := u.le x hx
 have h2 := u.le _ (u.inR hx)
 refine ⟨⟨fun y hy => ?_⟩, ?_⟩
 ·have hy' : InR j.length y := by simpa [InR] using hy
  by_cases e : y = x
  ·subst e; rw [ix_set_same hx]; omega
  ·rw [ix_set_other hx.1 hy'.1 e]; exact u.le y hy'
 ·have key : ∀ k : Nat, ∀ y r, y.toNat ≤ k → InR j.length y → Root j y r → Root (j.set x.toNat (ix j (ix j x))) y r := by
   intro k
   induction k with
   | zero =>
    intro y r hk hy h
    have hl := u.le y hy
    have hy1 := hy.1
    have e : ix j y = y := by omega
    have er := h.uniq (.here y e)
    subst er
    refine .here r ?_
    by_cases ex : r = x
    ·subst ex; rw [ix_set_same hx, e, e]
    ·rw [ix_set_other hx.1 hy.1 ex, e]
   | succ k ih =>
    intro y r hk hy h
    have hl := u.le y hy
    by_cases e : ix j y = y
    ·have er := h.uniq (.here y e)
     subst er
     refine .here r ?_
     by_cases ex : r = x
     ·subst ex; rw [ix_set_same hx, e, e]
     ·rw [ix_set_other hx.1 hy.1 ex, e]
    ·by_cases ex : y = x
     ·subst ex
      refine .prev ?_
      rw [ix_set_same hx]
      exact ih _ r (by omega) (u.inR (u.inR hx)) h.next.next
     ·refine .prev ?_
      rw [ix_set_other hx.1 hy.1 ex]
      exact ih _ r (by omega) (u.inR hy) h.next
  exact fun y r hy h => key y.toNat y r (Nat.le_refl _) hy h
theorem UF.link (u : UF j) {a b : Int} (ha : InR j.length a) (hb : InR j.length b) (ea : ix j a = a) (eb : ix j b = b) (hba : b ≤ a) :
  UF (j.set a.toNat b) ∧ ∀ y r, InR j.length y → Root j y r → Root (j.set a.toNat b) y (if r = a then b else r) := by
 have hbb : ix (j.set a.toNat b) b = b := by
  by_cases e : b = a
  ·subst e; exact ix_set_same hb
  ·rw [ix_set_other ha.1 hb.1 e, eb]
 refine ⟨⟨fun y hy => ?_⟩, ?_⟩
 ·have hy' : InR j.length y := by simpa [InR] using hy
  by_cases e : y = a
  ·subst e; rw [ix_set_same ha]; exact ⟨hb.1, hba⟩
  ·rw [ix_set_other ha.1 hy'.1 e]; exact u.le y hy'
 ·intro y r hy h
  induction h with
  | here x e =>
   by_cases ex : x = a
   ·subst ex
    rw [if_pos rfl]
    refine .prev ?_
    rw [ix_set_same ha]; exact .here b hbb
   ·rw [if_neg ex]
    refine .here x ?_
    rw [ix_set_other ha.1 hy.1 ex, e]
  | up x r ne _ ih =>
   have ex : x ≠ a := fun e => ne (by rw [e, ea])
   refine .prev ?_
   rw [ix_set_other ha.1 hy.1 ex]
   exact ih (u.inR hy)
inductive EqN (N : List (Int × Int)) : Int → Int → Prop
 | gen (x y) : (x, y) ∈ N → EqN N x y
 | refl (x) : EqN N x x
 | symm {x y} : EqN N x y → EqN N y x
 | trans {x y z} : EqN N x y → EqN N y z → EqN N x z
theorem EqN.mono {N M : List (Int × Int)} (h : ∀ p, p ∈ N → p ∈ M) {x y : Int} (e : EqN N x y) : EqN M x y := by
 induction e with
 | gen x y hm => exact .gen x y (h _ hm)
 | refl x => exact .refl x
 | symm _ ih => exact ih.symm
 | trans _ _ h1 h2 => exact h1.trans h2
structure JoinOk (n : Nat) (N : List (Int × Int)) (j : List Int) : Prop where
 uf : UF j
 len : j.length = n
 inN : ∀ p, p ∈ N → InR n p.1 ∧ InR n p.2
 same : ∀ x y r s, InR n x → InR n y → Root j x r → Root j y s → (r = s ↔ EqN N x y)
theorem JoinOk.start (n : Nat) : JoinOk n [] ((List.range n).map Int.ofNat) where
 uf := ⟨fun x hx => by
  have hx2 : x.toNat < n := by simpa using hx.2
  have hx1 := hx.1
  rw [ix, getD_map_range _ _ hx2]
  simp only [Int.ofNat_eq_natCast]; omega⟩
 len := by simp
 inN p hp := by simp at hp
 same x y r s hx hy h1 h2 := by
  have e : ∀ z, InR n z → ix ((List.range n).map Int.ofNat) z = z := fun z hz => by
   have := hz.1
   rw [ix, getD_map_range _ _ hz.2]; simp only [Int.ofNat_eq_natCast]; omega
  have er := h1.uniq (.here x (e x hx))
  have es := h2.uniq (.here y (e y hy))
  subst er; subst es
  constructor
  ·intro e; subst e; exact .refl _
  ·intro e
   have : ∀ u v, EqN [] u v → u = v := by
    intro u v k
    induction k with
    | gen x y hm => simp at hm
    | refl x => rfl
    | symm _ ih => exact ih.symm
    | trans _ _ h1 h2 => exact h1.trans h2
   exact this _ _ e
theorem JoinOk.halve {N : List (Int × Int)} (k : JoinOk n N j) {x : Int} (hx : InR n x) : JoinOk n N (j.set x.toNat (ix j (ix j x))) ∧ ∀ y r, InR n y → Root j y r → Root (j.set x.toNat (ix j (ix j x))) y r := by
 have hx' : InR j.length x := by rw [k.len]; exact hx
 obtain ⟨h1, h2⟩ := k.uf.halve hx'
 rw [k.len] at h2
 refine ⟨⟨h1, by rw [List.length_set]; exact k.len, k.inN, fun y z r s hy hz hr hs => ?_⟩, h2⟩
 obtain ⟨r', hr', _⟩ := k.uf.rootAt (x := y) (by rw [k.len]; exact hy)
 obtain ⟨s', hs', _⟩ := k.uf.rootAt (x := z) (by rw [k.len]; exact hz)
 have er := hr.uniq (h2 y r' hy hr')
 have es := hs.uniq (h2 z s' hz hs')
 subst er; subst es
 exact k.same y z _ _ hy hz hr' hs'
theorem JoinOk.link {N : List (Int × Int)} (k : JoinOk n N j) {x y a b : Int} (hx : InR n x) (hy : InR n y) (ha : Root j x a) (hb : Root j y b) :
  JoinOk n (N ++ [(x, y)]) (j.set (max a b).toNat (min a b)) := by
 have inr : ∀ {z r}, InR n z → Root j z r → InR j.length r := fun {z r} hz hr => by
  obtain ⟨r', hr', h, _⟩ := k.uf.rootAt (x := z) (by rw [k.len]; exact hz)
  rw [hr.uniq hr']; exact h
 have hA := inr hx ha
 have hB := inr hy hb
 have hmx : InR j.length (max a b) ∧ ix j (max a b) = max a b := by
  rcases Int.le_total a b with h | h
  ·rw [Int.max_eq_right h]; exact ⟨hB, hb.at⟩
  ·rw [Int.max_eq_left h]; exact ⟨hA, ha.at⟩
 have hmn : InR j.length (min a b) ∧ ix j (min a b) = min a b := by
  rcases Int.le_total a b with h | h
  ·rw [Int.min_eq_left h]; exact ⟨hA, ha.at⟩
  ·rw [Int.min_eq_right h]; exact ⟨hB, hb.at⟩
 obtain ⟨h1, h2⟩ := k.uf.link hmx.1 hmn.1 hmx.2 hmn.2 (by omega)
 rw [k.len] at h2
 refine ⟨h1, by rw [List.length_set]; exact k.len, fun p hp => ?_, fun u v r s hu hv hr hs => ?_⟩
 ·rcases List.mem_append.mp hp with h | h
  ·exact k.inN p h
  ·simp only [List.mem_singleton] at h; subst h; exact ⟨hx, hy⟩
 ·obtain ⟨r', hr', _⟩ := k.uf.rootAt (x := u) (by rw [k.len]; exact hu)
  obtain ⟨s', hs', _⟩ := k.uf.rootAt (x := v) (by rw [k.len]; exact hv)
  have er := hr.uniq (h2 u r' hu hr')
  have es := hs.uniq (h2 v s' hv hs')
  subst er; subst es
  clear hr hs
  have up : ∀ {p q : Int}, EqN N p q → EqN (N ++ [(x, y)]) p q := fun e => e.mono fun p hp => List.mem_append_left _ hp
  have xy : EqN (N ++ [(x, y)]) x y := .gen _ _ (by simp)
  constructor
  ·intro e
   by_cases c : r' = s'
   ·exact up ((k.same u v r' s' hu hv hr' hs').mp c)
   ·have ux : r' = a → EqN (N ++ [(x, y)]) u x := fun e => up ((k.same u x r' a hu hx hr' ha).mp e)
    have uy : r' = b → EqN (N ++ [(x, y)]) u y := fun e => up ((k.same u y r' b hu hy hr' hb).mp e)
    have vx : s' = a → EqN (N ++ [(x, y)]) v x := fun e => up ((k.same v x s' a hv hx hs' ha).mp e)
    have vy : s' = b → EqN (N ++ [(x, y)]) v y := fun e => up ((k.same v y s' b hv hy hs' hb).mp e)
    have : (r' = a ∧ s' = b) ∨ (r' = b ∧ s' = a) := by
     split at e <;> split at e <;> omega
    rcases this with ⟨e1, e2⟩ | ⟨e1, e2⟩
    ·exact (ux e1).trans (xy.trans (vy e2).symm)
    ·exact (uy e1).trans (xy.symm.trans (vx e2).symm)
  ·intro e
   have key : ∀ u v, EqN (N ++ [(x, y)]) u v → ∀ r s, InR n u → InR n v → Root j u r → Root j v s → (if r = max a b then min a b else r) = if s = max a b then min a b else s := by
    intro u v e
    induction e with
    | gen p q hm =>
     intro r s hu hv hr hs
     rcases List.mem_append.mp hm with h | h
     ·rw [(k.same p q r s hu hv hr hs).mpr (.gen _ _ h)]
     ·simp only [List.mem_singleton, Prod.mk.injEq] at h
      obtain ⟨rfl, rfl⟩ := h
      have e1 := hr.uniq ha
      have e2 := hs.uniq hb
      subst e1; subst e2
      split <;> split <;> omega
    | refl p => intro r s _ _ hr hs; rw [hr.uniq hs]
    | symm _ ih => intro r s hu hv hr hs; exact (ih s r hv hu hs hr).symm
    | trans e1 e2 ih1 ih2 =>
     rename_i p q t
     intro r s hu hv hr hs
     by_cases hq : InR n q
     ·obtain ⟨w, hw, _⟩ := k.uf.rootAt (x := q) (by rw [k.len]; exact hq)
      exact (ih1 r w hu hq hr hw).trans (ih2 w s hq hv hw hs)
     ·exfalso
      have : ∀ u v, EqN (N ++ [(x, y)]) u v → (InR n u ↔ InR n v) := by
       intro u v e
       induction e with
       | gen p q hm =>
        rcases List.mem_append.mp hm with h | h
        ·exact ⟨fun _ => (k.inN _ h).2, fun _ => (k.inN _ h).1⟩
        ·simp only [List.mem_singleton, Prod.mk.injEq] at h
         obtain ⟨rfl, rfl⟩ := h
         exact ⟨fun _ => hy, fun _ => hx⟩
       | refl p => exact .rfl
       | symm _ ih => exact ih.symm
       | trans _ _ h1 h2 => exact h1.trans h2
      exact hq ((this _ _ e1).mp hu)
   exact key u v e r' s' hu hv hr' hs'
end
end Go.Shf
namespace Go.Shf
open Go.AW
section
variable {c : Cat} {q : QS}
theorem snoc_ind {P : List Int → Prop} (h0 : P []) (h1 : ∀ l v, P l → P (l ++ [v])) : ∀ (k : Nat) (l : List Int), l.length = k → P l
 | 0, l, h => by rw [List.length_eq_zero_iff] at h; subst h; exact h0
 | k + 1, l, h => by
  have hne : l ≠ [] := fun e => by rw [e] at h; simp at h
  obtain ⟨r, x, rfl⟩ : ∃ r x, l = r ++ [x] := ⟨l.dropLast, l.getLast hne, (List.dropLast_concat_getLast hne).symm⟩
  exact h1 r x (snoc_ind h0 h1 k r (by simpa using h))
theorem seenL_nodup (l : List Int) : (seenL l).Nodup := by
 refine snoc_ind (P := fun l => (seenL l).Nodup) (by simp [seenL]) (fun l v ih => ?_) _ l rfl
 rw [seenL_snoc]
 split
 ·exact ih
 ·rename_i h
  refine List.nodup_append.mpr ⟨ih, by simp, fun a ha b hb e => ?_⟩
  simp only [List.mem_singleton] at hb
  subst hb; subst e; exact h ha
theorem mxL_class (l : List Int) : mxL (classL l) = ((seenL l).length : Int) := by
 refine snoc_ind (P := fun l => mxL (classL l) = ((seenL l).length : Int)) (by simp [classL, mxL, seenL]) (fun l v ih => ?_) _ l rfl
 rw [classL_snoc, mxL_snoc, ih, seenL_snoc]
 by_cases h : v ∈ seenL l
 ·have := indexOf_in h
  rw [if_pos h, if_neg (by omega)]
 ·rw [if_neg h, indexOf_newT h, if_pos (by omega)]
  simp
def pairsC (c : Cat) (v : List Int) : List (Int × Int) := (List.range v.length).flatMap fun i : Nat => (outs c (v.getD i default)).map fun h => ((i : Int), h)
theorem mem_pairsC {v : List Int} {p : Int × Int} : p ∈ pairsC c v ↔ TermOk c v p := by
 simp only [pairsC, List.mem_flatMap, List.mem_range, List.mem_map, mem_outs]
 constructor
 ·rintro ⟨i, hi, h, ⟨h1, h2, h3⟩, rfl⟩
  exact ⟨⟨by simp, by simpa using hi⟩, ⟨h1, h2⟩, by simp only [ix_nat]; exact h3⟩
 ·rintro ⟨⟨h1, h2⟩, ⟨h3, h4⟩, h5⟩
  refine ⟨p.1.toNat, h2, p.2, ⟨h3, h4, h5⟩, ?_⟩
  rw [Int.toNat_of_nonneg h1]
theorem nodup_flat {β : Type} (g : Nat → List β) (hn : ∀ i, (g i).Nodup) (hd : ∀ i k, i ≠ k → ∀ x, x ∈ g i → x ∉ g k) : ∀ n : Nat, ((List.range n).flatMap g).Nodup
 | 0 => by simp
 | n + 1 => by
  rw [List.range_succ, List.flatMap_append]
  refine List.nodup_append.mpr ⟨nodup_flat g hn hd n, by simpa using hn n, fun a ha b hb e => ?_⟩
  subst e
  obtain ⟨i, hi, hx⟩ := List.mem_flatMap.mp ha
  rw [List.mem_range] at hi
  simp only [List.flatMap_cons, List.flatMap_nil, List.append_nil] at hb
  exact hd i n (by omega) a hx hb
theorem pairsC_nodup (v : List Int) : (pairsC c v).Nodup := by
 refine nodup_flat _ (fun i => ?_) (fun i k hik x hx hx' => ?_) v.length
 ·refine List.pairwise_map.mpr ?_
  have : (outs c (v.getD i default)).Nodup := by
   rw [outs]
   refine List.pairwise_map.mpr ((List.nodup_range.sublist List.filter_sublist).imp fun {a b} h e => h ?_)
   exact Int.ofNat.inj e
  exact this.imp fun {a b} h e => h (Prod.mk.inj e).2
 ·obtain ⟨h, _, rfl⟩ := List.mem_map.mp hx
  obtain ⟨h', _, e⟩ := List.mem_map.mp hx'
  have := (Prod.mk.inj e).1; omega
def idxP (c : Cat) (v : List Int) (p : Int × Int) : Int := indexOf (pairsC c v) p
theorem idxP_in {v : List Int} {p : Int × Int} (h : TermOk c v p) : InR (pairsC c v).length (idxP c v p) ∧ ix (pairsC c v) (idxP c v p) = p := by
 have := indexOf_in (mem_pairsC.mpr h)
 exact ⟨⟨this.1, this.2.1⟩, this.2.2⟩
theorem idxP_inj {v : List Int} {p p' : Int × Int} (h : TermOk c v p) (h' : TermOk c v p') (e : idxP c v p = idxP c v p') : p = p' := by
 rw [← (idxP_in h).2, ← (idxP_in h').2, e]
def joinsC (c : Cat) (q : QS) : List ((Int × Int) × (Int × Int)) := (List.range q.l.length).flatMap fun i : Nat =>
 (outs c (ix c.to (q.l.getD i default).2)).map fun k => (((q.l.getD i default).1, ix (ix c.comp (q.l.getD i default).2) k), ((q.r.getD i default).1, ix (ix c.comp (q.r.getD i default).2) k))
def joinsN (c : Cat) (q : QS) : List (Int × Int) := (joinsC c q).map fun x => (idxP c q.v x.1, idxP c q.v x.2)
theorem mem_joinsC {x : (Int × Int) × (Int × Int)} : x ∈ joinsC c q ↔ ∃ (i : Nat) (k : Int), i < q.l.length ∧ (0 ≤ k ∧ k.toNat < c.frm.length) ∧ ix c.to (q.l.getD i default).2 = ix c.frm k ∧
  x = (((q.l.getD i default).1, ix (ix c.comp (q.l.getD i default).2) k), ((q.r.getD i default).1, ix (ix c.comp (q.r.getD i default).2) k)) := by
 simp only [joinsC, List.mem_flatMap, List.mem_range, List.mem_map, mem_outs]
 constructor
 ·rintro ⟨i, hi, k, ⟨h1, h2, h3⟩, rfl⟩; exact ⟨i, k, hi, ⟨h1, h2⟩, h3.symm, rfl⟩
 ·rintro ⟨i, k, hi, ⟨h1, h2⟩, h3, rfl⟩; exact ⟨i, hi, k, ⟨h1, h2, h3.symm⟩, rfl⟩
theorem joins_eq (h : c.Is) (hq : q.Ok c) {p p' : Int × Int} (hp : TermOk c q.v p) (hp' : TermOk c q.v p') : EqN (joinsN c q) (idxP c q.v p) (idxP c q.v p') ↔ EqC c q p p' := by
 constructor
 ·intro e
  have key : ∀ a b, EqN (joinsN c q) a b → a = b ∨ ∃ p p', TermOk c q.v p ∧ TermOk c q.v p' ∧ a = idxP c q.v p ∧ b = idxP c q.v p' ∧ EqC c q p p' := by
   intro a b e
   induction e with
   | gen x y hm =>
    obtain ⟨z, hz, e⟩ := List.mem_map.mp hm
    obtain ⟨i, k, hi, hk, ek, rfl⟩ := mem_joinsC.mp hz
    obtain ⟨e1, e2⟩ := Prod.mk.inj e
    obtain ⟨ha, hb, eab⟩ := hq.cond i hi
    exact .inr ⟨_, _, (ha.comp h hk ek).1, (hb.comp h hk (eab ▸ ek)).1, e1.symm, e2.symm, .gen i k hi hk ek⟩
   | refl x => exact .inl rfl
   | symm _ ih =>
    rcases ih with e | ⟨p, p', h1, h2, e1, e2, e⟩
    ·exact .inl e.symm
    ·exact .inr ⟨p', p, h2, h1, e2, e1, e.symm⟩
   | trans _ _ ih1 ih2 =>
    rcases ih1 with e | ⟨p, p', h1, h2, e1, e2, e⟩
    ·subst e; exact ih2
    ·rcases ih2 with e' | ⟨r, r', k1, k2, f1, f2, f⟩
     ·subst e'; exact .inr ⟨p, p', h1, h2, e1, e2, e⟩
     ·have := idxP_inj h2 k1 (e2.symm.trans f1)
      subst this
      exact .inr ⟨p, r', h1, k2, e1, f2, e.trans f⟩
  rcases key _ _ e with e | ⟨r, r', h1, h2, e1, e2, e⟩
  ·rw [idxP_inj hp hp' e]; exact .refl _
  ·rw [idxP_inj hp h1 e1, idxP_inj hp' h2 e2]; exact e
 ·intro e
  clear hp hp'
  induction e with
  | gen i k hi hk ek => exact .gen _ _ (List.mem_map.mpr ⟨_, mem_joinsC.mpr ⟨i, k, hi, hk, ek, rfl⟩, rfl⟩)
  | refl p => exact .refl _
  | symm _ ih => exact ih.symm
  | trans _ _ ih1 ih2 => exact ih1.trans ih2
def memC (c : Cat) (v : List Int) (y : Int) : List (Int × Int) := (pairsC c v).filter fun p => decide (ix c.to p.2 = y)
theorem mem_memC {v : List Int} {y : Int} {p : Int × Int} : p ∈ memC c v y ↔ TermOk c v p ∧ ix c.to p.2 = y := by
 rw [memC, List.mem_filter, mem_pairsC, decide_eq_true_eq]
def labC (c : Cat) (v : List Int) (R : Int → Int) (y : Int) : List Int := (memC c v y).map fun p => R (idxP c v p)
def clsC (c : Cat) (v : List Int) (R : Int → Int) (p : Int × Int) : Int := indexOf (seenL (labC c v R (ix c.to p.2))) (R (idxP c v p))
def sizesC (c : Cat) (v : List Int) (R : Int → Int) : List Int := (List.range c.objs.toNat).map fun y : Nat => mxL (classL (labC c v R y))
theorem sizesC_ix {v : List Int} {R : Int → Int} {y : Int} (hy : 0 ≤ y ∧ y < c.objs) : ix (sizesC c v R) y = ((seenL (labC c v R y)).length : Int) := by
 rw [ix, sizesC, getD_map_range _ _ (by omega), mxL_class, Int.toNat_of_nonneg hy.1]
theorem clsC_in {v : List Int} {R : Int → Int} {p : Int × Int} (hp : TermOk c v p) : (0 ≤ clsC c v R p ∧ (clsC c v R p).toNat < (seenL (labC c v R (ix c.to p.2))).length) ∧ ix (seenL (labC c v R (ix c.to p.2))) (clsC c v R p) = R (idxP c v p) := by
 have hm : R (idxP c v p) ∈ seenL (labC c v R (ix c.to p.2)) := (mem_seenL _ _ rfl _).mpr (List.mem_map.mpr ⟨p, mem_memC.mpr ⟨hp, rfl⟩, rfl⟩)
 have := indexOf_in hm
 exact ⟨⟨this.1, this.2.1⟩, this.2.2⟩
theorem canon_mk (h : c.Is) (hq : q.Ok c) {R : Int → Int} (hR : ∀ x y, InR (pairsC c q.v).length x → InR (pairsC c q.v).length y → (R x = R y ↔ EqN (joinsN c q) x y)) (hz : ∀ y, y ∈ sizesC c q.v R → y < 17)
  {A : List (List Int)} (al : A.length = c.frm.length) (len : ∀ a : Int, 0 ≤ a ∧ a.toNat < c.frm.length → ((ix A a).length : Int) = ix (sizesC c q.v R) (ix c.frm a))
  (act : ∀ p, TermOk c q.v p → ∀ a : Int, 0 ≤ a ∧ a.toNat < c.frm.length → ix c.to p.2 = ix c.frm a → ix (ix A a) (clsC c q.v R p) = clsC c q.v R (p.1, ix (ix c.comp p.2) a)) :
  CanonOk c q ⟨c, sizesC c q.v R, A⟩ (clsC c q.v R) where
 sh := rfl
 sl := by have := h.1.o; simp only [sizesC, List.length_map, List.length_range]; omega
 al := al
 sz y hy := by
  refine ⟨?_, hz y hy⟩
  obtain ⟨k, _, rfl⟩ := List.mem_map.mp hy
  rw [mxL_class]; omega
 len := len
 rng p hp := by
  have := clsC_in (R := R) hp
  show _ ∧ _ < ix (sizesC c q.v R) _
  rw [sizesC_ix (h.1.toObj hp.2.1.2)]; omega
 surj y e hy he := by
  replace he : 0 ≤ e ∧ e < ix (sizesC c q.v R) y := he
  rw [sizesC_ix hy] at he
  have he' : 0 ≤ e ∧ e.toNat < (seenL (labC c q.v R y)).length := by omega
  have hm := (mem_seenL _ _ rfl _).mp (ix_mem he'.2)
  obtain ⟨p, hp, ep⟩ := List.mem_map.mp hm
  obtain ⟨h1, h2⟩ := mem_memC.mp hp
  refine ⟨p, h1, h2, ?_⟩
  rw [clsC, h2, ep, indexOf_ix (seenL_nodup _) he']
 act := act
 rel p p' hp hp' e := by
  rw [← joins_eq h hq hp hp', ← hR _ _ (idxP_in hp).1 (idxP_in hp').1]
  have h1 := (clsC_in (R := R) hp).2
  have h2 := (clsC_in (R := R) hp').2
  constructor
  ·intro k; rw [← h1, ← h2, k, e]
  ·intro k; rw [clsC, clsC, k, e]
end
end Go.Shf
namespace Go.Shf
open Go.AW
section
variable {c : Cat} {q : QS}
def prsN (c : Cat) (v : List Int) (n : Nat) : List (Int × Int) := (List.range n).flatMap fun i : Nat => (outs c (v.getD i default)).map fun h => ((i : Int), h)
theorem prsN_full (v : List Int) : prsN c v v.length = pairsC c v := rfl
theorem prsN_succ (v : List Int) (n : Nat) : prsN c v (n + 1) = prsN c v n ++ (outs c (v.getD n default)).map fun h => ((n : Int), h) := by
 rw [prsN, List.range_succ, List.flatMap_append]; simp [prsN]
theorem outs_lenN (c : Cat) (x : Int) : (outs c x).length ≤ c.frm.length := by
 rw [outs, List.length_map]
 exact Nat.le_trans (List.length_filter_le _ _) (by simp)
theorem prsN_len (v : List Int) (n : Nat) : (prsN c v n).length ≤ n * c.frm.length := by
 induction n with
 | zero => simp [prsN]
 | succ n ih =>
  rw [prsN_succ, List.length_append, List.length_map, Nat.succ_mul]
  have := outs_lenN c (v.getD n default)
  omega
theorem prsN_bound (h : c.Is) (hq : q.Ok c) {n : Nat} (hn : n ≤ q.v.length) : (prsN c q.v n).length ≤ 160 := by
 have h1 := prsN_len (c := c) q.v n
 have h2 := hq.v4
 have h3 := h.1.m
 have : n * c.frm.length ≤ 4 * 40 := Nat.mul_le_mul (by omega) h3
 omega
theorem pairsC_bound (h : c.Is) (hq : q.Ok c) : (pairsC c q.v).length ≤ 160 := prsN_bound h hq (Nat.le_refl _)
def cndK (c : Cat) (q : QS) (i : Nat) (k : Int) : Int × Int :=
 (idxP c q.v ((q.l.getD i default).1, ix (ix c.comp (q.l.getD i default).2) k), idxP c q.v ((q.r.getD i default).1, ix (ix c.comp (q.r.getD i default).2) k))
def joinsK (c : Cat) (q : QS) (n : Nat) : List (Int × Int) := (List.range n).flatMap fun i => (outs c (ix c.to (q.l.getD i default).2)).map (cndK c q i)
theorem joinsK_full : joinsK c q q.l.length = joinsN c q := by
 rw [joinsN, joinsC, List.map_flatMap, joinsK]
 congr 1
 funext i
 rw [List.map_map]; rfl
theorem joinsK_succ (n : Nat) : joinsK c q (n + 1) = joinsK c q n ++ (outs c (ix c.to (q.l.getD n default).2)).map (cndK c q n) := by
 rw [joinsK, List.range_succ, List.flatMap_append]; simp [joinsK]
theorem cnd_terms (h : c.Is) (hq : q.Ok c) {i : Nat} (hi : i < q.l.length) {k : Int} (hk : k ∈ outs c (ix c.to (q.l.getD i default).2)) :
  TermOk c q.v ((q.l.getD i default).1, ix (ix c.comp (q.l.getD i default).2) k) ∧ TermOk c q.v ((q.r.getD i default).1, ix (ix c.comp (q.r.getD i default).2) k) := by
 obtain ⟨h1, h2, h3⟩ := mem_outs.mp hk
 obtain ⟨ha, hb, eab⟩ := hq.cond i hi
 exact ⟨(ha.comp h ⟨h1, h2⟩ h3.symm).1, (hb.comp h ⟨h1, h2⟩ (eab.symm.trans h3.symm)).1⟩
open Classical in
/-- The root of a place. -/
noncomputable def rootF (j : List Int) (x : Int) : Int := if h : ∃ r, Root j x r then Classical.choose h else x
theorem rootF_at {j : List Int} {x r : Int} (h : Root j x r) : rootF j x = r := by
 have hex : ∃ r, Root j x r := ⟨r, h⟩
 rw [rootF, dif_pos hex]
 exact (Classical.choose_spec hex).uniq h
theorem JoinOk.rootE {n : Nat} {N : List (Int × Int)} {j : List Int} (k : JoinOk n N j) {x : Int} (hx : InR n x) : Root j x (rootF j x) := by
 obtain ⟨r, hr, _⟩ := k.uf.rootAt (x := x) (by rw [k.len]; exact hx)
 rw [rootF_at hr]; exact hr
theorem JoinOk.rootR {n : Nat} {N : List (Int × Int)} {j : List Int} (k : JoinOk n N j) : ∀ x y, InR n x → InR n y → (rootF j x = rootF j y ↔ EqN N x y) :=
 fun x y hx hy => k.same x y _ _ hx hy (k.rootE hx) (k.rootE hy)
theorem clsC_rel (h : c.Is) (hq : q.Ok c) {R : Int → Int} (hR : ∀ x y, InR (pairsC c q.v).length x → InR (pairsC c q.v).length y → (R x = R y ↔ EqN (joinsN c q) x y))
  {p p' : Int × Int} (hp : TermOk c q.v p) (hp' : TermOk c q.v p') (e : ix c.to p.2 = ix c.to p'.2) : clsC c q.v R p = clsC c q.v R p' ↔ EqC c q p p' := by
 rw [← joins_eq h hq hp hp', ← hR _ _ (idxP_in hp).1 (idxP_in hp').1]
 have h1 := (clsC_in (R := R) hp).2
 have h2 := (clsC_in (R := R) hp').2
 constructor
 ·intro k; rw [← h1, ← h2, k, e]
 ·intro k; rw [clsC, clsC, k, e]
theorem clsC_cong (h : c.Is) (hq : q.Ok c) {R : Int → Int} (hR : ∀ x y, InR (pairsC c q.v).length x → InR (pairsC c q.v).length y → (R x = R y ↔ EqN (joinsN c q) x y))
  {p p' : Int × Int} (hp : TermOk c q.v p) (hp' : TermOk c q.v p') {a : Int} (ha : 0 ≤ a ∧ a.toNat < c.frm.length) (ea : ix c.to p.2 = ix c.frm a) (ea' : ix c.to p'.2 = ix c.frm a)
  (e : clsC c q.v R p = clsC c q.v R p') : clsC c q.v R (p.1, ix (ix c.comp p.2) a) = clsC c q.v R (p'.1, ix (ix c.comp p'.2) a) := by
 have h1 := hp.comp h ha ea
 have h2 := hp'.comp h ha ea'
 exact (clsC_rel h hq hR h1.1 h2.1 (h1.2.trans h2.2.symm)).mpr (((clsC_rel h hq hR hp hp' (ea.trans ea'.symm)).mp e).act h hq ha ea)
theorem labC_len (v : List Int) (R : Int → Int) (y : Int) : (labC c v R y).length = (memC c v y).length := by simp [labC]
theorem class_mem {v : List Int} {R : Int → Int} {y : Int} {i : Nat} (hi : i < (memC c v y).length) : (classL (labC c v R y)).getD i default = clsC c v R ((memC c v y).getD i default) := by
 have hm : (memC c v y).getD i default ∈ memC c v y := mem_getD.mpr ⟨i, hi, rfl⟩
 rw [classL, map_getD _ (by rw [labC_len]; exact hi), clsC, (mem_memC.mp hm).2]
 rw [labC, map_getD _ hi]
def szsN (c : Cat) (v : List Int) (R : Int → Int) (n : Nat) : List Int := (List.range n).map fun y : Nat => mxL (classL (labC c v R y))
theorem szsN_full (v : List Int) (R : Int → Int) : szsN c v R c.objs.toNat = sizesC c v R := rfl
theorem szsN_succ (v : List Int) (R : Int → Int) (n : Nat) : szsN c v R (n + 1) = szsN c v R n ++ [mxL (classL (labC c v R n))] := by
 rw [szsN, List.range_succ, List.map_append]; rfl
theorem szsN_len (v : List Int) (R : Int → Int) (n : Nat) : (szsN c v R n).length = n := by simp [szsN]
structure ActR (c : Cat) (q : QS) (R : Int → Int) (a : Int) (k : Nat) (A : List Int) : Prop where
 len : (A.length : Int) = ix (sizesC c q.v R) (ix c.frm a)
 val : ∀ i, i < k → i < (pairsC c q.v).length → ix c.to ((pairsC c q.v).getD i default).2 = ix c.frm a →
  ix A (clsC c q.v R ((pairsC c q.v).getD i default)) = clsC c q.v R (((pairsC c q.v).getD i default).1, ix (ix c.comp ((pairsC c q.v).getD i default).2) a)
theorem ActR.zero {R : Int → Int} {a : Int} {n : Nat} (hn : (n : Int) = ix (sizesC c q.v R) (ix c.frm a)) : ActR c q R a 0 (List.replicate n 0) :=
 ⟨by simpa using hn, fun i hi => by omega⟩
theorem ActR.skip {R : Int → Int} {a : Int} {k : Nat} {A : List Int} (h : ActR c q R a k A) (hne : ix c.to ((pairsC c q.v).getD k default).2 ≠ ix c.frm a) : ActR c q R a (k + 1) A :=
 ⟨h.len, fun i hi hl e => by
  by_cases ek : i = k
  ·subst ek; exact absurd e hne
  ·exact h.val i (by omega) hl e⟩
theorem term_at {v : List Int} {k : Nat} (hk : k < (pairsC c v).length) : TermOk c v ((pairsC c v).getD k default) := mem_pairsC.mp (mem_getD.mpr ⟨k, hk, rfl⟩)
theorem ActR.slot (h0 : c.Is) {R : Int → Int} {a : Int} {k : Nat} {A : List Int} (h : ActR c q R a k A) (hk : k < (pairsC c q.v).length) (e : ix c.to ((pairsC c q.v).getD k default).2 = ix c.frm a) :
  0 ≤ clsC c q.v R ((pairsC c q.v).getD k default) ∧ (clsC c q.v R ((pairsC c q.v).getD k default)).toNat < A.length := by
 have ht := term_at hk
 have h1 := (clsC_in (R := R) ht).1
 have h2 := h.len
 rw [← e, sizesC_ix (h0.1.toObj ht.2.1.2)] at h2
 omega
theorem ActR.put (h0 : c.Is) (hq : q.Ok c) {R : Int → Int} (hR : ∀ x y, InR (pairsC c q.v).length x → InR (pairsC c q.v).length y → (R x = R y ↔ EqN (joinsN c q) x y))
  {a : Int} (ha : 0 ≤ a ∧ a.toNat < c.frm.length) {k : Nat} {A : List Int} (h : ActR c q R a k A) (hk : k < (pairsC c q.v).length) (e : ix c.to ((pairsC c q.v).getD k default).2 = ix c.frm a) :
  ActR c q R a (k + 1) (A.set (clsC c q.v R ((pairsC c q.v).getD k default)).toNat (clsC c q.v R (((pairsC c q.v).getD k default).1, ix (ix c.comp ((pairsC c q.v).getD k default).2) a))) := by
 have hs := h.slot h0 hk e
 have ht := term_at hk
 refine ⟨by rw [List.length_set]; exact h.len, fun i hi hl ei => ?_⟩
 have hti := term_at hl
 by_cases ec : clsC c q.v R ((pairsC c q.v).getD i default) = clsC c q.v R ((pairsC c q.v).getD k default)
 ·rw [ec, ix_set_same (j := A) hs]
  exact (clsC_cong h0 hq hR hti ht ha ei e ec).symm
 ·rw [ix_set_other hs.1 (clsC_in (R := R) hti).1.1 ec]
  have ek : i ≠ k := fun ek => ec (by rw [ek])
  exact h.val i (by omega) hl ei
theorem ActR.full {R : Int → Int} {a : Int} {A : List Int} (h : ActR c q R a (pairsC c q.v).length A) {p : Int × Int} (hp : TermOk c q.v p) (e : ix c.to p.2 = ix c.frm a) :
  ix A (clsC c q.v R p) = clsC c q.v R (p.1, ix (ix c.comp p.2) a) := by
 obtain ⟨i, hi, rfl⟩ := mem_getD.mp (mem_pairsC.mpr hp)
 exact h.val i hi hi e
theorem canon_rows (h : c.Is) (hq : q.Ok c) {R : Int → Int} (hR : ∀ x y, InR (pairsC c q.v).length x → InR (pairsC c q.v).length y → (R x = R y ↔ EqN (joinsN c q) x y)) (hz : ∀ y, y ∈ sizesC c q.v R → 0 ≤ y ∧ y < 17)
  {A : List (List Int)} (al : A.length = c.frm.length) (hA : ∀ a, a < A.length → ActR c q R a (pairsC c q.v).length (A.getD a default)) :
  CanonOk c q ⟨c, sizesC c q.v R, A⟩ (clsC c q.v R) := by
 have key : ∀ a : Int, 0 ≤ a ∧ a.toNat < c.frm.length → ActR c q R a (pairsC c q.v).length (ix A a) := fun a ha => by
  have := hA a.toNat (by omega)
  rw [Int.toNat_of_nonneg ha.1] at this
  exact this
 exact canon_mk h hq hR (fun y hy => (hz y hy).2) al (fun a ha => (key a ha).len) fun p hp a ha e => (key a ha).full hp e
def classK (l : List Int) (k : Nat) : List Int := classL (l.take k) ++ List.replicate (l.length - k) 0
theorem classK_zero (l : List Int) : classK l 0 = List.replicate l.length 0 := by simp [classK, classL]
theorem classK_full (l : List Int) : classK l l.length = classL l := by simp [classK]
theorem classK_len (l : List Int) {k : Nat} (hk : k ≤ l.length) : (classK l k).length = l.length := by
 simp [classK, classL_len]; omega
theorem classK_succ (l : List Int) {k : Nat} (hk : k < l.length) : (classK l k).set k (indexOf (seenL (l.take (k + 1))) (l.getD k default)) = classK l (k + 1) := by
 have e1 : (classL (l.take k)).length = k := by rw [classL_len, List.length_take]; omega
 have e2 : l.length - k = (l.length - (k + 1)) + 1 := by omega
 rw [classK, classK, take_one l hk, classL_snoc, e2, List.replicate_succ, List.set_append_right _ _ (by omega), e1, Nat.sub_self, List.set_cons_zero, List.append_assoc]
 rfl
theorem seen_old {l : List Int} {k : Nat} (hk : k < l.length) (h : l.getD k default ∈ seenL (l.take k)) : seenL (l.take (k + 1)) = seenL (l.take k) ∧
  InR (seenL (l.take k)).length (indexOf (seenL (l.take (k + 1))) (l.getD k default)) := by
 have e : seenL (l.take (k + 1)) = seenL (l.take k) := by rw [take_one l hk, seenL_snoc, if_pos h]
 rw [e]
 have := indexOf_in h
 exact ⟨rfl, this.1, this.2.1⟩
theorem seen_new {l : List Int} {k : Nat} (hk : k < l.length) (h : l.getD k default ∉ seenL (l.take k)) : seenL (l.take (k + 1)) = seenL (l.take k) ++ [l.getD k default] ∧
  indexOf (seenL (l.take (k + 1))) (l.getD k default) = (seenL (l.take k)).length := by
 have e : seenL (l.take (k + 1)) = seenL (l.take k) ++ [l.getD k default] := by rw [take_one l hk, seenL_snoc, if_neg h]
 rw [e]
 exact ⟨rfl, indexOf_newT h⟩
end
end Go.Shf
namespace Go.Shf
open Go.AW
theorem class_at (l : List Int) {i : Nat} (hi : i < l.length) : (classL l).getD i default = indexOf (seenL l) (l.getD i default) := by rw [classL, map_getD _ hi]
theorem class_ker (l : List Int) {i j : Nat} (hi : i < l.length) (hj : j < l.length) : (classL l).getD i default = (classL l).getD j default ↔ l.getD i default = l.getD j default := by
 rw [class_at l hi, class_at l hj]
 have h1 := indexOf_in ((mem_seenL _ l rfl _).mpr (mem_getD.mpr ⟨i, hi, rfl⟩))
 have h2 := indexOf_in ((mem_seenL _ l rfl _).mpr (mem_getD.mpr ⟨j, hj, rfl⟩))
 constructor
 ·intro e; rw [← h1.2.2, ← h2.2.2, e]
 ·intro e; rw [e]
theorem getD_take {α : Type} [Inhabited α] {l : List α} {k i : Nat} (h : i < k) : (l.take k).getD i default = l.getD i default := by
 rw [List.getD_eq_getElem?_getD, List.getElem?_take_of_lt h, ← List.getD_eq_getElem?_getD]
theorem classL_congr {l m : List Int} (hl : l.length = m.length) (h : ∀ i j, i < l.length → j < l.length → (l.getD i default = l.getD j default ↔ m.getD i default = m.getD j default)) : classL l = classL m := by
 have key : ∀ n, n ≤ l.length → classL (l.take n) = classL (m.take n) ∧ (seenL (l.take n)).length = (seenL (m.take n)).length := by
  intro n
  induction n with
  | zero => intro _; simp
  | succ n ih =>
   intro hn
   obtain ⟨h1, h2⟩ := ih (by omega)
   have hnl : n < l.length := by omega
   have hnm : n < m.length := by omega
   have hlt : (l.take n).length = n := by rw [List.length_take]; omega
   have hmt : (m.take n).length = n := by rw [List.length_take]; omega
   have hin : ∀ (a b : List Int), a.length = b.length → (∀ i j, i < a.length → j < a.length → (a.getD i default = a.getD j default → b.getD i default = b.getD j default)) → n < a.length → a.getD n default ∈ a.take n → ∃ i, i < n ∧ a.getD i default = a.getD n default ∧ b.getD i default = b.getD n default := by
    intro a b hab hk hna hm
    obtain ⟨i, hi, e⟩ := mem_getD.mp hm
    rw [List.length_take] at hi
    rw [getD_take (by omega)] at e
    exact ⟨i, by omega, e, hk i n (by omega) hna e⟩
   rw [take_one l hnl, take_one m hnm, classL_snoc, classL_snoc, h1, seenL_snoc, seenL_snoc]
   by_cases hu : l.getD n default ∈ seenL (l.take n)
   ·obtain ⟨i, hi, e1, e2⟩ := hin l m hl (fun i j hi hj e => (h i j hi hj).mp e) hnl ((mem_seenL _ _ rfl _).mp hu)
    have hv : m.getD n default ∈ seenL (m.take n) := (mem_seenL _ _ rfl _).mpr (mem_getD.mpr ⟨i, by omega, by rw [getD_take hi]; exact e2⟩)
    rw [if_pos hu, if_pos hv]
    refine ⟨?_, h2⟩
    have e3 := class_at (l.take n) (i := i) (by omega)
    have e4 := class_at (m.take n) (i := i) (by omega)
    rw [getD_take hi, e1] at e3
    rw [getD_take hi, e2] at e4
    rw [← e3, ← e4, h1]
   ·have hv : m.getD n default ∉ seenL (m.take n) := fun hv => by
     obtain ⟨i, hi, e1, e2⟩ := hin m l hl.symm (fun i j hi hj e => (h i j (by omega) (by omega)).mpr e) hnm ((mem_seenL _ _ rfl _).mp hv)
     exact hu ((mem_seenL _ _ rfl _).mpr (mem_getD.mpr ⟨i, by omega, by rw [getD_take hi]; exact e2⟩))
    rw [if_neg hu, if_neg hv, indexOf_newT hu, indexOf_newT hv, List.length_append, List.length_append, h2]
    exact ⟨rfl, rfl⟩
 have := (key l.length (Nat.le_refl _)).1
 rwa [List.take_length, hl, List.take_length] at this
open Classical in
/-- One of those that pairs make one with it. -/
noncomputable def rootQ (N : List (Int × Int)) (x : Int) : Int := Classical.choose (⟨x, EqN.refl x⟩ : ∃ y, EqN N x y)
theorem rootQ_spec (N : List (Int × Int)) (x : Int) : EqN N x (rootQ N x) := Classical.choose_spec (⟨x, EqN.refl x⟩ : ∃ y, EqN N x y)
theorem rootQ_iff (N : List (Int × Int)) (x y : Int) : rootQ N x = rootQ N y ↔ EqN N x y := by
 constructor
 ·intro e
  have h1 := rootQ_spec N x
  have h2 := rootQ_spec N y
  rw [← e] at h2
  exact h1.trans h2.symm
 ·intro e
  have hp : (fun z => EqN N x z) = fun z => EqN N y z := funext fun z => propext ⟨fun h => e.symm.trans h, fun h => e.trans h⟩
  unfold rootQ
  congr 1
section
variable {c : Cat} {q : QS}
noncomputable def RQ (c : Cat) (q : QS) : Int → Int := rootQ (joinsN c q)
noncomputable def clsQ (c : Cat) (q : QS) : Int × Int → Int := clsC c q.v (RQ c q)
noncomputable def szQ (c : Cat) (q : QS) : List Int := sizesC c q.v (RQ c q)
def FitQ (c : Cat) (q : QS) : Prop := ∀ y, y ∈ szQ c q → 0 ≤ y ∧ y < 17
theorem RQ_iff : ∀ x y, InR (pairsC c q.v).length x → InR (pairsC c q.v).length y → (RQ c q x = RQ c q y ↔ EqN (joinsN c q) x y) := fun x y _ _ => rootQ_iff _ x y
theorem lab_at {v : List Int} {R : Int → Int} {y : Int} {i : Nat} (hi : i < (memC c v y).length) : (labC c v R y).getD i default = R (idxP c v ((memC c v y).getD i default)) := by rw [labC, map_getD _ hi]
theorem mem_at {v : List Int} {y : Int} {i : Nat} (hi : i < (memC c v y).length) : TermOk c v ((memC c v y).getD i default) ∧ ix c.to ((memC c v y).getD i default).2 = y := mem_memC.mp (mem_getD.mpr ⟨i, hi, rfl⟩)
theorem class_eq (h : c.Is) (hq : q.Ok c) {y : Int} {l : List Int} (hl : l.length = (memC c q.v y).length)
  (hk : ∀ i j, i < l.length → j < l.length → (l.getD i default = l.getD j default ↔ EqC c q ((memC c q.v y).getD i default) ((memC c q.v y).getD j default))) : classL l = classL (labC c q.v (RQ c q) y) := by
 refine classL_congr (by rw [hl, labC_len]) fun i j hi hj => ?_
 have h1 := mem_at (c := c) (v := q.v) (y := y) (i := i) (by omega)
 have h2 := mem_at (c := c) (v := q.v) (y := y) (i := j) (by omega)
 rw [hk i j hi hj, lab_at (by omega), lab_at (by omega), RQ_iff _ _ (idxP_in h1.1).1 (idxP_in h2.1).1, joins_eq h hq h1.1 h2.1]
theorem lab_eq (h : c.Is) (hq : q.Ok c) {R : Int → Int} (hR : ∀ x y, InR (pairsC c q.v).length x → InR (pairsC c q.v).length y → (R x = R y ↔ EqN (joinsN c q) x y)) (y : Int) : classL (labC c q.v R y) = classL (labC c q.v (RQ c q) y) := by
 refine class_eq h hq (labC_len _ _ _) fun i j hi hj => ?_
 rw [labC_len] at hi hj
 have h1 := mem_at (c := c) (v := q.v) (y := y) (i := i) hi
 have h2 := mem_at (c := c) (v := q.v) (y := y) (i := j) hj
 rw [lab_at hi, lab_at hj, hR _ _ (idxP_in h1.1).1 (idxP_in h2.1).1, joins_eq h hq h1.1 h2.1]
theorem cls_eq (h : c.Is) (hq : q.Ok c) {R : Int → Int} (hR : ∀ x y, InR (pairsC c q.v).length x → InR (pairsC c q.v).length y → (R x = R y ↔ EqN (joinsN c q) x y)) {p : Int × Int} (hp : TermOk c q.v p) : clsC c q.v R p = clsQ c q p := by
 obtain ⟨i, hi, e⟩ := mem_getD.mp (mem_memC.mpr ⟨hp, rfl⟩)
 have h1 := class_mem (R := R) hi
 have h2 := class_mem (R := RQ c q) hi
 rw [e] at h1 h2
 rw [clsQ, ← h1, ← h2, lab_eq h hq hR]
theorem sizes_eq (h : c.Is) (hq : q.Ok c) {R : Int → Int} (hR : ∀ x y, InR (pairsC c q.v).length x → InR (pairsC c q.v).length y → (R x = R y ↔ EqN (joinsN c q) x y)) : sizesC c q.v R = szQ c q := by
 rw [szQ, sizesC, sizesC]
 refine List.map_congr_left fun y _ => ?_
 rw [lab_eq h hq hR]
theorem CanonOk.congr (h : c.Is) {G : SF} {cls cls' : Int × Int → Int} (k : CanonOk c q G cls) (e : ∀ p, TermOk c q.v p → cls p = cls' p) : CanonOk c q G cls' where
 sh := k.sh
 sl := k.sl
 al := k.al
 sz := k.sz
 len := k.len
 rng p hp := e p hp ▸ k.rng p hp
 surj y d hy hd := by
  obtain ⟨p, h1, h2, h3⟩ := k.surj y d hy hd
  exact ⟨p, h1, h2, (e p h1).symm.trans h3⟩
 act p hp a ha ea := by
  rw [← e p hp, ← e _ (hp.comp h ha ea).1]
  exact k.act p hp a ha ea
 rel p p' hp hp' e2 := by rw [← e p hp, ← e p' hp']; exact k.rel p p' hp hp' e2
theorem CanonOk.uniq (h : c.Is) {G G' : SF} {cls : Int × Int → Int} (k : CanonOk c q G cls) (k' : CanonOk c q G' cls) : G = G' := by
 have hsz : ∀ y : Int, 0 ≤ y ∧ y < c.objs → ix G.sizes y = ix G'.sizes y := by
  have one : ∀ {G G' : SF}, CanonOk c q G cls → CanonOk c q G' cls → ∀ y : Int, 0 ≤ y ∧ y < c.objs → ix G'.sizes y ≤ ix G.sizes y := by
   intro G G' k k' y hy
   have hsl := k.sl
   have h0 := (k.sz _ (ix_mem (l := G.sizes) (i := y) (by omega))).1
   by_cases hlt : ix G.sizes y < ix G'.sizes y
   ·obtain ⟨p, h1, h2, h3⟩ := k'.surj y (ix G.sizes y) hy ⟨h0, hlt⟩
    have := k.rng p h1
    rw [h2, h3] at this; omega
   ·omega
  intro y hy
  have := one k k' y hy
  have := one k' k y hy
  omega
 have hl1 := k.sl
 have hl2 := k'.sl
 have hs : G.sizes = G'.sizes := by
  refine List.ext_getElem (by omega) fun i h1 h2 => ?_
  have := hsz (i : Int) (by omega)
  rw [ix_nat, ix_nat] at this
  simpa [List.getD_eq_getElem?_getD, h1, h2] using this
 have hA : G.acts = G'.acts := by
  refine List.ext_getElem (by rw [k.al, k'.al]) fun a h1 h2 => ?_
  have haf : 0 ≤ (a : Int) ∧ ((a : Int)).toNat < c.frm.length := by rw [k.al] at h1; omega
  have e1 : G.acts[a] = ix G.acts (a : Int) := by simp [ix_nat, List.getD_eq_getElem?_getD, h1]
  have e2 : G'.acts[a] = ix G'.acts (a : Int) := by simp [ix_nat, List.getD_eq_getElem?_getD, h2]
  rw [e1, e2]
  have l1 := k.len _ haf
  have l2 := k'.len _ haf
  have hfo := h.1.frmObj haf.2
  rw [hsz _ hfo] at l1
  refine List.ext_getElem (by omega) fun d h3 h4 => ?_
  obtain ⟨p, p1, p2, p3⟩ := k.surj _ (d : Int) hfo (by rw [hsz _ hfo]; omega)
  have r1 := k.act p p1 _ haf p2
  have r2 := k'.act p p1 _ haf p2
  rw [p3, ix_nat] at r1 r2
  have := r1.trans r2.symm
  simpa [List.getD_eq_getElem?_getD, h3, h4] using this
 have e1 := k.sh
 have e2 := k'.sh
 cases G; cases G'
 simp only at hs hA e1 e2
 rw [hs, hA, e1, e2]
end
end Go.Shf
namespace Go.Shf
open Go.AW
def kpC (A : List (List Int)) (k : Nat) : Bool := decide (k = 0 ∨ A.getD k default ≠ A.getD (k - 1) default)
def cpK (A : List (List Int)) (m : Nat) : List (List Int) := ((List.range m).filter (kpC A)).map fun i => A.getD i default
theorem cpK_t {A : List (List Int)} {m : Nat} (h : kpC A m = true) : cpK A (m + 1) = cpK A m ++ [A.getD m default] := by
 rw [cpK, List.range_succ, List.filter_append, List.map_append]; simp [h, cpK]
theorem cpK_f {A : List (List Int)} {m : Nat} (h : kpC A m = false) : cpK A (m + 1) = cpK A m := by
 rw [cpK, List.range_succ, List.filter_append, List.map_append]; simp [h, cpK]
theorem cpK_len (A : List (List Int)) (m : Nat) : (cpK A m).length ≤ m := by
 rw [cpK, List.length_map]
 exact Nat.le_trans (List.length_filter_le _ _) (by simp)
theorem cpK_all {A : List (List Int)} : ∀ {m : Nat}, m ≤ A.length → (∀ j, j < m → kpC A j = true) → cpK A m = A.take m
 | 0, _, _ => by simp [cpK]
 | m + 1, hm, h => by
  rw [cpK_t (h m (by omega)), cpK_all (by omega) fun j hj => h j (by omega), take_one A (by omega)]
theorem cpK_short {A : List (List Int)} {k : Nat} (hk : kpC A k = false) : ∀ m, k < m → (cpK A m).length < m
 | 0, h => by omega
 | m + 1, h => by
  by_cases e : k = m
  ·subst e; rw [cpK_f hk]; have := cpK_len A k; omega
  ·have := cpK_short hk m (by omega)
   by_cases e2 : kpC A m = true
   ·rw [cpK_t e2, List.length_append]; simp only [List.length_cons, List.length_nil]; omega
   ·rw [cpK_f (by simpa using e2)]; omega
def cpT (A : List (List Int)) : List (List Int) := cpK A A.length
theorem mem_cpK {A : List (List Int)} {t : List Int} : ∀ {m : Nat}, m ≤ A.length → (t ∈ cpK A m ↔ ∃ i, i < m ∧ A.getD i default = t)
 | 0, _ => by simp [cpK]
 | m + 1, hm => by
  have ih := mem_cpK (t := t) (m := m) (A := A) (by omega)
  by_cases e : kpC A m = true
  ·rw [cpK_t e, List.mem_append, List.mem_singleton, ih]
   constructor
   ·rintro (⟨i, hi, h⟩ | h)
    ·exact ⟨i, by omega, h⟩
    ·exact ⟨m, by omega, h.symm⟩
   ·rintro ⟨i, hi, h⟩
    by_cases c : i = m
    ·subst c; exact .inr h.symm
    ·exact .inl ⟨i, by omega, h⟩
  ·have e' : kpC A m = false := by simpa using e
   rw [cpK_f e', ih]
   have hd := of_decide_eq_false e'
   constructor
   ·rintro ⟨i, hi, h⟩; exact ⟨i, by omega, h⟩
   ·rintro ⟨i, hi, h⟩
    by_cases c : i = m
    ·subst c
     have h0 : i ≠ 0 := fun h => hd (.inl h)
     have h1 : A.getD i default = A.getD (i - 1) default := Classical.byContradiction fun h => hd (.inr h)
     exact ⟨i - 1, by omega, h1 ▸ h⟩
    ·exact ⟨i, by omega, h⟩
theorem mem_cpT {A : List (List Int)} {t : List Int} : t ∈ cpT A ↔ t ∈ A := by
 rw [cpT, mem_cpK (Nat.le_refl _), mem_getD]
theorem cpK_sorted {A : List (List Int)} (hA : A.Pairwise fun a b => cmp a b ≤ 0) : ∀ {m : Nat}, m ≤ A.length → (cpK A m).Pairwise fun a b => cmp a b < 0
 | 0, _ => by simp [cpK]
 | m + 1, hm => by
  have ih := cpK_sorted hA (m := m) (by omega)
  by_cases e : kpC A m = true
  ·rw [cpK_t e]
   refine List.pairwise_append.mpr ⟨ih, by simp, fun a ha b hb => ?_⟩
   rw [List.mem_singleton] at hb
   subst hb
   obtain ⟨i, hi, rfl⟩ := (mem_cpK (by omega)).mp ha
   have hne : A.getD m default ≠ A.getD (m - 1) default := by
    rcases of_decide_eq_true e with h | h
    ·omega
    ·exact h
   have hg : ∀ x y, x < y → y < A.length → cmp (A.getD x default) (A.getD y default) ≤ 0 := fun x y h1 h2 => by
    have := List.pairwise_iff_getElem.mp hA x y (by omega) h2 h1
    simpa [List.getD_eq_getElem?_getD, h2, show x < A.length by omega] using this
   have h1 : cmp (A.getD i default) (A.getD (m - 1) default) ≤ 0 := by
    by_cases c : i = m - 1
    ·rw [c, cmp_zero.mpr rfl]; exact Int.le_refl _
    ·exact hg _ _ (by omega) (by omega)
   have h2 := hg (m - 1) m (by omega) (by omega)
   have h3 := cmp_le_trans h1 h2
   have h4 : cmp (A.getD i default) (A.getD m default) ≠ 0 := fun e0 => by
    rw [cmp_zero] at e0
    rw [e0] at h1
    have h5 := cmp_neg (A.getD m default) (A.getD (m - 1) default)
    have h6 : cmp (A.getD (m - 1) default) (A.getD m default) = 0 := by omega
    exact hne (cmp_zero.mp h6).symm
   omega
  ·rw [cpK_f (by simpa using e)]; exact ih
theorem cpT_sorted {A : List (List Int)} (hA : A.Pairwise fun a b => cmp a b ≤ 0) : (cpT A).Pairwise fun a b => cmp a b < 0 := cpK_sorted hA (Nat.le_refl _)
structure CpInv (A : List (List Int)) (m : Nat) (D : List (List Int)) : Prop where
 len : D.length = A.length
 head : ∀ i, i < (cpK A m).length → D.getD i default = (cpK A m).getD i default
 tail : ∀ i, m ≤ i + 1 → D.getD i default = A.getD i default
theorem CpInv.start {A : List (List Int)} {k : Nat} (hk : k < A.length) (h : ∀ j, j < k → kpC A j = true) (hf : kpC A k = false) : CpInv A (k + 1) A := by
 refine ⟨rfl, fun i hi => ?_, fun _ _ => rfl⟩
 rw [cpK_f hf, cpK_all (by omega) h] at hi ⊢
 rw [List.length_take] at hi
 simp [List.getD_eq_getElem?_getD, List.getElem?_take_of_lt (show i < k by omega)]
theorem CpInv.skip {A : List (List Int)} {m : Nat} {D : List (List Int)} (h : CpInv A m D) (hf : kpC A m = false) : CpInv A (m + 1) D :=
 ⟨h.len, by rw [cpK_f hf]; exact h.head, fun i hi => h.tail i (by omega)⟩
theorem CpInv.keep {A : List (List Int)} {m : Nat} {D : List (List Int)} (h : CpInv A m D) (hm : m < A.length) (hs : (cpK A m).length < m) (ht : kpC A m = true) : CpInv A (m + 1) (D.set (cpK A m).length (A.getD m default)) := by
 have hl := h.len
 refine ⟨by rw [List.length_set]; exact h.len, fun i hi => ?_, fun i hi => ?_⟩
 ·rw [cpK_t ht] at hi ⊢
  rw [List.length_append] at hi
  simp only [List.length_cons, List.length_nil] at hi
  by_cases e : i = (cpK A m).length
  ·subst e
   simp [List.getD_eq_getElem?_getD, show (cpK A m).length < D.length by omega]
  ·rw [List.getD_eq_getElem?_getD, List.getElem?_set_ne (by omega), ← List.getD_eq_getElem?_getD, h.head i (by omega)]
   simp [List.getD_eq_getElem?_getD, List.getElem?_append_left (show i < (cpK A m).length by omega)]
 ·rw [List.getD_eq_getElem?_getD, List.getElem?_set_ne (by omega), ← List.getD_eq_getElem?_getD]
  exact h.tail i (by omega)
theorem CpInv.take {A D : List (List Int)} (h : CpInv A A.length D) : D.take (cpT A).length = cpT A := by
 have hl := h.len
 have h1 := cpK_len A A.length
 refine List.ext_getElem (by rw [List.length_take]; show min (cpK A A.length).length D.length = (cpK A A.length).length; omega) fun i h1 h2 => ?_
 have h3 := h.head i h2
 rw [List.getElem_take]
 have hiD : i < D.length := by rw [List.length_take] at h1; omega
 have e1 : D.getD i default = D[i] := by simp [List.getD_eq_getElem?_getD, hiD]
 have e2 : (cpK A A.length).getD i default = (cpT A)[i] := by
  rw [List.getD_eq_getElem?_getD]
  show ((cpT A)[i]?).getD default = (cpT A)[i]
  rw [List.getElem?_eq_getElem h2]; rfl
 rw [← e1, ← e2]; exact h3
end Go.Shf
namespace Go.Shf
open Go.AW
theorem num_at {s : List Int} (hs : ∀ a, a ∈ s → 0 < a) {k : Int} (h0 : 0 ≤ k) (h1 : k < prodT s) : numT s (atT s k) = k := by
 have hi := atT_in hs k
 have hl := numT_lt hi
 have e := atT_num hi
 have h2 := cmp_irr (atT s k)
 by_cases c1 : numT s (atT s k) < k
 ·have := at_lt hs hl.1 c1 h1
  rw [e] at this; exact absurd this h2
 ·by_cases c2 : k < numT s (atT s k)
  ·have := at_lt hs h0 c2 hl.2
   rw [e] at this; exact absurd this h2
  ·omega
theorem numT_snoc (a b : Int) : ∀ {s t : List Int}, t.length = s.length → numT (s ++ [a]) (t ++ [b]) = numT s t * a + b
 | [], [], _ => by simp [numT, prodT]
 | x :: s, y :: t, h => by
  rw [List.cons_append, List.cons_append, numT, numT, numT_snoc a b (by simpa using h), prodT_append]
  simp only [prodT, Int.mul_one, Int.add_mul, Int.mul_assoc, Int.add_assoc]
 | [], y :: t, h => by simp at h
 | x :: s, [], h => by simp at h
theorem numT_take {s t : List Int} (h : t.length = s.length) {k : Nat} (hk : k < s.length) : numT (s.take (k + 1)) (t.take (k + 1)) = numT (s.take k) (t.take k) * s.getD k default + t.getD k default := by
 rw [take_one _ hk, take_one _ (by omega), numT_snoc _ _ (by rw [List.length_take, List.length_take]; omega)]
theorem InB.take : ∀ {s t : List Int}, InB s t → ∀ k, InB (s.take k) (t.take k)
 | [], [], _, k => by simp [InB]
 | a :: s, b :: t, h, 0 => by simp [InB]
 | a :: s, b :: t, h, k + 1 => ⟨h.1, h.2.take k⟩
section
variable {f : SF} {q : QS}
theorem rows_marks (h : f.Is) (hq : q.Ok f.shape) : rowsQ f q = ((List.range (prodT (szO f q)).toNat).filter fun k : Nat => dec (∃ s, s ∈ solQ f q ∧ numT (szO f q) (thenT q.o s) = (k : Int))).map fun k : Nat => atT (szO f q) k := by
 rw [rowsQ, tupL, List.filter_map]
 congr 1
 refine List.filter_congr fun k hk => ?_
 rw [List.mem_range] at hk
 simp only [Function.comp_def]
 refine dec_congr ⟨?_, ?_⟩
 ·rintro ⟨s, hs, e⟩
  refine ⟨s, hs, ?_⟩
  have hi := then_in hq ((mem_solQ h hq).mp hs).1
  rw [e, num_at hi.pos (by omega) (by omega)]
 ·rintro ⟨s, hs, e⟩
  refine ⟨s, hs, ?_⟩
  have hi := then_in hq ((mem_solQ h hq).mp hs).1
  rw [← e, atT_num hi]
end
end Go.Shf
namespace Go.Shf
open Go.AW
section
variable {c : Cat} {q : QS}
def homC (c : Cat) (x y : Int) : List Int := (outs c x).filter fun h => decide (ix c.to h = y)
def homK (c : Cat) (x y : Int) (k : Nat) : List Int := ((List.range k).filter fun i => decide (c.frm.getD i default = x) && decide (c.to.getD i default = y)).map Int.ofNat
theorem homK_full (c : Cat) (x y : Int) : homK c x y c.frm.length = homC c x y := by
 rw [homK, homC, outs, List.filter_map, List.filter_filter]
 congr 1
 refine List.filter_congr fun i _ => ?_
 simp only [Function.comp_def]
 rw [Bool.and_comm]
 congr 1
theorem homK_t {x y : Int} {k : Nat} (h1 : c.frm.getD k default = x) (h2 : c.to.getD k default = y) : homK c x y (k + 1) = homK c x y k ++ [(k : Int)] := by
 rw [homK, range_succ_filter, if_pos (by rw [decide_eq_true h1, decide_eq_true h2]; rfl), List.map_append]; rfl
theorem homK_f {x y : Int} {k : Nat} (h : ¬ (c.frm.getD k default = x ∧ c.to.getD k default = y)) : homK c x y (k + 1) = homK c x y k := by
 have e : (decide (c.frm.getD k default = x) && decide (c.to.getD k default = y)) = false := by
  rw [Bool.and_eq_false_iff, decide_eq_false_iff_not, decide_eq_false_iff_not]
  by_cases h1 : c.frm.getD k default = x
  ·exact .inr fun h2 => h ⟨h1, h2⟩
  ·exact .inl h1
 rw [homK, range_succ_filter, if_neg (by rw [e]; simp), List.append_nil]; rfl
theorem homK_len (x y : Int) (k : Nat) : (homK c x y k).length ≤ k := by
 rw [homK, List.length_map]; exact Nat.le_trans (List.length_filter_le _ _) (by simp)
theorem homC_len (x y : Int) : (homC c x y).length ≤ c.frm.length := by rw [← homK_full]; exact homK_len x y _
def memN (c : Cat) (v : List Int) (y : Int) (n : Nat) : List (Int × Int) := (List.range n).flatMap fun i : Nat => (homC c (v.getD i default) y).map fun h => ((i : Int), h)
theorem filter_flatMapC {α β : Type} (p : β → Bool) (g : α → List β) : ∀ l : List α, (l.flatMap g).filter p = l.flatMap fun a => (g a).filter p
 | [] => rfl
 | a :: l => by rw [List.flatMap_cons, List.filter_append, filter_flatMapC p g l, List.flatMap_cons]
theorem memN_full (v : List Int) (y : Int) : memN c v y v.length = memC c v y := by
 rw [memN, memC, pairsC, filter_flatMapC]
 congr 1
 funext i
 rw [List.filter_map, homC]
 rfl
theorem memN_succ (v : List Int) (y : Int) (n : Nat) : memN c v y (n + 1) = memN c v y n ++ (homC c (v.getD n default) y).map fun h => ((n : Int), h) := by
 rw [memN, List.range_succ, List.flatMap_append]; simp [memN]
theorem memN_len_succ (v : List Int) (y : Int) (n : Nat) : (memN c v y (n + 1)).length = (memN c v y n).length + (homC c (v.getD n default) y).length := by
 rw [memN_succ, List.length_append, List.length_map]
theorem memN_pre (v : List Int) (y : Int) {n : Nat} : ∀ {m : Nat}, n ≤ m → ∀ i, i < (memN c v y n).length → (memN c v y m).getD i default = (memN c v y n).getD i default ∧ i < (memN c v y m).length
 | 0, h, i, hi => by
  obtain rfl : n = 0 := by omega
  exact ⟨rfl, hi⟩
 | m + 1, h, i, hi => by
  by_cases e : n = m + 1
  ·subst e; exact ⟨rfl, hi⟩
  ·obtain ⟨h1, h2⟩ := memN_pre v y (n := n) (m := m) (by omega) i hi
   rw [memN_succ, List.length_append]
   refine ⟨?_, by omega⟩
   rw [← h1, List.getD_eq_getElem?_getD, List.getElem?_append_left h2, ← List.getD_eq_getElem?_getD]
theorem memC_nodup (v : List Int) (y : Int) : (memC c v y).Nodup := (pairsC_nodup v).sublist List.filter_sublist
def posC (c : Cat) (v : List Int) (p : Int × Int) : Int := indexOf (memC c v (ix c.to p.2)) p
theorem posC_in {v : List Int} {p : Int × Int} (h : TermOk c v p) : (0 ≤ posC c v p ∧ (posC c v p).toNat < (memC c v (ix c.to p.2)).length) ∧ (memC c v (ix c.to p.2)).getD (posC c v p).toNat default = p := by
 have := indexOf_in (mem_memC.mpr ⟨h, rfl⟩ : p ∈ memC c v (ix c.to p.2))
 exact ⟨⟨this.1, this.2.1⟩, this.2.2⟩
theorem posC_at {v : List Int} {y : Int} {i : Nat} (hi : i < (memC c v y).length) : posC c v ((memC c v y).getD i default) = i := by
 rw [posC, (mem_at hi).2]; exact indexOf_nodup (memC_nodup v y) hi
theorem posC_num {v : List Int} {p : Int × Int} (h : TermOk c v p) : posC c v p = (memN c v (ix c.to p.2) p.1.toNat).length + indexOf (homC c (ix v p.1) (ix c.to p.2)) p.2 := by
 have hm : p.2 ∈ homC c (ix v p.1) (ix c.to p.2) := by
  rw [homC, List.mem_filter, decide_eq_true_eq, mem_outs]
  exact ⟨⟨h.2.1.1, h.2.1.2, h.2.2⟩, rfl⟩
 obtain ⟨i1, i2, i3⟩ := indexOf_in hm
 obtain ⟨n, hn⟩ : ∃ n : Nat, p.1 = n := ⟨p.1.toNat, (Int.toNat_of_nonneg h.1.1).symm⟩
 obtain ⟨m, hmm⟩ : ∃ m : Nat, indexOf (homC c (ix v p.1) (ix c.to p.2)) p.2 = m := ⟨_, (Int.toNat_of_nonneg i1).symm⟩
 have hnl : n < v.length := by have := h.1.2; omega
 rw [hmm] at i2 i3 ⊢
 rw [hn, ix_nat] at i2 i3
 have hlt : (memN c v (ix c.to p.2) n).length + m < (memN c v (ix c.to p.2) (n + 1)).length := by rw [memN_len_succ]; omega
 obtain ⟨e1, e2⟩ := memN_pre v (ix c.to p.2) (n := n + 1) (m := v.length) (by omega) _ hlt
 have e3 : (memN c v (ix c.to p.2) (n + 1)).getD ((memN c v (ix c.to p.2) n).length + m) default = p := by
  rw [memN_succ, List.getD_eq_getElem?_getD, List.getElem?_append_right (by omega), Nat.add_sub_cancel_left, ← List.getD_eq_getElem?_getD, map_getD _ (by simpa using i2)]
  have : (homC c (v.getD n default) (ix c.to p.2)).getD m default = p.2 := by simpa [ix_nat] using i3
  rw [this, ← hn]
 rw [memN_full] at e1 e2
 have := posC_at (c := c) (v := v) (y := ix c.to p.2) e2
 rw [e1, e3] at this
 rw [this, hn]
 simp
def prN (ps : List (List Int)) : List (Int × Int) := ps.map fun q => (ix q 0, ix q 1)
theorem prN_snoc (ps : List (List Int)) (q : List Int) : prN (ps ++ [q]) = prN ps ++ [(ix q 0, ix q 1)] := by simp [prN]
theorem labs_min (n : Nat) (ps : List (List Int)) (hp : ∀ q, q ∈ ps → (0 ≤ ix q 0 ∧ (ix q 0).toNat < n) ∧ 0 ≤ ix q 1 ∧ (ix q 1).toNat < n) : ∀ k, k ≤ ps.length → ∀ u v : Nat, u < n → v < n → (labs n (ps.take k)).getD u default = (labs n (ps.take k)).getD v default → EqN (prN (ps.take k)) (u : Int) (v : Int)
 | 0, _, u, v, hu, hv, e => by
  rw [List.take_zero] at e
  have hr : ∀ w, w < n → (labs n []).getD w default = (w : Int) := fun w hw => by rw [labs, List.foldl_nil, getD_map_range _ _ hw]; rfl
  rw [hr u hu, hr v hv] at e
  rw [e]; exact .refl _
 | k + 1, hk, u, v, hu, hv, e => by
  have hkl : k < ps.length := by omega
  have ih := labs_min n ps hp k (by omega)
  obtain ⟨⟨a0, a1⟩, b0, b1⟩ := hp _ (mem_getD.mpr ⟨k, hkl, rfl⟩)
  rw [labs_succ n ps hkl] at e
  rw [take_one ps hkl, prN_snoc]
  obtain ⟨a, ha⟩ : ∃ a : Nat, ix (ps.getD k default) 0 = a := ⟨_, (Int.toNat_of_nonneg a0).symm⟩
  obtain ⟨b, hb⟩ : ∃ b : Nat, ix (ps.getD k default) 1 = b := ⟨_, (Int.toNat_of_nonneg b0).symm⟩
  rw [ha] at a1 e ⊢
  rw [hb] at b1 e ⊢
  have hll : (labs n (ps.take k)).length = n := labs_len n _
  generalize labs n (ps.take k) = A at ih e hll
  have up : ∀ {x y : Int}, EqN (prN (ps.take k)) x y → EqN (prN (ps.take k) ++ [((a : Int), (b : Int))]) x y := fun e => e.mono fun p hp => List.mem_append_left _ hp
  have hg : EqN (prN (ps.take k) ++ [((a : Int), (b : Int))]) (a : Int) (b : Int) := .gen _ _ (by simp)
  have key : ∀ w : Nat, w < n → (relab A (ix A (a : Int)) (ix A (b : Int))).getD w default = if A.getD w default = A.getD b default then A.getD a default else A.getD w default := fun w hw => by
   have := relab_ix (A := A) (a := ix A (a : Int)) (b := ix A (b : Int)) (i := (w : Int)) (by rw [hll]; simpa using hw)
   rw [ix_nat, ix_nat, ix_nat, ix_nat] at this
   rw [ix_nat, ix_nat]; exact this
  rw [key u hu, key v hv] at e
  have ha' : a < n := by simpa using a1
  have hb' : b < n := by simpa using b1
  by_cases c1 : A.getD u default = A.getD b default
  ·rw [if_pos c1] at e
   by_cases c2 : A.getD v default = A.getD b default
   ·exact up (ih u v hu hv (c1.trans c2.symm))
   ·rw [if_neg c2] at e
    exact (up (ih u b hu hb' c1)).trans (hg.symm.trans (up (ih a v ha' hv e)))
  ·rw [if_neg c1] at e
   by_cases c2 : A.getD v default = A.getD b default
   ·rw [if_pos c2] at e
    exact (up (ih u a hu ha' e)).trans (hg.trans (up (ih b v hb' hv c2.symm)))
   ·rw [if_neg c2] at e
    exact up (ih u v hu hv e)
theorem joinL_min {n : Nat} {ps : List (List Int)} (hp : ∀ q, q ∈ ps → (0 ≤ ix q 0 ∧ (ix q 0).toNat < n) ∧ 0 ≤ ix q 1 ∧ (ix q 1).toNat < n) {u v : Nat} (hu : u < n) (hv : v < n) (e : (joinL n ps).getD u default = (joinL n ps).getD v default) : EqN (prN ps) (u : Int) (v : Int) := by
 have h := labs_min n ps hp ps.length (Nat.le_refl _) u v hu hv
 rw [List.take_length] at h
 exact h ((class_ker _ (by rw [labs_len]; exact hu) (by rw [labs_len]; exact hv)).mp e)
def cpN (c : Cat) (q : QS) (y : Int) (n : Nat) : List (List Int) := ((List.range n).filter fun i : Nat => decide (ix c.to (q.l.getD i default).2 = y)).map fun i : Nat => [posC c q.v (q.l.getD i default), posC c q.v (q.r.getD i default)]
theorem cpN_t {y : Int} {n : Nat} (h : ix c.to (q.l.getD n default).2 = y) : cpN c q y (n + 1) = cpN c q y n ++ [[posC c q.v (q.l.getD n default), posC c q.v (q.r.getD n default)]] := by
 rw [cpN, range_succ_filter, if_pos (decide_eq_true h), List.map_append]; rfl
theorem cpN_f {y : Int} {n : Nat} (h : ¬ ix c.to (q.l.getD n default).2 = y) : cpN c q y (n + 1) = cpN c q y n := by
 rw [cpN, range_succ_filter, if_neg (by rw [decide_eq_false h]; simp), List.append_nil]; rfl
theorem cpN_len (y : Int) (n : Nat) : (cpN c q y n).length ≤ n := by
 rw [cpN, List.length_map]; exact Nat.le_trans (List.length_filter_le _ _) (by simp)
theorem mem_cpN (hq : q.Ok c) {y : Int} {r : List Int} (hr : r ∈ cpN c q y q.l.length) : ∃ i, i < q.l.length ∧ ix c.to (q.l.getD i default).2 = y ∧ ix c.to (q.r.getD i default).2 = y ∧ TermOk c q.v (q.l.getD i default) ∧ TermOk c q.v (q.r.getD i default) ∧ r = [posC c q.v (q.l.getD i default), posC c q.v (q.r.getD i default)] := by
 obtain ⟨i, hi, rfl⟩ := List.mem_map.mp hr
 rw [List.mem_filter, List.mem_range, decide_eq_true_eq] at hi
 obtain ⟨ha, hb, eab⟩ := hq.cond i hi.1
 exact ⟨i, hi.1, hi.2, eab ▸ hi.2, ha, hb, rfl⟩
def actP (c : Cat) (v : List Int) (a : Int) (e : Nat) : Int := posC c v (((memC c v (ix c.frm a)).getD e default).1, ix (ix c.comp ((memC c v (ix c.frm a)).getD e default).2) a)
theorem actP_in (h : c.Is) {v : List Int} {a : Int} (ha : 0 ≤ a ∧ a.toNat < c.frm.length) {e : Nat} (he : e < (memC c v (ix c.frm a)).length) :
  (0 ≤ actP c v a e ∧ (actP c v a e).toNat < (memC c v (ix c.to a)).length) ∧ (memC c v (ix c.to a)).getD (actP c v a e).toNat default = (((memC c v (ix c.frm a)).getD e default).1, ix (ix c.comp ((memC c v (ix c.frm a)).getD e default).2) a) := by
 obtain ⟨h1, h2⟩ := mem_at he
 obtain ⟨h3, h4⟩ := TermOk.comp (q := ⟨v, [], [], []⟩) h h1 ha h2
 have := posC_in h3
 simp only at this
 rw [h4] at this
 exact this
theorem actP_pos {v : List Int} {a : Int} {p : Int × Int} (hp : TermOk c v p) (e : ix c.to p.2 = ix c.frm a) : actP c v a (posC c v p).toNat = posC c v (p.1, ix (ix c.comp p.2) a) := by
 have := (posC_in hp).2
 rw [e] at this
 rw [actP, this]
structure SpI (c : Cat) (q : QS) (CC : List (List Int)) : Prop where
 len : CC.length = c.objs.toNat
 nrm : ∀ y : Nat, y < c.objs.toNat → ∃ L : List Int, L.length = (memC c q.v y).length ∧ CC.getD y default = classL L
 snd : ∀ y : Nat, y < c.objs.toNat → ∀ i j : Nat, i < (memC c q.v y).length → j < (memC c q.v y).length → (CC.getD y default).getD i default = (CC.getD y default).getD j default → EqC c q ((memC c q.v y).getD i default) ((memC c q.v y).getD j default)
 cnd : ∀ i, i < q.l.length → ix (ix CC (ix c.to (q.l.getD i default).2)) (posC c q.v (q.l.getD i default)) = ix (ix CC (ix c.to (q.l.getD i default).2)) (posC c q.v (q.r.getD i default))
theorem SpI.row {CC : List (List Int)} (s : SpI c q CC) {y : Nat} (hy : y < c.objs.toNat) : (CC.getD y default).length = (memC c q.v y).length := by
 obtain ⟨L, h1, h2⟩ := s.nrm y hy
 rw [h2, classL_len, h1]
theorem SpI.start (h : c.Is) (hq : q.Ok c) : SpI c q ((List.range c.objs.toNat).map fun y : Nat => joinL (memC c q.v y).length (cpN c q y q.l.length)) where
 len := by simp
 nrm y hy := ⟨labs (memC c q.v y).length (cpN c q y q.l.length), labs_len _ _, by rw [getD_map_range _ _ hy]; rfl⟩
 snd y hy i j hi hj e := by
  rw [getD_map_range _ _ hy] at e
  have hb : ∀ r, r ∈ cpN c q y q.l.length → (0 ≤ ix r 0 ∧ (ix r 0).toNat < (memC c q.v y).length) ∧ 0 ≤ ix r 1 ∧ (ix r 1).toNat < (memC c q.v y).length := fun r hr => by
   obtain ⟨i, hi, e1, e2, h1, h2, rfl⟩ := mem_cpN hq hr
   have p1 := (posC_in h1).1
   have p2 := (posC_in h2).1
   rw [e1] at p1
   rw [e2] at p2
   exact ⟨p1, p2⟩
  have hn := joinL_min hb hi hj e
  have key : ∀ a b, EqN (prN (cpN c q y q.l.length)) a b → a = b ∨ EqC c q ((memC c q.v y).getD a.toNat default) ((memC c q.v y).getD b.toNat default) := by
   intro a b e
   induction e with
   | gen a b hm =>
    obtain ⟨r, hr, e⟩ := List.mem_map.mp hm
    obtain ⟨i, hi, e1, e2, h1, h2, rfl⟩ := mem_cpN hq hr
    obtain ⟨rfl, rfl⟩ := Prod.mk.inj e
    have p1 := (posC_in h1).2
    have p2 := (posC_in h2).2
    rw [e1] at p1
    rw [e2] at p2
    refine .inr ?_
    show EqC c q ((memC c q.v y).getD (posC c q.v (q.l.getD i default)).toNat default) ((memC c q.v y).getD (posC c q.v (q.r.getD i default)).toNat default)
    rw [p1, p2]
    have hid := h.1.idArr (h.1.toObj h1.2.1.2)
    have e := EqC.gen (c := c) (q := q) i _ hi hid.1 hid.2.1.symm
    rw [h.idr h1.2.1, e1, ← e2, h.idr h2.2.1] at e
    exact e
   | refl x => exact .inl rfl
   | symm _ ih => exact ih.elim (fun e => .inl e.symm) fun e => .inr e.symm
   | trans _ _ ih1 ih2 =>
    rcases ih1 with e | e
    ·subst e; exact ih2
    ·rcases ih2 with e' | e'
     ·subst e'; exact .inr e
     ·exact .inr (e.trans e')
  rcases key _ _ hn with e | e
  ·have : i = j := by omega
   subst this; exact .refl _
  ·simpa using e
 cnd i hi := by
  obtain ⟨ha, hb, eab⟩ := hq.cond i hi
  have hto := h.1.toObj ha.2.1.2
  have hr : ix ((List.range c.objs.toNat).map fun y : Nat => joinL (memC c q.v y).length (cpN c q y q.l.length)) (ix c.to (q.l.getD i default).2) = joinL (memC c q.v (ix c.to (q.l.getD i default).2)).length (cpN c q (ix c.to (q.l.getD i default).2) q.l.length) := by
   rw [ix, getD_map_range _ _ (by omega), Int.toNat_of_nonneg hto.1]
  rw [hr]
  have hg := joinL_glued (n := (memC c q.v (ix c.to (q.l.getD i default).2)).length) (ps := cpN c q (ix c.to (q.l.getD i default).2) q.l.length) fun r hr => by
   obtain ⟨i, hi, e1, e2, h1, h2, rfl⟩ := mem_cpN hq hr
   have p1 := (posC_in h1).1
   have p2 := (posC_in h2).1
   rw [e1] at p1
   rw [e2] at p2
   exact ⟨p1.2, p2.2⟩
  exact hg [posC c q.v (q.l.getD i default), posC c q.v (q.r.getD i default)] (List.mem_map.mpr ⟨i, List.mem_filter.mpr ⟨List.mem_range.mpr hi, decide_eq_true rfl⟩, rfl⟩)
def MovedOk (c : Cat) (q : QS) (CC : List (List Int)) (a : Int) (r : List Int) : Prop := ∃ e e' : Nat, e < (memC c q.v (ix c.frm a)).length ∧ e' < (memC c q.v (ix c.frm a)).length ∧
 (ix CC (ix c.frm a)).getD e default = (ix CC (ix c.frm a)).getD e' default ∧ r = [actP c q.v a e, actP c q.v a e']
theorem SpI.step (h : c.Is) (hq : q.Ok c) {CC : List (List Int)} (s : SpI c q CC) {a : Int} (ha : 0 ≤ a ∧ a.toNat < c.frm.length) {M : List (List Int)} (hM : ∀ r, r ∈ M → MovedOk c q CC a r) :
  SpI c q (CC.set (ix c.to a).toNat (joinL (memC c q.v (ix c.to a)).length (pairsOf (ix CC (ix c.to a)) ++ M))) ∧
   Glued (pairsOf (ix CC (ix c.to a)) ++ M) (joinL (memC c q.v (ix c.to a)).length (pairsOf (ix CC (ix c.to a)) ++ M)) ∧
   ∀ r, r ∈ pairsOf (ix CC (ix c.to a)) ++ M → 2 ≤ r.length ∧ (0 ≤ r.getD 0 default ∧ (r.getD 0 default).toNat < (memC c q.v (ix c.to a)).length) ∧ (0 ≤ r.getD 1 default ∧ (r.getD 1 default).toNat < (memC c q.v (ix c.to a)).length) := by
 have hto := h.1.toObj ha.2
 have hfr := h.1.frmObj ha.2
 obtain ⟨y, hy⟩ : ∃ y : Nat, ix c.to a = y := ⟨_, (Int.toNat_of_nonneg hto.1).symm⟩
 have hyo : y < c.objs.toNat := by omega
 have hrow : (ix CC (ix c.to a)).length = (memC c q.v (ix c.to a)).length := by rw [hy, ix_nat]; exact s.row hyo
 have hMv : ∀ r, r ∈ M → 2 ≤ r.length ∧ (0 ≤ r.getD 0 default ∧ (r.getD 0 default).toNat < (memC c q.v (ix c.to a)).length) ∧ (0 ≤ r.getD 1 default ∧ (r.getD 1 default).toNat < (memC c q.v (ix c.to a)).length) := fun r hr => by
  obtain ⟨e, e', he, he', _, rfl⟩ := hM r hr
  exact ⟨by simp, (actP_in h ha he).1, (actP_in h ha he').1⟩
 have hb : ∀ r, r ∈ pairsOf (ix CC (ix c.to a)) ++ M → 2 ≤ r.length ∧ (0 ≤ r.getD 0 default ∧ (r.getD 0 default).toNat < (memC c q.v (ix c.to a)).length) ∧ (0 ≤ r.getD 1 default ∧ (r.getD 1 default).toNat < (memC c q.v (ix c.to a)).length) := fun r hr => by
  rcases List.mem_append.mp hr with hr | hr
  ·obtain ⟨i, hi, rfl⟩ := List.mem_map.mp hr
   rw [List.mem_range] at hi
   have h1 := indexOf_in (l := ix CC (ix c.to a)) (a := (ix CC (ix c.to a)).getD i default) (mem_getD.mpr ⟨i, hi, rfl⟩)
   rw [hrow] at h1 hi
   exact ⟨by simp, ⟨h1.1, h1.2.1⟩, by simp, by simpa using hi⟩
  ·exact hMv r hr
 have hgl := joinL_glued (n := (memC c q.v (ix c.to a)).length) (ps := pairsOf (ix CC (ix c.to a)) ++ M) fun r hr => ⟨(hb r hr).2.1.2, (hb r hr).2.2.2⟩
 have keep : ∀ u v : Nat, u < (memC c q.v (ix c.to a)).length → v < (memC c q.v (ix c.to a)).length → (ix CC (ix c.to a)).getD u default = (ix CC (ix c.to a)).getD v default →
   (joinL (memC c q.v (ix c.to a)).length (pairsOf (ix CC (ix c.to a)) ++ M)).getD u default = (joinL (memC c q.v (ix c.to a)).length (pairsOf (ix CC (ix c.to a)) ++ M)).getD v default := fun u v hu hv e => by
  have hp : ∀ w : Nat, w < (memC c q.v (ix c.to a)).length → (joinL (memC c q.v (ix c.to a)).length (pairsOf (ix CC (ix c.to a)) ++ M)).getD (indexOf (ix CC (ix c.to a)) ((ix CC (ix c.to a)).getD w default)).toNat default = (joinL (memC c q.v (ix c.to a)).length (pairsOf (ix CC (ix c.to a)) ++ M)).getD w default := fun w hw => by
   have := hgl [indexOf (ix CC (ix c.to a)) ((ix CC (ix c.to a)).getD w default), (w : Int)] (List.mem_append_left _ (List.mem_map.mpr ⟨w, List.mem_range.mpr (by omega), rfl⟩))
   exact this
  rw [← hp u hu, ← hp v hv, e]
 refine ⟨⟨by rw [List.length_set]; exact s.len, fun z hz => ?_, fun z hz i j hi hj e => ?_, fun i hi => ?_⟩, hgl, hb⟩
 ·by_cases ez : z = (ix c.to a).toNat
  ·rw [getD_setD _ _ (by rw [s.len]; omega), if_pos ez]
   refine ⟨labs _ _, ?_, rfl⟩
   rw [labs_len, ez, Int.toNat_of_nonneg hto.1]
  ·rw [getD_setD _ _ (by rw [s.len]; omega), if_neg ez]
   exact s.nrm z hz
 ·by_cases ez : z = (ix c.to a).toNat
  ·rw [getD_setD _ _ (by rw [s.len]; omega), if_pos ez] at e
   have ezi : (z : Int) = ix c.to a := by omega
   rw [ezi] at hi hj ⊢
   have hn := joinL_min (fun r hr => (hb r hr).2) hi hj e
   have key : ∀ u v, EqN (prN (pairsOf (ix CC (ix c.to a)) ++ M)) u v → u = v ∨ EqC c q ((memC c q.v (ix c.to a)).getD u.toNat default) ((memC c q.v (ix c.to a)).getD v.toNat default) := by
    intro u v e
    induction e with
    | gen u v hm =>
     obtain ⟨r, hr, e⟩ := List.mem_map.mp hm
     obtain ⟨rfl, rfl⟩ := Prod.mk.inj e
     refine .inr ?_
     rcases List.mem_append.mp hr with hr | hr
     ·obtain ⟨w, hw, rfl⟩ := List.mem_map.mp hr
      rw [List.mem_range, hrow] at hw
      have h1 := indexOf_in (l := ix CC (ix c.to a)) (a := (ix CC (ix c.to a)).getD w default) (mem_getD.mpr ⟨w, by omega, rfl⟩)
      have := s.snd y hyo (indexOf (ix CC (ix c.to a)) ((ix CC (ix c.to a)).getD w default)).toNat w (by rw [← hy]; omega) (by rw [← hy]; exact hw) (by
       have h2 := h1.2.2
       rw [hy, ix_nat] at h2 ⊢
       exact h2)
      rw [← hy] at this
      exact this
     ·obtain ⟨d, d', hd, hd', hdd, rfl⟩ := hM r hr
      show EqC c q ((memC c q.v (ix c.to a)).getD (actP c q.v a d).toNat default) ((memC c q.v (ix c.to a)).getD (actP c q.v a d').toNat default)
      rw [(actP_in h ha hd).2, (actP_in h ha hd').2]
      obtain ⟨x, hx⟩ : ∃ x : Nat, ix c.frm a = x := ⟨_, (Int.toNat_of_nonneg hfr.1).symm⟩
      have hs := s.snd x (by omega) d d' (by rw [← hx]; exact hd) (by rw [← hx]; exact hd') (by rw [hx, ix_nat] at hdd; exact hdd)
      rw [← hx] at hs
      exact hs.act h hq ha (mem_at hd).2
    | refl x => exact .inl rfl
    | symm _ ih => exact ih.elim (fun e => .inl e.symm) fun e => .inr e.symm
    | trans _ _ ih1 ih2 =>
     rcases ih1 with e | e
     ·subst e; exact ih2
     ·rcases ih2 with e' | e'
      ·subst e'; exact .inr e
      ·exact .inr (e.trans e')
   rcases key _ _ hn with e | e
   ·have : i = j := by omega
    subst this; exact .refl _
   ·simpa using e
  ·rw [getD_setD _ _ (by rw [s.len]; omega), if_neg ez] at e
   exact s.snd z hz i j hi hj e
 ·have hc := s.cnd i hi
  obtain ⟨hl, hr, elr⟩ := hq.cond i hi
  have hlo := h.1.toObj hl.2.1.2
  by_cases ez : ix c.to (q.l.getD i default).2 = ix c.to a
  ·have e1 : ix (CC.set (ix c.to a).toNat (joinL (memC c q.v (ix c.to a)).length (pairsOf (ix CC (ix c.to a)) ++ M))) (ix c.to (q.l.getD i default).2) = joinL (memC c q.v (ix c.to a)).length (pairsOf (ix CC (ix c.to a)) ++ M) := by
    rw [ez, ix, getD_setD _ _ (by rw [s.len]; omega), if_pos rfl]
   rw [e1]
   rw [ez] at hc
   have p1 := (posC_in hl).1
   have p2 := (posC_in hr).1
   rw [ez] at p1
   rw [← elr, ez] at p2
   exact keep _ _ p1.2 p2.2 hc
  ·have e1 : ix (CC.set (ix c.to a).toNat (joinL (memC c q.v (ix c.to a)).length (pairsOf (ix CC (ix c.to a)) ++ M))) (ix c.to (q.l.getD i default).2) = ix CC (ix c.to (q.l.getD i default).2) := by
    rw [ix, getD_setD _ _ (by rw [s.len]; omega), if_neg (by omega)]; rfl
   rw [e1]; exact hc
def ClosedA (c : Cat) (q : QS) (CC : List (List Int)) (a : Int) : Prop := ∀ e e' : Nat, e < (memC c q.v (ix c.frm a)).length → e' < (memC c q.v (ix c.frm a)).length → (ix CC (ix c.frm a)).getD e default = (ix CC (ix c.frm a)).getD e' default →
 ix (ix CC (ix c.to a)) (actP c q.v a e) = ix (ix CC (ix c.to a)) (actP c q.v a e')
theorem SpI.done (h : c.Is) (hq : q.Ok c) {CC : List (List Int)} (s : SpI c q CC) (hcl : ∀ a : Nat, a < c.frm.length → ClosedA c q CC a) {y : Nat} (hy : y < c.objs.toNat) : CC.getD y default = classL (labC c q.v (RQ c q) y) := by
 have val : ∀ p p', EqC c q p p' → TermOk c q.v p → TermOk c q.v p' → ix (ix CC (ix c.to p.2)) (posC c q.v p) = ix (ix CC (ix c.to p'.2)) (posC c q.v p') := by
  intro p p' e
  induction e with
  | gen i k hi hk ek =>
   intro _ _
   obtain ⟨hl, hr, elr⟩ := hq.cond i hi
   have h1 := hl.comp h hk ek
   have h2 := hr.comp h hk (elr ▸ ek)
   simp only
   rw [h1.2, h2.2]
   obtain ⟨kn, hkn⟩ : ∃ kn : Nat, k = kn := ⟨k.toNat, (Int.toNat_of_nonneg hk.1).symm⟩
   have hc := s.cnd i hi
   have p1 := (posC_in hl).1
   have p2 := (posC_in hr).1
   rw [ek] at p1 hc
   rw [← elr, ek] at p2
   have := hcl kn (by omega) (posC c q.v (q.l.getD i default)).toNat (posC c q.v (q.r.getD i default)).toNat (by rw [← hkn]; exact p1.2) (by rw [← hkn]; exact p2.2) (by rw [← hkn]; exact hc)
   rw [← hkn, actP_pos hl ek, actP_pos hr (elr ▸ ek)] at this
   exact this
  | refl p => intro _ _; rfl
  | symm _ ih => intro h1 h2; exact (ih h2 h1).symm
  | trans e1 _ ih1 ih2 => intro h1 h2; have hm := (e1.ok h hq).1.mp h1; exact (ih1 h1 hm).trans (ih2 hm h2)
 obtain ⟨L, hL, e⟩ := s.nrm y hy
 rw [e]
 refine class_eq h hq hL fun i j hi hj => ?_
 have hi' : i < (memC c q.v y).length := by omega
 have hj' : j < (memC c q.v y).length := by omega
 rw [← class_ker L hi hj, ← e]
 constructor
 ·exact s.snd y hy i j hi' hj'
 ·intro k
  have m1 := mem_at hi'
  have m2 := mem_at hj'
  have := val _ _ k m1.1 m2.1
  rw [m1.2, m2.2, posC_at hi', posC_at hj', ix_nat, ix_nat, ix_nat] at this
  exact this
theorem cls_pos {v : List Int} {R : Int → Int} {p : Int × Int} (hp : TermOk c v p) : ix (classL (labC c v R (ix c.to p.2))) (posC c v p) = clsC c v R p := by
 obtain ⟨⟨h1, h2⟩, h3⟩ := posC_in hp
 have := class_mem (R := R) h2
 rw [h3] at this
 exact this
theorem canon_quot (h : c.Is) (hq : q.Ok c) {CC : List (List Int)} (hCC : ∀ y : Nat, y < c.objs.toNat → CC.getD y default = classL (labC c q.v (RQ c q) y)) (hz : FitQ c q) {A : List (List Int)} (al : A.length = c.frm.length)
  (hl : ∀ a : Nat, a < c.frm.length → ((A.getD a default).length : Int) = mxL (ix CC (ix c.frm (a : Int))))
  (hA : ∀ a : Nat, a < c.frm.length → ∀ e : Nat, e < (memC c q.v (ix c.frm (a : Int))).length → ix (A.getD a default) ((ix CC (ix c.frm (a : Int))).getD e default) = ix (ix CC (ix c.to (a : Int))) (actP c q.v a e)) :
  CanonOk c q ⟨c, szQ c q, A⟩ (clsQ c q) := by
 have row : ∀ x : Int, 0 ≤ x ∧ x < c.objs → ix CC x = classL (labC c q.v (RQ c q) x) := fun x hx => by
  have := hCC x.toNat (by omega)
  rw [Int.toNat_of_nonneg hx.1] at this
  exact this
 refine canon_mk h hq RQ_iff (fun y hy => (hz y hy).2) al (fun a ha => ?_) fun p hp a ha e => ?_
 ·obtain ⟨n, rfl⟩ : ∃ n : Nat, a = n := ⟨a.toNat, (Int.toNat_of_nonneg ha.1).symm⟩
  have hf := h.1.frmObj ha.2
  have hn : n < c.frm.length := by simpa using ha.2
  rw [ix_nat A, hl n hn, row _ hf, mxL_class]
  exact (sizesC_ix hf).symm
 ·obtain ⟨n, rfl⟩ : ∃ n : Nat, a = n := ⟨a.toNat, (Int.toNat_of_nonneg ha.1).symm⟩
  have hn : n < c.frm.length := by simpa using ha.2
  have hf := h.1.frmObj ha.2
  have ht := h.1.toObj ha.2
  have hpc := hp.comp h ha e
  obtain ⟨⟨h1, h2⟩, h3⟩ := posC_in hp
  rw [e] at h2
  have := hA n hn (posC c q.v p).toNat h2
  rw [actP_pos hp e, row _ hf, row _ ht] at this
  have e1 := cls_pos (R := RQ c q) hp
  have e2 := cls_pos (R := RQ c q) hpc.1
  simp only at e2
  rw [e] at e1
  rw [hpc.2] at e2
  rw [← ix_nat A] at this
  rw [e2] at this
  rw [← e1]
  exact this
end
end Go.Shf
namespace Go.Shf
open Go.AW
theorem getElem_getD {α : Type} [Inhabited α] (l : List α) {i : Nat} (h : i < l.length) : l[i] = l.getD i default := by simp [List.getD_eq_getElem?_getD, h]
def enc2 (p : Int × Int) : List Int := [p.1, p.2]
theorem enc2_inj {p p' : Int × Int} (h : enc2 p = enc2 p') : p = p' := by
 simp only [enc2, List.cons.injEq, and_true] at h
 exact Prod.ext h.1 h.2
theorem indexOf_enc (l : List (Int × Int)) {p : Int × Int} (h : p ∈ l) (nd : l.Nodup) : indexOf (l.map enc2) (enc2 p) = indexOf l p := by
 obtain ⟨i, hi, e⟩ := mem_getD.mp h
 have nd2 : (l.map enc2).Nodup := List.pairwise_map.mpr (nd.imp fun {a b} hab e => hab (enc2_inj e))
 have h1 := indexOf_nodup nd hi
 have h2 := indexOf_nodup nd2 (show i < (l.map enc2).length by simpa using hi)
 rw [map_getD _ hi, e] at h2
 rw [e] at h1
 rw [h1, h2]
structure FreeX (c : Cat) (os : List Int) (k h : Nat) (LL : List (List (List Int))) : Prop extends FreeI c os k h LL where
 ex : ∀ y : Nat, y < LL.length → LL.getD y default = (memN c os y k).map enc2 ++ (homK c (os.getD k default) y h).map fun j => [(k : Int), j]
section
variable {c : Cat} {os : List Int} {k h : Nat} {LL : List (List (List Int))}
theorem FreeX.zero (hc : 0 ≤ c.objs) : FreeX c os 0 0 (List.replicate c.objs.toNat []) where
 toFreeI := FreeI.zero hc
 ex y hy := by
  rw [List.length_replicate] at hy
  simp [List.getD_eq_getElem?_getD, hy, memN, homK]
theorem FreeX.skip (s : FreeX c os k h LL) (hn : c.frm.getD h default ≠ os.getD k default) : FreeX c os k (h + 1) LL where
 toFreeI := s.toFreeI.skip hn
 ex y hy := by rw [s.ex y hy, homK_f fun e => hn e.1]
theorem FreeX.hit (s : FreeX c os k h LL) (hc : c.Shape) (hk : k < os.length) (hh : h < c.frm.length) (e : c.frm.getD h default = os.getD k default) :
  FreeX c os k (h + 1) (LL.set (c.to.getD h default).toNat (LL.getD (c.to.getD h default).toNat default ++ [[(k : Int), (h : Int)]])) where
 toFreeI := s.toFreeI.hit hc hk hh e
 ex y hy := by
  rw [List.length_set] at hy
  have ht := hc.toObj (f := (h : Int)) (by simpa using hh)
  rw [ix_nat] at ht
  have hl := s.len
  rw [getD_setD _ _ (by omega)]
  by_cases ey : y = (c.to.getD h default).toNat
  ·rw [if_pos ey, ← ey, s.ex y hy, homK_t e (by omega), List.map_append, List.append_assoc]; rfl
  ·rw [if_neg ey, s.ex y hy, homK_f fun h2 => ey (by have := h2.2; omega)]
theorem FreeX.next (s : FreeX c os k c.frm.length LL) : FreeX c os (k + 1) 0 LL where
 toFreeI := s.toFreeI.next
 ex y hy := by
  rw [s.ex y hy, homK_full, memN_succ, List.map_append, List.map_map]
  simp only [homK, List.range_zero, List.filter_nil, List.map_nil, List.append_nil]
  rfl
theorem SpI.ran {q : QS} {CC : List (List Int)} (s : SpI c q CC) {y : Nat} (hy : y < c.objs.toNat) : ∀ v, v ∈ CC.getD y default → 0 ≤ v ∧ v < ((memC c q.v y).length : Int) := fun v hv => by
 obtain ⟨L, h1, h2⟩ := s.nrm y hy
 rw [h2] at hv
 have := classL_ran hv
 omega
def LLC (c : Cat) (os : List Int) : List (List (List Int)) := (List.range c.objs.toNat).map fun y : Nat => (memC c os y).map enc2
theorem FreeX.full (s : FreeX c os os.length 0 LL) : LL = LLC c os := by
 have hl := s.len
 refine List.ext_getElem (by simp [LLC]; omega) fun y h1 h2 => ?_
 have := s.ex y h1
 rw [memN_full] at this
 simp only [homK, List.range_zero, List.filter_nil, List.map_nil, List.append_nil] at this
 simp only [LLC, List.getElem_map, List.getElem_range]
 simpa [List.getD_eq_getElem?_getD, h1] using this
theorem LLC_at {y : Int} (hy : 0 ≤ y ∧ y < c.objs) : (LLC c os).getD y.toNat default = (memC c os y).map enc2 := by
 rw [LLC, getD_map_range _ _ (by omega), Int.toNat_of_nonneg hy.1]
def freeQ (c : Cat) (os : List Int) : SF := freeF c (LLC c os)
theorem freeQ_size {y : Int} (hy : 0 ≤ y ∧ y < c.objs) : ix (freeQ c os).sizes y = ((memC c os y).length : Int) := by
 have hl : y.toNat < (LLC c os).length := by simp [LLC]; omega
 rw [ix, freeQ, freeF]
 show ((LLC c os).map fun l => (l.length : Int)).getD y.toNat default = _
 rw [map_getD _ hl, show (LLC c os).getD y.toNat default = (memC c os y).map enc2 from LLC_at hy, List.length_map]
theorem freeQ_act (hc : c.Is) {a : Nat} (ha : a < c.frm.length) : (freeQ c os).acts.getD a default = (List.range (memC c os (ix c.frm (a : Int))).length).map fun e => actP c os a e := by
 have haI : 0 ≤ (a : Int) ∧ ((a : Int)).toNat < c.frm.length := by omega
 have hf := hc.1.frmObj haI.2
 have ht := hc.1.toObj haI.2
 have hfr : ix c.frm (a : Int) = c.frm.getD a default := ix_nat _ _
 have htr : ix c.to (a : Int) = c.to.getD a default := ix_nat _ _
 have hA : ∀ e, actP c os a e = posC c os (((memC c os (c.frm.getD a default)).getD e default).1, ix (ix c.comp ((memC c os (c.frm.getD a default)).getD e default).2) (a : Int)) := fun e => by rw [actP, hfr]
 rw [hfr] at hf ⊢
 rw [htr] at ht
 rw [freeQ, freeF]
 show ((List.range c.frm.length).map (freeAct c (LLC c os))).getD a default = _
 rw [getD_map_range _ _ ha, freeAct]
 rw [show (LLC c os).getD (c.frm.getD a default).toNat default = _ from LLC_at hf, show (LLC c os).getD (c.to.getD a default).toNat default = _ from LLC_at ht, List.map_map]
 refine List.ext_getElem (by simp) fun e h1 h2 => ?_
 have he : e < (memC c os (c.frm.getD a default)).length := by simpa using h1
 simp only [List.getElem_map, List.getElem_range, Function.comp_def]
 have e1 : (memC c os (c.frm.getD a default))[e] = (memC c os (c.frm.getD a default)).getD e default := getElem_getD _ he
 rw [e1, hA]
 have hm := mem_at he
 have hcm := TermOk.comp (q := ⟨os, [], [], []⟩) hc hm.1 haI (by rw [hfr]; exact hm.2)
 have hmem : (((memC c os (c.frm.getD a default)).getD e default).1, ix (ix c.comp ((memC c os (c.frm.getD a default)).getD e default).2) (a : Int)) ∈ memC c os (c.to.getD a default) := mem_memC.mpr ⟨hcm.1, by rw [hcm.2, htr]⟩
 have := indexOf_enc _ hmem (memC_nodup os _)
 rw [enc2] at this
 have e2 : ([ix (enc2 ((memC c os (c.frm.getD a default)).getD e default)) 0, (ix c.comp (ix (enc2 ((memC c os (c.frm.getD a default)).getD e default)) 1)).getD a default] : List Int) = [((memC c os (c.frm.getD a default)).getD e default).1, ix (ix c.comp ((memC c os (c.frm.getD a default)).getD e default).2) (a : Int)] := by
  rw [ix_nat (ix c.comp ((memC c os (c.frm.getD a default)).getD e default).2)]; rfl
 rw [e2, this, posC]
 show _ = indexOf (memC c os (ix c.to (ix (ix c.comp ((memC c os (c.frm.getD a default)).getD e default).2) (a : Int)))) _
 rw [hcm.2, htr]
end
end Go.Shf
namespace Go.Shf
open Go.AW
theorem then_at {a b x y : List Int} (e : thenT a x = thenT b y) {i : Nat} (hi : i < a.length) : i < b.length ∧ ix x (a.getD i default) = ix y (b.getD i default) := by
 have hl : a.length = b.length := by simpa [thenT] using congrArg List.length e
 have := congrArg (fun l => l.getD i default) e
 simp only [thenT] at this
 rw [map_getD _ hi, map_getD _ (by omega)] at this
 exact ⟨by omega, this⟩
section
variable {c : Cat} {p q : QS} {G g : SF} {cls : Int × Int → Int}
theorem contain_rows (h : c.Is) (hp : p.Ok c) (hq : q.Ok c) (hT : thenT p.o p.v = thenT q.o q.v) (kG : CanonOk c p G cls) (hg : g.Is) (sh : g.shape = c) {s : List Int} (hs : s ∈ solQ G q) (es : thenT q.o s = thenT p.o (genT c p cls))
  {r : List Int} (hr : r ∈ rowsQ g p) : r ∈ rowsQ g q := by
 have hG := kG.is h
 have hqG : q.Ok G.shape := by rw [kG.sh]; exact hq
 have hGg : G.shape = g.shape := by rw [kG.sh, sh]
 obtain ⟨t, ht, rfl⟩ := (mem_rowsQ hg (sh ▸ hp)).mp hr
 have hm := mapC_map kG hg sh hp ht
 have hs' := movT_sol hG hg hGg hqG hm hs
 refine (mem_rowsQ hg (sh ▸ hq)).mpr ⟨_, hs', ?_⟩
 have hl : p.o.length = q.o.length := by simpa [thenT] using congrArg List.length hT
 refine List.ext_getElem (by simp [thenT, hl]) fun i h1 h2 => ?_
 have hiq : i < q.o.length := by simpa [thenT] using h1
 have hip : i < p.o.length := by omega
 obtain ⟨_, e1⟩ := then_at es hiq
 obtain ⟨_, e2⟩ := then_at hT hip
 have hoq := (hq.oAt (mem_getD.mpr ⟨i, hiq, rfl⟩)).1
 have hop := (hp.oAt (mem_getD.mpr ⟨i, hip, rfl⟩)).1
 have a1 : q.o[i] = q.o.getD i default := by simp [List.getD_eq_getElem?_getD, hiq]
 have a2 : p.o[i] = p.o.getD i default := by simp [List.getD_eq_getElem?_getD, hip]
 simp only [thenT, List.getElem_map]
 rw [a1, a2, movT_ix hoq, e1, ← e2, ← movT_ix (q := p) hop, mov_mapC kG hg sh hp ht]
theorem no_objs (h0 : c.objs = 0) (hq : q.Ok c) : q.v = [] ∧ q.o = [] ∧ q.l = [] := by
 have hv : q.v = [] := by
  cases e : q.v with
  | nil => rfl
  | cons x l => have := hq.vo x (by rw [e]; simp); omega
 refine ⟨hv, ?_, ?_⟩
 ·cases e : q.o with
  | nil => rfl
  | cons x l => have := hq.ov x (by rw [e]; simp); rw [hv] at this; simp at this <;> omega
 ·cases e : q.l with
  | nil => rfl
  | cons x l => have := (hq.cond 0 (by rw [e]; simp)).1.1; rw [hv] at this; simp at this <;> omega
theorem empty_contained (h0 : c.objs = 0) (h : c.Is) (hp : p.Ok c) (hq : q.Ok c) (kG : CanonOk c p G cls) : ∃ s, s ∈ solQ G q ∧ thenT q.o s = thenT p.o (genT c p cls) := by
 have hqG : q.Ok G.shape := by rw [kG.sh]; exact hq
 obtain ⟨q1, q2, q3⟩ := no_objs h0 hq
 obtain ⟨p1, p2, p3⟩ := no_objs h0 hp
 refine ⟨[], (mem_solQ (kG.is h) hqG).mpr ⟨?_, fun i hi => by rw [q3] at hi; simp at hi⟩, by rw [q2, p2]; rfl⟩
 rw [q1]; exact trivial
end
end Go.Shf
namespace Go.AW
def IoOnly (a : AV) : Prop := ∀ (g g' : Gh) (v : Value), (∀ i p, g.io i = some p → g'.io i = some p) → VRel g a v → VRel g' a v
theorem IoOnly.int (k : IntKind) (n : Int) : IoOnly (.int k n) := fun g g' v _ h => by cases h; exact .int k n
theorem IoOnly.bool (b : Bool) : IoOnly (.bool b) := fun g g' v _ h => by cases h; exact .bool b
def MObj.plain : MObj → Prop
 | .cells _ cs _ => ∀ c, c ∈ cs → IoOnly c
 | .map _ _ => False
def MObj.frz : MObj → MObj
 | .cells sz cs _ => .cells sz cs cs.length
 | o => o
def MObj.isMap : MObj → Bool
 | .map _ _ => true
 | _ => false
def frzo : Option MObj → Option MObj
 | some (.cells sz cs _) => some (.cells sz cs cs.length)
 | _ => none
def Heap.frz (H : Heap) : Heap := (H.filter fun x => !((H.get x.1).elim false MObj.isMap)).map fun x => (x.1, x.2.frz)
theorem Heap.get_filter (H : Heap) (p : Nat → Bool) (i : Nat) : Heap.get (H.filter fun x => p x.1) i = if p i then H.get i else none := by
 induction H with
 | nil => simp [Heap.get]
 | cons x r ih =>
  obtain ⟨j, o⟩ := x
  simp only [Heap.get, List.filter_cons, List.lookup] at ih ⊢
  by_cases hp : p j
  ·simp only [hp, if_true, List.lookup]
   by_cases e : i = j
   ·subst e; simp [hp]
   ·have : (i == j) = false := by simpa using e
    simp [this, ih]
  ·simp only [hp, Bool.false_eq_true, if_false]
   by_cases e : i = j
   ·subst e; rw [ih]; simp [hp]
   ·have : (i == j) = false := by simpa using e
    simp [this, ih]
theorem Heap.get_map (H : Heap) (f : MObj → MObj) (i : Nat) : Heap.get (H.map fun x => (x.1, f x.2)) i = (H.get i).map f := by
 induction H with
 | nil => rfl
 | cons x r ih =>
  obtain ⟨j, o⟩ := x
  simp only [Heap.get, List.map_cons, List.lookup] at ih ⊢
  by_cases e : i = j
  ·subst e; simp
  ·have : (i == j) = false := by simpa using e
   simp [this, ih]
theorem Heap.get_frz (H : Heap) (i : Nat) : H.frz.get i = frzo (H.get i) := by
 unfold Heap.frz
 rw [Heap.get_map, Heap.get_filter H fun j => !((H.get j).elim false MObj.isMap)]
 cases h : H.get i with
 | none => simp [frzo]
 | some o => cases o <;> simp [MObj.isMap, frzo, MObj.frz]
theorem frzo_some {o : Option MObj} {x : MObj} (h : frzo o = some x) : ∃ sz cs f, o = some (.cells sz cs f) ∧ x = .cells sz cs cs.length := by
 unfold frzo at h
 split at h
 ·cases h; exact ⟨_, _, _, rfl, rfl⟩
 ·cases h
inductive Tr (H : Heap) : AV → AV → Prop
 | val (a : AV) : Tr H a a
 | buf (id f : Nat) (cs es : List AV) (h : H.get id = some (.cells 1 cs f)) (hl : es.length = cs.length) (h1 : ∀ i, i < cs.length → (es.getD i nv).cells = [es.getD i nv])
   (ht : ∀ i, i < cs.length → Tr H (cs.getD i nv) (es.getD i nv)) : Tr H (.buf id cs.length) (.sl es)
 | agg (cs es : List AV) (hl : es.length = cs.length) (ht : ∀ i, i < cs.length → Tr H (cs.getD i nv) (es.getD i nv)) : Tr H (.agg cs) (.agg es)
 | ref (id sz f : Nat) (cs es : List AV) (h : H.get id = some (.cells sz cs f)) (hl : es.length = cs.length) (ht : ∀ i, i < cs.length → Tr H (cs.getD i nv) (es.getD i nv)) : Tr H (.ref id 0) (.ptr es)
def mapEs : Option Obj → Option (Array MapEntry)
 | some (.map es _) => some es
 | _ => none
noncomputable def Gh.lend (g : Gh) (H : Heap) (w : World) : Gh :=
 {
  fz := fun b o => @ite _ (∃ id cap sz cs f, H.get id = some (.cells sz cs f) ∧ g.io id = some (.blk b cap) ∧ o < cs.length) (Classical.propDecidable _) (w.cell? ⟨b, o, none⟩) (g.fz b o)
  fm := fun b => @ite _ (∃ id ks vs, H.get id = some (.map ks vs) ∧ g.io id = some (.mp b)) (Classical.propDecidable _) (mapEs w.heap[b]?) (g.fm b)
  io := g.io }
theorem Gh.le_lend {g : Gh} {B : Nat} {H : Heap} {w : World} (h : WRel g B H w) : g.le (g.lend H w) := by
 refine ⟨fun b o v e => ?_, fun b es e => ?_, fun _ _ h => h⟩
 ·simp only [Gh.lend]
  split
  ·exact h.fz b o v e
  ·exact e
 ·simp only [Gh.lend]
  split
  ·obtain ⟨clk, hc⟩ := h.fm b es e
   rw [hc]; rfl
  ·exact e
theorem WRel.lend {g : Gh} {B : Nat} {H : Heap} {w : World} (h : WRel g B H w) : WRel (g.lend H w) B H.frz w := by
 have hle := Gh.le_lend h
 have hsome : ∀ i, (H.frz.get i).isSome → (H.get i).isSome := by
  intro i e
  obtain ⟨o, e⟩ := Option.isSome_iff_exists.1 e
  rw [Heap.get_frz] at e
  obtain ⟨sz, cs, f, e, _⟩ := frzo_some e
  simp [e]
 constructor
 ·intro b o v e
  simp only [Gh.lend] at e
  split at e
  ·exact e
  ·exact h.fz b o v e
 ·intro b es e
  simp only [Gh.lend] at e
  split at e
  ·unfold mapEs at e
   split at e
   ·rename_i es' clk hc; cases e; exact ⟨clk, hc⟩
   ·cases e
  ·exact h.fm b es e
 ·intro i o e
  rw [Heap.get_frz] at e
  obtain ⟨sz, cs, f, e1, rfl⟩ := frzo_some e
  clear e
  obtain ⟨p, hp, hr⟩ := h.ob i _ e1
  refine ⟨p, hp, ?_⟩
  cases p with
  | nil => simp only [ObjRel] at hr ⊢; simp [hr.1]
  | blk b cap =>
   simp only [ObjRel] at hr ⊢
   obtain ⟨h1, h2, h3, h4, c, el, h5, h6, h7, h8⟩ := hr
   refine ⟨h1, Nat.le_refl _, h3, fun x hx => ?_, c, el, h5, h6, h7, fun i hi => (h8 i hi).mono hle⟩
   simp only [Gh.lend]
   rw [if_neg, h4 x (by omega)]
   rintro ⟨id, cap', sz', cs', f', a1, a2, a3⟩
   by_cases hid : id = i
   ·subst hid; rw [e1] at a1; cases a1; omega
   ·exact h.inj id i b cap' cap hid (by simp [a1]) (by simp [e1]) a2 hp
  | mp b => simp [ObjRel] at hr
 ·intro i j b c c' n e1 e2
  exact h.inj i j b c c' n (hsome i e1) (hsome j e2)
 ·intro i j b n e1 e2
  exact h.injm i j b n (hsome i e1) (hsome j e2)
 ·exact h.base
 ·exact h.fin
theorem Tr.vrel {g : Gh} {B : Nat} {H : Heap} {w : World} (hW : WRel g B H w) {a e : AV} (t : Tr H a e) : ∀ v, VRel g a v → VRel (g.lend H w) e v := by
 induction t with
 | val a => intro v h; exact h.mono (Gh.le_lend hW)
 | buf id f cs es h hl h1 ht ih =>
  intro v hv
  obtain ⟨p, hp, hr⟩ := hW.ob id _ h
  generalize hn : cs.length = n at *
  cases hv with
  | bufnil _ hq =>
   have : es = [] := List.eq_nil_of_length_eq_zero hl
   subst this
   exact .slnil none 0
  | buf _ _ b cap hq =>
   rw [hp] at hq; cases hq
   simp only [ObjRel] at hr
   obtain ⟨r1, r2, r3, r4, c, el, r5, r6, r7, r8⟩ := hr
   have hl' : es.length = cs.length := by omega
   have key : ∀ i j, i < es.length → j < 1 → i * 1 + j = i := by intro i j _ hj; omega
   refine hl ▸ VRel.sl es b 0 1 cap (fun i => c.getD i undef) (by omega) (by omega) (fun i hi => ?_) (fun i j hi hj => ?_) (fun i j hi hj => ?_)
   ·rw [h1 i (by omega)]; rfl
   ·rw [key i j hi hj, Nat.zero_add]
    simp only [Gh.lend]
    rw [if_pos ⟨id, cap, 1, cs, f, h, hp, by omega⟩]
    rw [cell_of_row w b i c el (0, 0) r5]
    have : i < c.size := by omega
    simp [Array.getD, this]
   ·rw [key i j hi hj, h1 i (by omega)]
    obtain rfl : j = 0 := by omega
    exact ih i (by omega) _ (r8 i (by omega))
 | agg cs es hl ht ih =>
  intro v hv
  cases hv with
  | agg _ vs hs hv => exact .agg es vs (by omega) fun i hi => ih i (by omega) _ (hv i (by omega))
 | ref id sz f cs es h hl ht ih =>
  intro v hv
  obtain ⟨p, hp, hr⟩ := hW.ob id _ h
  cases hv with
  | ref _ _ b cap hq =>
   rw [hp] at hq; cases hq
   simp only [ObjRel] at hr
   obtain ⟨r1, r2, r3, r4, c, el, r5, r6, r7, r8⟩ := hr
   refine .ptr es b 0 (fun i => c.getD i undef) (fun i hi => ?_) (fun i hi => ih i (by omega) _ (r8 i (by omega)))
   rw [Nat.zero_add]
   simp only [Gh.lend]
   rw [if_pos ⟨id, cap, sz, cs, f, h, hp, by omega⟩]
   rw [cell_of_row w b i c el (0, 0) r5]
   have : i < c.size := by omega
   simp [Array.getD, this]
theorem Heap.get_append (l H : Heap) (i : Nat) : Heap.get (l ++ H) i = (Heap.get l i).or (H.get i) := by
 induction l with
 | nil => simp [Heap.get]
 | cons x r ih =>
  obtain ⟨j, o⟩ := x
  simp only [Heap.get, List.cons_append, List.lookup] at ih ⊢
  by_cases e : i = j
  ·subst e; simp
  ·have : (i == j) = false := by simpa using e
   simp [this, ih]
theorem Heap.get_mem {l : Heap} {i : Nat} {o : MObj} (h : Heap.get l i = some o) : (i, o) ∈ l := by
 induction l with
 | nil => simp [Heap.get] at h
 | cons x r ih =>
  obtain ⟨j, o'⟩ := x
  simp only [Heap.get, List.lookup] at ih h
  by_cases e : i = j
  ·subst e; simp at h; simp [h]
  ·have : (i == j) = false := by simpa using e
   simp only [this] at h
   exact List.mem_cons_of_mem _ (ih h)
theorem WRel.giveBack {g g' : Gh} {B : Nat} {H H' l : Heap} {w w' : World} (h : WRel g B H w) (hg : (g.lend H w).le g')
  (h' : WRel g' B H' w') (ho : Owns H.frz H' l) (hl : ∀ x, x ∈ l → x.2.plain ∧ H.get x.1 = none) : g.le { g with io := g'.io } ∧ WRel { g with io := g'.io } B (l ++ H) w' := by
 have hle0 := (Gh.le_lend h).trans hg
 have hle : g.le { g with io := g'.io } := ⟨fun _ _ _ h => h, fun _ _ h => h, hle0.io⟩
 have fzn : ∀ b o, g'.fz b o = none → g.fz b o = none := by
  intro b o e
  cases e2 : g.fz b o with
  | none => rfl
  | some v => rw [hle0.fz _ _ _ e2] at e; cases e
 have hio : ∀ i o, H.get i = some o → ∃ p, g.io i = some p ∧ g'.io i = some p ∧ ObjRel g B w p o := by
  intro i o e
  obtain ⟨p, hp, hr⟩ := h.ob i o e
  exact ⟨p, hp, hle0.io _ _ hp, hr⟩
 have cases : ∀ i, (Heap.get (l ++ H) i).isSome → (∃ sz cs f, H'.get i = some (.cells sz cs f)) ∨ ∃ ks vs, H.get i = some (.map ks vs) := by
  intro i e
  rw [Heap.get_append] at e
  cases e1 : Heap.get l i with
  | some o =>
   have hm := Heap.get_mem e1
   have h1 := ho.get _ hm
   have h2 := (hl _ hm).1
   simp only at h1 h2
   cases o with
   | cells sz cs f => exact .inl ⟨_, _, _, h1⟩
   | map ks vs => exact absurd h2 (by simp [MObj.plain])
  | none =>
   rw [e1, Option.none_or] at e
   obtain ⟨o, e⟩ := Option.isSome_iff_exists.1 e
   cases o with
   | cells sz cs f =>
    have : H.frz.get i = some (.cells sz cs cs.length) := by rw [Heap.get_frz, e]; rfl
    exact .inl ⟨_, _, _, ho.sub _ _ this⟩
   | map ks vs => exact .inr ⟨_, _, e⟩
 refine ⟨hle, ?_⟩
 constructor
 ·intro b o v e; exact h'.fz _ _ _ (hle0.fz _ _ _ e)
 ·intro b es e; exact h'.fm _ _ (hle0.fm _ _ e)
 ·intro i o e
  rw [Heap.get_append] at e
  cases e1 : Heap.get l i with
  | some o1 =>
   rw [e1, Option.some_or] at e; cases e
   have hm := Heap.get_mem e1
   obtain ⟨p, hpp, hr⟩ := h'.ob i o (ho.get _ hm)
   have hpl := (hl _ hm).1
   refine ⟨p, hpp, ?_⟩
   cases o with
   | map ks vs => exact absurd hpl (by simp [MObj.plain])
   | cells sz cs f =>
    cases p with
    | nil => exact hr
    | mp b => simp [ObjRel] at hr
    | blk b cap =>
     simp only [ObjRel] at hr ⊢
     obtain ⟨r1, r2, r3, r4, c, el, r5, r6, r7, r8⟩ := hr
     refine ⟨r1, r2, r3, fun o ho => fzn _ _ (r4 o ho), c, el, r5, r6, r7, fun i hi => hpl _ ?_ g' _ _ (fun _ _ h => h) (r8 i hi)⟩
     rw [List.getD_eq_getElem?_getD, List.getElem?_eq_getElem hi]; simp
  | none =>
   rw [e1, Option.none_or] at e
   obtain ⟨p, hp0, hp1, hr0⟩ := hio i o e
   refine ⟨p, hp1, ?_⟩
   cases o with
   | map ks vs =>
    cases p with
    | nil => simp [ObjRel] at hr0
    | blk b cap => simp [ObjRel] at hr0
    | mp b =>
     simp only [ObjRel] at hr0 ⊢
     obtain ⟨q1, q2, es, clk, q3, q4, q5, q6, q7⟩ := hr0
     have hfm : (g.lend H w).fm b = some es := by
      simp only [Gh.lend]
      rw [if_pos ⟨i, ks, vs, e, hp0⟩, q3]; rfl
     obtain ⟨clk', hc⟩ := h'.fm _ _ (hg.fm _ _ hfm)
     exact ⟨q1, q2, es, clk', hc, q4, q5, fun i hi => (q6 i hi).mono hle, fun i hi => (q7 i hi).mono hle⟩
   | cells sz cs f =>
    have e2 : H.frz.get i = some (.cells sz cs cs.length) := by rw [Heap.get_frz, e]; rfl
    obtain ⟨p', hpp, hr⟩ := h'.ob i _ (ho.sub _ _ e2)
    rw [hp1] at hpp; cases hpp
    cases p with
    | nil => exact hr0
    | mp b => simp [ObjRel] at hr0
    | blk b cap =>
     simp only [ObjRel] at hr hr0 ⊢
     obtain ⟨q1, q2, q3, q4, c0, el0, q5, q6, q7, q8⟩ := hr0
     obtain ⟨r1, r2, r3, r4, c, el, r5, r6, r7, r8⟩ := hr
     refine ⟨r1, q2, r3, q4, c, el, r5, r6, r7, fun j hj => ?_⟩
     have h1 : w.cell? ⟨b, j, none⟩ = some (c0.getD j undef) := by
      rw [cell_of_row w b j c0 el0 (0, 0) q5]
      have : j < c0.size := by omega
      simp [Array.getD, this]
     have h2 : w'.cell? ⟨b, j, none⟩ = some (c0.getD j undef) := by
      refine h'.fz _ _ _ (hg.fz _ _ _ ?_)
      simp only [Gh.lend]
      rw [if_pos ⟨i, cap, sz, cs, f, e, hp0, hj⟩]; exact h1
     rw [cell_of_row w' b j c el (0, 0) r5] at h2
     have h3 : c.getD j undef = c0.getD j undef := by
      have hj' : j < c.size := by omega
      rw [Array.getElem?_eq_getElem hj'] at h2
      rw [← Option.some.inj h2]; simp [Array.getD, hj']
     rw [h3]; exact (q8 j hj).mono hle
 ·intro i j b c c' n e1 e2 e3 e4
  rcases cases i e1 with ⟨sz, cs, f, k1⟩ | ⟨ks, vs, k1⟩
  ·rcases cases j e2 with ⟨sz', cs', f', k2⟩ | ⟨ks, vs, k2⟩
   ·exact h'.inj i j b c c' n (by simp [k1]) (by simp [k2]) e3 e4
   ·obtain ⟨p, hp0, hp1, hr0⟩ := hio j _ k2
    simp only at e4; rw [hp1] at e4; cases e4; simp [ObjRel] at hr0
  ·obtain ⟨p, hp0, hp1, hr0⟩ := hio i _ k1
   simp only at e3; rw [hp1] at e3; cases e3; simp [ObjRel] at hr0
 ·intro i j b n e1 e2 e3 e4
  rcases cases i e1 with ⟨sz, cs, f, k1⟩ | ⟨ks, vs, k1⟩
  ·obtain ⟨p, hp, hr⟩ := h'.ob i _ k1
   simp only at e3; rw [hp] at e3; cases e3; simp [ObjRel] at hr
  ·rcases cases j e2 with ⟨sz', cs', f', k2⟩ | ⟨ks', vs', k2⟩
   ·obtain ⟨p, hp, hr⟩ := h'.ob j _ k2
    simp only at e4; rw [hp] at e4; cases e4; simp [ObjRel] at hr
   ·obtain ⟨p, hp0, hp1, _⟩ := hio i _ k1
    obtain ⟨q, hq0, hq1, _⟩ := hio j _ k2
    simp only at e3 e4
    rw [hp1] at e3; cases e3
    rw [hq1] at e4; cases e4
    exact h.injm i j b n (by simp [k1]) (by simp [k2]) hp0 hq0
 ·exact h'.base
 ·exact h'.fin
theorem WRel.lendNew {g g' : Gh} {B : Nat} {H H' l : Heap} {w w' : World} (h : WRel g B H w) (hg : (g.lend H w).le g') (h' : WRel g' B H' w') (ho : Owns H.frz H' l) (hl : ∀ x, x ∈ l → x.2.plain) :
  ∀ x, x ∈ l → H.get x.1 = none := by
 intro x hx
 have h1 := ho.out x hx
 have h2 := ho.get x hx
 have h3 := hl x hx
 rw [Heap.get_frz] at h1
 cases e : H.get x.1 with
 | none => rfl
 | some o =>
  rw [e] at h1
  cases o with
  | cells sz cs f => simp [frzo] at h1
  | map ks vs =>
   obtain ⟨p, hp, hr⟩ := h.ob _ _ e
   cases p with
   | nil => simp [ObjRel] at hr
   | blk b cap => simp [ObjRel] at hr
   | mp b =>
    have hp' := ((Gh.le_lend h).trans hg).io _ _ hp
    obtain ⟨q, hq, hr2⟩ := h'.ob _ _ h2
    rw [hp'] at hq; cases hq
    cases ho2 : x.2 with
    | cells sz cs f => rw [ho2] at hr2; simp [ObjRel] at hr2
    | map ks vs => rw [ho2] at h3; simp [MObj.plain] at h3
theorem CallH.borrow {P : Program} {B : Nat} {f : FuncId} {args es : List AV} {H : Heap} {K0 K : Kont} (hl : es.length = args.length)
  (ht : ∀ i, i < args.length → ∀ g w v, WRel g B H w → VRel g (args.getD i nv) v → VRel (g.lend H w) (es.getD i nv) v)
  (h : CallH P B f es H.frz K0) (hk : ∀ r H', K0 r H' → ∃ l, Owns H.frz H' l ∧ (∀ x, x ∈ l → x.2.plain) ∧ IoOnly r ∧ ((∀ x, x ∈ l → H.get x.1 = none) → K r (l ++ H))) : CallH P B f args H K := by
 refine ⟨h.1, fun g w vs hW hv => ?_⟩
 refine (h.2 _ w vs hW.lend ⟨by rw [hv.1, hl], fun i hi => ht i (by omega) g w _ hW (hv.2 i (by omega))⟩).mono fun e w' ⟨v, he, g', r, H', a, b, c, d, k⟩ => ?_
 obtain ⟨l, ho, hpl, hio, hK⟩ := hk r H' b
 have hn := hW.lendNew a d ho hpl
 obtain ⟨q1, q2⟩ := hW.giveBack a d ho fun x hx => ⟨hpl x hx, hn x hx⟩
 exact ⟨v, he, _, r, _, q1, hK hn, hio g' _ _ (fun _ _ h => h) c, q2, k⟩
theorem CallH.lentPure {P : Program} {B : Nat} {f : FuncId} {args es : List AV} {H : Heap} {K : Kont} {r : AV} (hr : IoOnly r) (hl : es.length = args.length)
  (ht : ∀ i, i < args.length → ∀ g w v, WRel g B H w → VRel g (args.getD i nv) v → VRel (g.lend H w) (es.getD i nv) v)
  (h : PureF P B f es r) (hk : K r H) : CallH P B f args H K :=
 CallH.borrow hl ht (h _) fun r' H' ⟨e1, e2⟩ => ⟨[], e2 ▸ .nil _, by simp, e1 ▸ hr, fun _ => by rw [e1]; exact hk⟩
theorem Tr.arg {B : Nat} {H : Heap} {a e : AV} (t : Tr H a e) : ∀ g w v, WRel g B H w → VRel g a v → VRel (g.lend H w) e v := fun g w v hW hv => t.vrel hW v hv
theorem val_arg {B : Nat} {H : Heap} (a : AV) : ∀ g w v, WRel g B H w → VRel g a v → VRel (g.lend H w) a v := fun g w v hW hv => hv.mono (Gh.le_lend hW)
theorem lent_arg {α : Type} [Inhabited α] {f : α → AV} [One f] {B : Nat} {H0 H : Heap} {l : List (Nat × MObj)} {id n fr : Nat} {A : List α} (o : Owns H0 H ((id, .cells 1 (A.map f) fr) :: l)) (hn : n = A.length) :
  ∀ g w v, WRel g B H w → VRel g (.buf id n) v → VRel (g.lend H w) (mL f A) v := by
 subst hn
 have h0 := o.h0
 simp only at h0
 have := Tr.buf (H := H) id fr (A.map f) (A.map f) h0 rfl (fun i hi => by rw [List.length_map] at hi; rw [getD_map A hi]; exact one_cells _) (fun i _ => .val _)
 rw [List.length_map] at this
 exact this.arg
theorem call_lent {α : Type} [Inhabited α] {f : α → AV} [One f] {P : Program} {B : Nat} {fn : FuncId} {args : List AV} {H0 H : Heap} {l : List (Nat × MObj)} {K : Kont} {id n fr : Nat} {A : List α} {r : AV} (t : Nat)
  (ha : args[t]? = some (.buf id n)) (o : Owns H0 H ((id, .cells 1 (A.map f) fr) :: l)) (hn : n = A.length) (hr : IoOnly r) (h : PureF P B fn (args.set t (mL f A)) r) (hk : K r H) : CallH P B fn args H K := by
 refine CallH.lentPure hr (by simp) (fun i hi => ?_) h hk
 by_cases e : i = t
 ·subst e
  have e1 : args.getD i nv = .buf id n := by rw [List.getD_eq_getElem?_getD, ha]; rfl
  have e2 : (args.set i (mL f A)).getD i nv = mL f A := by simp [List.getD_eq_getElem?_getD, hi]
  rw [e1, e2]
  exact lent_arg o hn
 ·have e2 : (args.set t (mL f A)).getD i nv = args.getD i nv := by
   rw [List.getD_eq_getElem?_getD, List.getElem?_set_ne (by omega), ← List.getD_eq_getElem?_getD]
  rw [e2]; exact val_arg _
theorem Owns.trans {H0 H H' base l : Heap} (h : Owns H0 H base) (k : Owns H H' l) : Owns H0 H' (l ++ base) := by
 refine ⟨h.sub.trans k.sub, fun x hx => ?_, ?_, fun x hx => ?_⟩
 ·rcases List.mem_append.mp hx with hx | hx
  ·exact k.get x hx
  ·exact k.sub _ _ (h.get x hx)
 ·rw [List.map_append, List.nodup_append]
  refine ⟨k.nd, h.nd, fun a ha b hb => ?_⟩
  obtain ⟨x, hx, rfl⟩ := List.mem_map.mp ha
  obtain ⟨y, hy, rfl⟩ := List.mem_map.mp hb
  intro e
  have h1 := k.out x hx
  have h2 := h.get y hy
  rw [← e, h1] at h2; cases h2
 ·rcases List.mem_append.mp hx with hx | hx
  ·cases e : H0.get x.1 with
   | none => rfl
   | some o => have := h.sub _ _ e; rw [k.out x hx] at this; cases this
  ·exact h.out x hx
end Go.AW
namespace Go.AW
attribute [go_sem] Nat.mul_one Bool.not_true Bool.not_false
section
variable {α : Type} [Inhabited α] {f : α → AV} [One f] {H0 H : Heap} {l : List (Nat × MObj)} {K : Kont}
omit [Inhabited α] in
theorem mks_list {n : Nat} {z : AV} (f : α → AV) (a : α) (hz : z = f a) (h : Owns H0 H l) (hk : ∀ id H', Owns H0 H' ((id, .cells 1 ((List.replicate n a).map f) 0) :: l) → K (.buf id n) H') :
  newBuf n 1 (rep n [z]) K H := by
 rw [rep_one]; subst hz
 refine newBuf_own h fun id H' o => hk id H' ?_
 rw [List.map_replicate]; exact o
omit [One f] in
theorem rd_own {id off fr sz : Nat} {A : List α} (h : Owns H0 H ((id, .cells sz (A.map f) fr) :: l)) (ho : off < A.length) (hk : K (f (A.getD off default)) H) :
  rd1 (H.get id) none off K H := by
 have h0 := h.h0
 simp only at h0
 rw [h0, rd1_1]
 refine ⟨by simpa using ho, ?_⟩
 rw [getD_map A ho]; exact hk
omit [Inhabited α] in
theorem set_own {id off : Nat} {A : List α} (a : α) {v : AV} (h : Owns H0 H ((id, .cells 1 (A.map f) 0) :: l)) (hv : v = f a) (ho : off < A.length)
  (hk : ∀ H', Owns H0 H' ((id, .cells 1 ((A.set off a).map f) 0) :: l) → K nv H') : st1 (H.get id) id off 1 [v] K H := by
 subst hv
 have h0 := h.h0
 simp only at h0
 rw [h0, st1_c]
 refine ⟨⟨by omega, by rw [List.length_map]; omega, rfl, fun c hc => ?_⟩, ?_⟩
 ·rw [List.mem_singleton] at hc; subst hc; exact One.one a
 ·have e : wr (A.map f) off [f a] = (A.set off a).map f := by
   simp only [wr, List.map_set]
  rw [e]
  exact hk _ (h.put _)
end
theorem filt_t {α : Type} [Inhabited α] {p : α → Bool} {l : List α} {k : Nat} (h : k < l.length) (hp : p (l.getD k default) = true) : (l.take (k + 1)).filter p = (l.take k).filter p ++ [l.getD k default] := by
 rw [take_succ' l h, List.filter_append]; simp only [List.filter_cons, hp, if_true, List.filter_nil]
theorem filt_f {α : Type} [Inhabited α] {p : α → Bool} {l : List α} {k : Nat} (h : k < l.length) (hp : p (l.getD k default) = false) : (l.take (k + 1)).filter p = (l.take k).filter p := by
 rw [take_succ' l h, List.filter_append]; simp only [List.filter_cons, hp, Bool.false_eq_true, if_false, List.filter_nil, List.append_nil]
theorem filt_len {α : Type} (p : α → Bool) (l : List α) (k : Nat) : ((l.take k).filter p).length ≤ k := Nat.le_trans (List.length_filter_le _ _) (by rw [List.length_take]; omega)
theorem Wk.call {P : Program} {B : Nat} {fn : FuncId} {args args' : List AV} {H H' : Heap} {K : Kont} (hl : args'.length = args.length)
  (hw : ∀ g w vs, WRel g B H w → VRels g args vs → ∃ g', g.le g' ∧ WRel g' B H' w ∧ VRels g' args' vs) (h : CallH P B fn args' H' K) : CallH P B fn args H K := by
 refine ⟨h.1, fun g w vs hW hv => ?_⟩
 obtain ⟨g', q1, q2, q3⟩ := hw g w vs hW hv
 exact (h.2 g' w vs q2 q3).mono fun e w' ⟨v, he, g2, r, H2, a, b⟩ => ⟨v, he, g2, r, H2, q1.trans a, b⟩
theorem call_fz {α : Type} [Inhabited α] {f : α → AV} [One f] {P : Program} {B : Nat} {fn : FuncId} {args : List AV} {H0 H : Heap} {l : List (Nat × MObj)} {K : Kont} {id n fr : Nat} {A : List α} (t : Nat)
  (ha : args[t]? = some (.buf id n)) (o : Owns H0 H ((id, .cells 1 (A.map f) fr) :: l)) (hn : n = A.length)
  (hk : ∀ H', Owns H0 H' l → CallH P B fn (args.set t (mL f A)) H' K) : CallH P B fn args H K := by
 subst hn
 have h0 := o.h0
 simp only at h0
 have ht : t < args.length := by
  rcases Nat.lt_or_ge t args.length with h | h
  ·exact h
  ·rw [List.getElem?_eq_none h] at ha; cases ha
 have hone : ∀ c, c ∈ A.map f → c.one = true := by
  intro c hc; obtain ⟨a, _, rfl⟩ := List.mem_map.mp hc; exact One.one a
 refine Wk.call (by simp) (fun g w vs hW hv => ?_) (hk _ (o.put (.cells 1 (A.map f) (A.map f).length)).tl)
 obtain ⟨σ', H', hwk, rfl, rfl⟩ := fz_wk (t := t) (σ := [(t, some (.buf id A.length))]) (H := H) (F := fun σ' H' => σ' = Env.put [(t, some (.buf id A.length))] t (.sl (A.map f)) ∧ H' = H.set id (.cells 1 (A.map f) (A.map f).length)) (by
  have : Env.get [(t, some (AV.buf id A.length))] t = some (.buf id A.length) := by simp [Env.get]
  rw [this]
  simp only [fzW, h0, fz1]
  refine ⟨⟨by simp, by omega, hone⟩, ?_, trivial⟩
  rw [chunk_one _ _ (by simp)])
 obtain ⟨g', q1, q2, q3⟩ := hwk g B w vs hW (fun s v e => by
  simp only [Env.get] at e
  split at e
  ·rename_i e2; subst e2; cases e
   have := hv.2 s ht
   rw [List.getD_eq_getElem?_getD, ha] at this
   exact ⟨by rw [hv.1]; exact ht, this⟩
  ·cases e)
 refine ⟨g', q1, q2, by rw [hv.1]; simp, fun i hi => ?_⟩
 rw [List.length_set] at hi
 by_cases e : i = t
 ·subst e
  have := (q3 i (.sl (A.map f)) (by simp [Env.put, Env.get])).2
  have e2 : (args.set i (mL f A)).getD i nv = .sl (A.map f) := by simp [List.getD_eq_getElem?_getD, hi, mL]
  rw [e2]; exact this
 ·have e2 : (args.set t (mL f A)).getD i nv = args.getD i nv := by
   rw [List.getD_eq_getElem?_getD, List.getElem?_set_ne (by omega), ← List.getD_eq_getElem?_getD]
  rw [e2]; exact (hv.2 i hi).mono q1
end Go.AW
