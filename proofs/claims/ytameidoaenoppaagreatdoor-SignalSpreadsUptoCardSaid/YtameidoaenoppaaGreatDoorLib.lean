/- Plain laws on worlds, owned rows and append; no condition. -/
import Derived.WalkKit
import Derived.WalkSpells
import Derived.WalkLawsBesides
import Derived.BigQuiet
import Derived.Deep.QuietTactic
import Derived.KernelRfl
import Derived.Laws.OwnMore
import Derived.Deep.CutBlock
import Derived.Deep.DeepCutAuto
import Derived.Deep.LoopGhost
import Derived.Deep.RegionHeld3
import Derived.BigRegion
import Derived.Deep.RegionLaw
import Derived.RegionTactic
import Derived.Deep.RegionWith
/- Plain laws on worlds: which blocks a call may change, rows that a call owns, append as one step. No program in sight. -/
namespace Go.Proofs.YtameidoaenoppaaGreatDoor
open Go.RowKit

/-- A fact laid aside from the walk. -/
structure Kp (p : Prop) : Prop where
  out : p

/-- w' is w but for the blocks of F and new blocks. -/
structure Chg (F : Nat → Prop) (w w' : World) : Prop where
  os : w'.os = w.os
  tape : w'.tape = w.tape
  output : w'.output = w.output
  size : w.heap.size ≤ w'.heap.size
  block : ∀ k, k < w.heap.size → ¬ F k → w'.heap[k]? = w.heap[k]?

def NoF : Nat → Prop := fun _ => False

theorem Chg.refl (F : Nat → Prop) (w : World) : Chg F w w := ⟨rfl, rfl, rfl, Nat.le_refl _, fun _ _ _ => rfl⟩
theorem Chg.trans {F G : Nat → Prop} {a b c : World} (h : Chg F a b) (k : Chg G b c) (hG : ∀ n, n < a.heap.size → G n → F n) : Chg F a c :=
  ⟨k.os.trans h.os, k.tape.trans h.tape, k.output.trans h.output, Nat.le_trans h.size k.size, fun i hi hn =>
    (k.block i (Nat.lt_of_lt_of_le hi h.size) (fun hg => hn (hG i hi hg))).trans (h.block i hi hn)⟩
theorem Chg.mono {F G : Nat → Prop} {a b : World} (h : Chg F a b) (hG : ∀ n, n < a.heap.size → F n → G n) : Chg G a b :=
  ⟨h.os, h.tape, h.output, h.size, fun i hi hn => h.block i hi (fun hf => hn (hG i hi hf))⟩
theorem Chg.then {F : Nat → Prop} {a b c : World} (h : Chg F a b) (k : Chg F b c) : Chg F a c := h.trans k fun _ _ h => h
theorem Chg.alloc {F : Nat → Prop} {a w : World} (h : Chg F a w) (o : Obj) : Chg F a (w.alloc o) :=
  h.trans (G := NoF) ⟨rfl, rfl, rfl, by simp, fun k hk _ => Below.heap_alloc _ _ _ hk⟩ (fun _ _ h => h.elim)
theorem Chg.drew {F : Nat → Prop} {a w : World} (h : Chg F a w) : Chg F a w.drew := ⟨h.os, h.tape, h.output, h.size, h.block⟩
theorem Chg.drewN {F : Nat → Prop} {a w : World} (h : Chg F a w) (n : Nat) : Chg F a (w.drewN n) := ⟨h.os, h.tape, h.output, h.size, h.block⟩
theorem Chg.set {F : Nat → Prop} {a w : World} (h : Chg F a w) {p : Addr} (hp : F p.block ∨ a.heap.size ≤ p.block) (u : Value) : Chg F a (w.setCell p u) :=
  ⟨h.os, h.tape, h.output, by simpa [World.setCell] using h.size, fun k hk hn => by
    rw [Below.heap_setCell _ _ _ _ (by rintro rfl; rcases hp with hp | hp; exact hn hp; omega)]; exact h.block k hk hn⟩
theorem chg_cell (w : World) (g o : Nat) (u : Value) : Chg (fun k => k = g) w (w.setCell ⟨g, o, none⟩ u) := (Chg.refl (fun k => k = g) w).set (p := ⟨g, o, none⟩) (.inl rfl) u
theorem Chg.of_below {w w' : World} (h : Below w.heap.size w w') (F : Nat → Prop) : Chg F w w' := ⟨h.os, h.tape, h.output, h.size, fun k hk _ => h.block k hk⟩
theorem Chg.below {B : Nat} {w w' : World} (h : Chg (fun k => B ≤ k) w w') (hB : B ≤ w.heap.size) : Below B w w' := ⟨h.os, h.tape, h.output, h.size, fun k hk => h.block k (by omega) (by omega)⟩
theorem Chg.below_all {w w' : World} {F : Nat → Prop} (h : Chg F w w') (hF : ∀ k, F k → w.heap.size ≤ k) : Below w.heap.size w w' := ⟨h.os, h.tape, h.output, h.size, fun k hk => h.block k hk (fun hf => by have := hF k hf; omega)⟩
theorem Chg.at {F : Nat → Prop} {w w' : World} (h : Chg F w w') {b : Nat} {o : Obj} (hb : w.heap[b]? = some o) (hn : ¬ F b) : w'.heap[b]? = some o := (h.block b (lt_of_block hb) hn).trans hb

theorem chg_below {B : Nat} {w a b : World} {F : Nat → Prop} (h : Below B w a) (k : Chg F a b) (hF : ∀ g, F g → B ≤ g) (hB : B ≤ a.heap.size) : Below B w b :=
  h.trans ⟨k.os, k.tape, k.output, k.size, fun i hi => k.block i (by omega) (fun hf => by have := hF i hf; omega)⟩
theorem bstep {B : Nat} {w a b : World} (h : Below B w a) (hB : B ≤ a.heap.size) (k : Below a.heap.size a b) : Below B w b := h.trans (k.mono hB)
/-- A slice value that owns nothing of w. -/
def Fresh (w : World) (v : Value) : Prop := ∀ g, v.ownBlock = some g → w.heap.size ≤ g
theorem Fresh.nil (w : World) (n c : Nat) : Fresh w (.slice none n c) := fun g h => by cases h
theorem Fresh.app {w a : World} {v v' : Value} (h : Fresh w v) (hs : w.heap.size ≤ a.heap.size) (h3 : v'.ownBlock = v.ownBlock ∨ ∃ g, v'.ownBlock = some g ∧ a.heap.size ≤ g) : Fresh w v' := by
  intro g hg
  rcases h3 with h3 | ⟨g', h3, h4⟩
  · exact h g (h3 ▸ hg)
  · rw [h3] at hg; cases hg; omega
theorem Fresh.up {w a : World} {v : Value} (h : Fresh a v) (hs : w.heap.size ≤ a.heap.size) : Fresh w v := fun g hg => Nat.le_trans hs (h g hg)

/-! ### blocks -/
theorem blk_c {w : World} {p : Nat} {c : Array Value} {T : TypeId} (h : w.heap[p]? = some (.cells c T (0, 0))) (k : Nat) : w.cell? ⟨p, k, none⟩ = c[k]? := by simp [World.cell?, h]
theorem blk_f {w : World} {p : Nat} {c : Array Value} {T : TypeId} (h : w.heap[p]? = some (.cells c T (0, 0))) (k : Nat) : w.frozen? ⟨p, k, none⟩ = false := by simp [World.frozen?, h]
theorem blk_set {w : World} {p : Nat} {c : Array Value} {T : TypeId} (h : w.heap[p]? = some (.cells c T (0, 0))) (k : Nat) (u : Value) :
    (w.setCell ⟨p, k, none⟩ u).heap[p]? = some (.cells (c.setIfInBounds k u) T (0, 0)) := heap_setCell_same w p k c T u h
theorem blk_set_ne {w : World} {p q k : Nat} {o : Obj} (h : w.heap[p]? = some o) (hq : p ≠ q) (u : Value) : (w.setCell ⟨q, k, none⟩ u).heap[p]? = some o := by
  rw [Below.heap_setCell _ _ _ _ (by simpa using hq)]; exact h
theorem blk_alloc {w : World} {p : Nat} {o : Obj} (h : w.heap[p]? = some o) (o' : Obj) : (w.alloc o').heap[p]? = some o := by rw [Below.heap_alloc _ _ _ (lt_of_block h)]; exact h
theorem blk_new (w : World) (o : Obj) : (w.alloc o).heap[w.heap.size]? = some o := heap_alloc_new w o

/-! ### elements of slices -/
structure El (α : Type) where
  k : Nat
  f : α → List Value
  len : ∀ x, (f x).length = k
  one : ∀ x u, u ∈ f x → u.oneCell' = true
  pos : 0 < k

def El.flat {α : Type} (E : El α) (l : List α) : List Value := l.flatMap E.f
theorem El.flat_nil {α : Type} (E : El α) : E.flat [] = [] := rfl
theorem El.flat_cons {α : Type} (E : El α) (x : α) (l : List α) : E.flat (x :: l) = E.f x ++ E.flat l := rfl
theorem El.flat_append {α : Type} (E : El α) (l m : List α) : E.flat (l ++ m) = E.flat l ++ E.flat m := by simp [El.flat]
theorem El.flat_one {α : Type} (E : El α) (x : α) : E.flat [x] = E.f x := by simp [El.flat]
theorem El.flat_length {α : Type} (E : El α) (l : List α) : (E.flat l).length = l.length * E.k := by
  induction l with
  | nil => simp [El.flat]
  | cons x l ih => rw [E.flat_cons, List.length_append, E.len, ih, List.length_cons, Nat.add_mul, Nat.one_mul, Nat.add_comm]
theorem El.flat_one_cell {α : Type} (E : El α) (l : List α) : ∀ u ∈ E.flat l, u.oneCell' = true := by
  intro u hu
  obtain ⟨x, _, hx⟩ := List.mem_flatMap.1 hu
  exact E.one x u hx
theorem El.flat_get {α : Type} (E : El α) (l : List α) (i j : Nat) (hi : i < l.length) (hj : j < E.k) : (E.flat l)[i * E.k + j]? = (E.f l[i])[j]? := by
  induction l generalizing i with
  | nil => simp at hi
  | cons x l ih =>
    rw [E.flat_cons]
    cases i with
    | zero => rw [List.getElem?_append_left (by rw [E.len]; omega)]; simp
    | succ i =>
      rw [List.getElem?_append_right (by rw [E.len, Nat.add_mul]; omega), E.len]
      have e : (i + 1) * E.k + j - E.k = i * E.k + j := by rw [Nat.add_mul]; omega
      rw [e, ih i (by simpa using hi)]
      simp
theorem El.flat_set {α : Type} (E : El α) (l : List α) (i j : Nat) (y : α) (u : Value) (hi : i < l.length) (hj : j < E.k) (hy : E.f y = (E.f l[i]).set j u) :
    (E.flat l).set (i * E.k + j) u = E.flat (l.set i y) := by
  induction l generalizing i with
  | nil => simp at hi
  | cons x l ih =>
    cases i with
    | zero =>
      rw [E.flat_cons, List.set_cons_zero, E.flat_cons, List.set_append_left _ _ (by rw [E.len]; omega)]
      simp at hy ⊢
      rw [hy]
    | succ i =>
      rw [E.flat_cons, List.set_cons_succ, E.flat_cons, List.set_append_right _ _ (by rw [E.len, Nat.add_mul]; omega), E.len]
      have e : (i + 1) * E.k + j - E.k = i * E.k + j := by rw [Nat.add_mul]; omega
      rw [e, ih i (by simpa using hi) (by simpa using hy)]

/-- A slice value that reads as elements. -/
structure Src {α : Type} (w : World) (E : El α) (A : Option Addr) (c : Nat) (l : List α) : Prop where
  cell : ∀ ad, A = some ad → ∀ j u, (E.flat l)[j]? = some u → w.cell? (ad.add j) = some u
  none : A = none → l = [] ∧ c = 0
theorem Src.at {α : Type} {w : World} {E : El α} {ad : Addr} {c : Nat} {l : List α} (h : Src w E (some ad) c l) (i j : Nat) (hi : i < l.length) (hj : j < E.k) :
    w.cell? (ad.add (i * E.k + j)) = (E.f l[i])[j]? := by
  have h1 := E.flat_get l i j hi hj
  have hlt : j < (E.f l[i]).length := by rw [E.len]; exact hj
  have h2 := h.cell ad rfl (i * E.k + j) ((E.f l[i])[j]) (by rw [h1, List.getElem?_eq_getElem hlt])
  rw [h2, List.getElem?_eq_getElem hlt]
theorem Src.addr {α : Type} {w : World} {E : El α} {ad : Addr} {c : Nat} {l : List α} (h : Src w E (some ad) c l) (hl : 0 < l.length) : ∃ g o, ad = ⟨g, o, Option.none⟩ := by
  have h1 := h.at 0 0 hl E.pos
  have hlt : 0 < (E.f l[0]).length := by rw [E.len]; exact E.pos
  rw [List.getElem?_eq_getElem hlt] at h1
  have e : ad.add (0 * E.k + 0) = ad := by simp [Addr.add]
  rw [e] at h1
  refine ⟨ad.block, ad.off, ?_⟩
  cases ad with
  | mk b o s =>
    cases s with
    | none => rfl
    | some s =>
      simp only [World.cell?] at h1
      split at h1 <;> simp at h1
theorem Src.elem {α : Type} {w : World} {E : El α} {g o c : Nat} {l : List α} (h : Src w E (some ⟨g, o, Option.none⟩) c l) (i j : Nat) (hi : i < l.length) (hj : j < E.k) :
    w.cell? ⟨g, o + i * E.k + j, Option.none⟩ = (E.f l[i])[j]? := by
  have h1 := h.at i j hi hj
  rwa [Addr.add_lit, ← Nat.add_assoc] at h1
theorem Src.below {α : Type} {w w' : World} {E : El α} {A : Option Addr} {c : Nat} {l : List α} (h : Src w E A c l) (hb : Below w.heap.size w w') : Src w' E A c l :=
  ⟨fun ad ha j u hu => by
    have h1 := h.cell ad ha j u hu
    exact (hb.cell (World.block_lt_of_cell? w _ h1)).trans h1, h.none⟩

theorem src_new {α : Type} (w : World) (E : El α) (T : TypeId) (cs : Array Value) (y : α) (hcs : cs.toList = E.f y) {bn : Nat} (hb : bn = w.heap.size) : Src (w.alloc (.cells cs T)) E (some ⟨bn, 0, Option.none⟩) 1 [y] := by
  subst hb
  refine ⟨fun ad ha j u hu => ?_, fun h => by cases h⟩
  cases ha
  rw [Addr.add_lit, Nat.zero_add, blk_c (blk_new w _)]
  rw [E.flat_one, ← hcs] at hu
  simpa using hu

/-- A row that is owned: nil, or a block of its own that begins with the elements. -/
structure Own {α : Type} (w : World) (T : TypeId) (E : El α) (v : Value) (l : List α) : Prop where
  row : w.ownsRow 0 T E.k v l.length (E.flat l)
section
variable {α : Type} {w w' : World} {T : TypeId} {E : El α} {v : Value} {l : List α}
theorem Own.nil (w : World) (T : TypeId) (E : El α) : Own w T E (.slice none 0 0) [] := ⟨World.ownsRow_nil _ _ _ _⟩
theorem Own.shape (h : Own w T E v l) : ∃ A c, v = .slice A l.length c ∧ l.length ≤ c ∧ c ≤ maxLen ∧ (A = none → l = [] ∧ c = 0) ∧ (∀ a, A = some a → ∃ g, a = ⟨g, 0, none⟩) := by
  rcases h.row.2 with ⟨rfl, hn⟩ | ⟨g, cap, cur, rfl, _, hg, hc, hm, _⟩
  · have : l = [] := List.eq_nil_of_length_eq_zero hn
    subst this
    exact ⟨none, 0, rfl, Nat.le_refl _, by simp [maxLen], fun _ => ⟨rfl, rfl⟩, fun _ h => by cases h⟩
  · exact ⟨_, _, rfl, hc, hm, fun h => (by cases h), fun a ha => ⟨g, by cases ha; rfl⟩⟩
theorem Own.frame (h : Own w T E v l) {F : Nat → Prop} (hc : Chg F w w') (hn : ∀ g, v.ownBlock = some g → ¬ F g) : Own w' T E v l := by
  refine ⟨h.row.1, ?_⟩
  rcases h.row.2 with h0 | ⟨g, cap, cur, rfl, hb, hg, rest⟩
  · exact .inl h0
  · exact .inr ⟨g, cap, cur, rfl, hb, hc.at hg (hn g rfl), rest⟩
theorem Own.below (h : Own w T E v l) (hc : Below w.heap.size w w') : Own w' T E v l := h.frame (Chg.of_below hc NoF) fun _ _ h => h
theorem Own.drew (h : Own w T E v l) : Own w.drew T E v l := ⟨h.row.drew⟩
theorem Own.alloc (h : Own w T E v l) (o : Obj) : Own (w.alloc o) T E v l := h.frame ((Chg.refl NoF w).alloc o) fun _ _ h => h
theorem Own.set_ne (h : Own w T E v l) {q k : Nat} (hq : v.ownBlock ≠ some q) (u : Value) : Own (w.setCell ⟨q, k, none⟩ u) T E v l :=
  h.frame ((Chg.refl (fun g => g = q) w).set (p := ⟨q, k, none⟩) (.inl rfl) u) fun g hg e => hq (by rw [hg, e])
theorem Own.lt (h : Own w T E v l) {g : Nat} (hg : v.ownBlock = some g) : g < w.heap.size := (h.row.lt g hg).2
theorem Own.src (h : Own w T E v l) {A : Option Addr} {n c : Nat} (hv : v = .slice A n c) : Src w E A c l := by
  subst hv
  rcases h.row.2 with ⟨h1, hn⟩ | ⟨g, cap, cur, h1, _, hg, hc, hm, hs, ht⟩
  · cases h1
    exact ⟨fun _ h => (by cases h), fun _ => ⟨List.eq_nil_of_length_eq_zero hn, rfl⟩⟩
  · cases h1
    exact ⟨fun ad ha j u hu => by cases ha; exact h.row.cells rfl j u hu, fun h => by cases h⟩
theorem Own.elem {g n c : Nat} (h : Own w T E (.slice (some ⟨g, 0, none⟩) n c) l) (i j : Nat) (hi : i < l.length) (hj : j < E.k) : w.cell? ⟨g, i * E.k + j, none⟩ = (E.f l[i])[j]? := by
  have h1 := E.flat_get l i j hi hj
  have hlt : j < (E.f l[i]).length := by rw [E.len]; exact hj
  have h2 := (h.src rfl).cell _ rfl (i * E.k + j) ((E.f l[i])[j]) (by rw [h1, List.getElem?_eq_getElem hlt])
  rw [Addr.add_lit, Nat.zero_add] at h2
  rw [h2, List.getElem?_eq_getElem hlt]
theorem Own.blk {g n c : Nat} (h : Own w T E (.slice (some ⟨g, 0, none⟩) n c) l) : ∃ cur, w.heap[g]? = some (.cells cur T (0, 0)) := by
  rcases h.row.2 with ⟨h1, _⟩ | ⟨g', cap, cur, h1, _, hg, _⟩
  · cases h1
  · cases h1; exact ⟨cur, hg⟩
theorem Own.blk' (h : Own w T E v l) {g : Nat} (hg : v.ownBlock = some g) : ∃ cur, w.heap[g]? = some (.cells cur T (0, 0)) := by
  rcases h.row.2 with ⟨rfl, _⟩ | ⟨g', cap, cur, rfl, _, hg', _⟩
  · cases hg
  · cases hg; exact ⟨cur, hg'⟩
/-- Another type's block is another block. -/
theorem Own.ne (h : Own w T E v l) {p : Nat} {c : Array Value} {T' : TypeId} (hp : w.heap[p]? = some (.cells c T' (0, 0))) (hT : T ≠ T') : v.ownBlock ≠ some p := by
  intro hg
  obtain ⟨cur, hc⟩ := h.blk' hg
  rw [hc] at hp
  cases hp
  exact hT rfl
theorem Own.frozen {g n c : Nat} (h : Own w T E (.slice (some ⟨g, 0, none⟩) n c) l) (j : Nat) : w.frozen? ⟨g, j, none⟩ = false := by
  obtain ⟨cur, hc⟩ := h.blk
  exact blk_f hc j
theorem Own.set {g n c : Nat} (h : Own w T E (.slice (some ⟨g, 0, none⟩) n c) l) (hn : n = l.length) (i j : Nat) (y : α) (u : Value) (hi : i < l.length) (hj : j < E.k) (hy : E.f y = (E.f l[i]).set j u) :
    Own (w.setCell ⟨g, i * E.k + j, none⟩ u) T E (.slice (some ⟨g, 0, none⟩) n c) (l.set i y) := by
  subst hn
  have := (h.row.stored (i * E.k + j) u).1
  rw [E.flat_set l i j y u hi hj hy] at this
  exact ⟨by simpa using this⟩
end

/-- A slice type of the program, whose elements are of the kind E. -/
structure SlT {α : Type} (P : Program) (t e : TypeId) (E : El α) (by_ : Nat) : Prop where
  u : P.underlying t = some (.slice e)
  i : ∃ i z, P.info? e = some i ∧ i.zero = some z ∧ i.size = E.k ∧ i.bytes = by_ ∧ z.cells.size = E.k

theorem SlT.mk' {α : Type} {P : Program} {t e : TypeId} {E : El α} {by_ k : Nat} {z : Value} (hu : P.underlying t = some (.slice e)) (h : (P.info? e).map (fun i => (i.zero, i.size, i.bytes)) = some (some z, k, by_)) (hk : E.k = k) (hz : z.cells.size = k) : SlT P t e E by_ := by
  obtain ⟨i, hi, h0, h1, h2⟩ := info_parts h
  exact ⟨hu, i, z, hi, h0, h1.trans hk.symm, h2, hz.trans hk.symm⟩

section
variable {α : Type} {P : Program} {w : World} {t ty e : TypeId} {E : El α} {by_ : Nat} {v : Value} {l xs : List α}
/-- 'append(v, x..)', v a row of one's own. -/
theorem run_app (hT : SlT P t e E by_) (hown : Own w e E v l) {A : Option Addr} {m c : Nat} (hm : m = xs.length) (hsrc : Src w E A c xs) (hb : (l.length + xs.length) * by_ ≤ 140737488355328) (hmax : l.length + xs.length ≤ 9000000000000000000) :
    ∃ v' w', (Builtin.append_ #[t, t] ty #[v, .slice A m c]).run P w = .ok v' w' ∧ Own w' e E v' (l ++ xs) ∧ Chg (fun g => v.ownBlock = some g) w w' ∧
      (v'.ownBlock = v.ownBlock ∨ ∃ g, v'.ownBlock = some g ∧ w.heap.size ≤ g) := by
  subst hm
  obtain ⟨hu, i, z, hi, hz, hsz, hby, hzs⟩ := hT
  have hrow := hown.row
  have hlx : (E.flat xs).length = xs.length * E.k := E.flat_length xs
  cases A with
  | none =>
    obtain ⟨rfl, rfl⟩ := hsrc.none rfl
    refine ⟨v, w, ?_, by simpa using hown, Chg.refl _ _, .inl rfl⟩
    exact run_append_owned_none (P := P) w 0 t ty e i E.k hu hi v _ _ hrow
  | some ad =>
    have hcell := hsrc.cell ad rfl
    have h1c := E.flat_one_cell xs
    have hpos := E.pos
    rcases hrow.2 with ⟨rfl, hn⟩ | ⟨g, cap, cur, rfl, _, hg, hc, hm, hs, ht⟩
    · have hl : l = [] := List.eq_nil_of_length_eq_zero hn
      subst hl
      by_cases h0 : xs = []
      · subst h0
        refine ⟨.slice none 0 0, w, ?_, by simpa using hown, Chg.refl _ _, .inl rfl⟩
        simp [Builtin.append_, run_underlying hu, sizeOf, typeInfo, hi, Builtin.lenOf, Builtin.firstCells, loadCells, loadCellsFrom]
      · have h0' : 0 < xs.length := List.length_pos_iff.2 h0
        have hr := run_append_nil (P := P) w t ty e i z hu hi hz ad xs.length c (E.flat xs) (by rw [hsz]; exact hlx) hcell h0' (by simp at hmax; omega) (by rw [hby]; simp at hb; omega)
        refine ⟨_, _, hr, ⟨?_⟩, ((Chg.refl _ w).drew).alloc _, .inr ⟨w.heap.size, rfl, Nat.le_refl _⟩⟩
        have hge : xs.length ≤ grownCap w xs.length 0 e := grownCap_ge w _ _ _
        have hcm : grownCap w xs.length 0 e ≤ maxLen := grownCap_le_maxLen w _ _ _ (by simp only [maxLen]; simp at hmax; omega)
        refine ⟨by simpa using hlx, .inr ⟨w.heap.size, _, _, rfl, Nat.zero_le _, heap_alloc_new w.drew _, by simpa using hge, hcm, ?_, ?_⟩⟩
        · simp only [Array.size_append, List.size_toArray, size_zeroCells, hzs, hlx, ← Nat.add_mul]
          congr 1
          omega
        · simp only [Array.toList_append, List.nil_append]
          rw [← hlx]
          exact List.take_left
    · have hll : (E.flat l).length = l.length * E.k := E.flat_length l
      by_cases hroom : l.length + xs.length ≤ cap
      · have hfit : l.length * E.k + (E.flat xs).length ≤ cur.size := by rw [hlx, hs, ← Nat.add_mul]; exact Nat.mul_le_mul_right _ hroom
        have hr := run_append_room (P := P) w t ty e i hu hi g l.length cap cur hg ad xs.length c (E.flat xs) (by rw [hsz]; exact hlx) hcell h1c hroom (by rw [hsz]; exact hfit)
        refine ⟨_, _, hr, ⟨?_⟩, ⟨rfl, rfl, rfl, by simp, fun k _ hk => setRow_other w g k _ (fun e => hk (by simp [Value.ownBlock, e]))⟩, .inl rfl⟩
        rw [hsz]
        refine ⟨by rw [E.flat_length], .inr ⟨g, cap, _, by simp, Nat.zero_le _, setRow_heap w g cur _ e _ hg, by simpa using hroom, hm, ?_, ?_⟩⟩
        · simp only [List.size_toArray, List.length_append, List.length_take, List.length_drop, Array.length_toList]
          omega
        · rw [ht, E.flat_append]
          have e2 : (l ++ xs).length * E.k = (E.flat l ++ E.flat xs).length := by rw [List.length_append, List.length_append, hll, hlx, Nat.add_mul]
          rw [e2]
          exact List.take_left
      · have holds : ∀ j u, (E.flat l)[j]? = some u → w.cell? ((⟨g, 0, none⟩ : Addr).add j) = some u := hrow.cells (g := g) rfl
        have hr := run_append_grow (P := P) w t ty e i z hu hi hz ⟨g, 0, none⟩ l.length cap (E.flat l) (by rw [hsz]; exact hll) holds ad xs.length c (E.flat xs) (by rw [hsz]; exact hlx) hcell (by omega) (by omega)
          (growslice_fits (by omega) (by rw [hby]; exact hb))
        refine ⟨_, _, hr, ⟨?_⟩, ((Chg.refl _ w).drew).alloc _, .inr ⟨w.heap.size, rfl, Nat.le_refl _⟩⟩
        have hge := grownCap_ge w (l.length + xs.length) cap e
        have hcm : grownCap w (l.length + xs.length) cap e ≤ maxLen := grownCap_le_maxLen w _ _ _ (by simp only [maxLen]; omega)
        refine ⟨by rw [E.flat_length], .inr ⟨w.heap.size, _, _, by simp, Nat.zero_le _, heap_alloc_new w.drew _, by simpa using hge, hcm, ?_, ?_⟩⟩
        · simp only [Array.size_append, List.size_toArray, size_zeroCells, hzs, hlx, hll, ← Nat.add_mul]
          congr 1
          omega
        · simp only [Array.toList_append, List.append_assoc, E.flat_append]
          rw [← List.append_assoc]
          have e2 : (l ++ xs).length * E.k = (E.flat l ++ E.flat xs).length := by rw [List.length_append, List.length_append, hll, hlx, Nat.add_mul]
          rw [e2]
          exact List.take_left

variable {ops : Array Oper} {rest : List Oper} {o : Oper} {a : Act} {Q : Exit → Act → World → Prop}
variable {K : Act → World → Prop} {E' : Prop}
/-- append as one step of a region that draws its order. -/
theorem app_step (hT : SlT P t e E by_) (hgd : o.guard = none) (s x : Operand) (ho : o.op = .call { callee := .builtin .append, args := #[s, x], argTypes := #[t, t] })
    {A : Option Addr} {m c : Nat} (hown : Own w e E v l) (hs : a.eval s = v) (hsrc : Src w E A c xs) (hm : m = xs.length) (hx : a.eval x = .slice A m c)
    (hb : (l.length + xs.length) * by_ ≤ 140737488355328) (hmax : l.length + xs.length ≤ 9000000000000000000)
    (h : ∀ A' n' c' w', Kp (n' = l.length + xs.length) → Own w' e E (.slice A' n' c') (l ++ xs) → Chg (fun g => v.ownBlock = some g) w w' → ((Value.slice A' n' c').ownBlock = v.ownBlock ∨ ∃ g, (Value.slice A' n' c').ownBlock = some g ∧ w.heap.size ≤ g) → K (a.put o.dst (.slice A' n' c')) w') :
    if Region.wanted o (yielded ops a.tmps) = true then Oper.wp P o a w K Q else E' := by
  obtain ⟨v', w', hr, h2, h3, h4⟩ := run_app (P := P) (ty := o.type) hT hown hm hsrc hb hmax
  obtain ⟨A', c', hv, _⟩ := h2.shape
  rw [List.length_append] at hv
  subst hv
  have hw : Region.wanted o (yielded ops a.tmps) = true := by simp [Region.wanted, hgd]
  rw [if_pos hw]
  unfold Oper.wp execOp
  simp only [ho, resolve, invoke, builtin, Sem.run_bind, Sem.run_pure, Result.andThen_ok, List.map_toArray, List.map_cons, List.map_nil, hs, hx, hr]
  exact h A' _ c' w' ⟨rfl⟩ h2 h3 h4
theorem app1_step (hT : SlT P t e E by_) (y : α) (hgd : o.guard = none) (s x : Operand) (ho : o.op = .call { callee := .builtin .append, args := #[s, x], argTypes := #[t, t] })
    {W0 : World} {cs : Array Value} (hown : Own W0 e E v l) (hW : w = W0.alloc (.cells cs e)) (hs : a.eval s = v) {bn : Nat} (hx : a.eval x = .slice (some ⟨bn, 0, none⟩) 1 1) (hbn : bn = W0.heap.size) (hcs : cs.toList = E.f y)
    (hb : (l.length + 1) * by_ ≤ 140737488355328) (hmax : l.length + 1 ≤ 9000000000000000000)
    (h : ∀ A' n' c' w', Kp (n' = l.length + 1) → Own w' e E (.slice A' n' c') (l ++ [y]) → Chg (fun g => v.ownBlock = some g) W0 w' → ((Value.slice A' n' c').ownBlock = v.ownBlock ∨ ∃ g, (Value.slice A' n' c').ownBlock = some g ∧ W0.heap.size ≤ g) → K (a.put o.dst (.slice A' n' c')) w') :
    if Region.wanted o (yielded ops a.tmps) = true then Oper.wp P o a w K Q else E' := by
  subst hW
  subst hbn
  refine app_step hT hgd s x ho (xs := [y]) (hown.alloc _) hs ⟨?_, fun h => by cases h⟩ rfl hx hb hmax ?_
  · intro ad ha j u hu
    cases ha
    rw [Addr.add_lit, Nat.zero_add, blk_c (blk_new W0 _)]
    rw [E.flat_one, ← hcs] at hu
    simpa using hu
  · intro A' n' c' w' h0 h1 h2 h3
    refine h A' n' c' w' h0 h1 (((Chg.refl _ W0).alloc _).then h2) ?_
    rcases h3 with h3 | ⟨g, h3, h4⟩
    · exact .inl h3
    · exact .inr ⟨g, h3, by simp at h4; omega⟩
/-- append as one step of the walk. -/
theorem app_ev (hT : SlT P t e E by_) (hgd : o.guard = none) (s x : Operand) (ho : o.op = .call { callee := .builtin .append, args := #[s, x], argTypes := #[t, t] })
    {A : Option Addr} {m c : Nat} (hown : Own w e E v l) (hs : a.eval s = v) (hsrc : Src w E A c xs) (hm : m = xs.length) (hx : a.eval x = .slice A m c)
    (hb : (l.length + xs.length) * by_ ≤ 140737488355328) (hmax : l.length + xs.length ≤ 9000000000000000000)
    (h : ∀ A' n' c' w', Kp (n' = l.length + xs.length) → Own w' e E (.slice A' n' c') (l ++ xs) → Chg (fun g => v.ownBlock = some g) w w' → ((Value.slice A' n' c').ownBlock = v.ownBlock ∨ ∃ g, (Value.slice A' n' c').ownBlock = some g ∧ w.heap.size ≤ g) → wpList P ops Q rest (a.put o.dst (.slice A' n' c')) w') :
    wpList P ops Q (o :: rest) a w := by
  obtain ⟨v', w', hr, h2, h3, h4⟩ := run_app (P := P) (ty := o.type) hT hown hm hsrc hb hmax
  obtain ⟨A', c', hv, _⟩ := h2.shape
  rw [List.length_append] at hv
  subst hv
  refine wpList_plain hgd fun K hK => ?_
  unfold Oper.wp execOp
  simp only [ho, resolve, invoke, builtin, Sem.run_bind, Sem.run_pure, Result.andThen_ok, List.map_toArray, List.map_cons, List.map_nil, hs, hx, hr]
  exact hK _ _ (h A' _ c' w' ⟨rfl⟩ h2 h3 h4)

/-- make([]T, n) for elements of one cell. -/
theorem mk_ev {z : Value} (hu : P.underlying t = some (.slice e)) (hinfo : (P.info? e).map (fun i => (i.zero, i.size, i.bytes)) = some (some z, 1, by_)) (hz : z.cells = #[z]) (y : α) (hy : E.f y = [z]) (hE : E.k = 1)
    (hgd : o.guard = none) (x1 x2 : Operand) (ho : o.op = .makeSlice t x1 x2) (n : Nat) (h1 : a.eval x1 = .int .i64 n) (h2 : a.eval x2 = .int .i64 n) (hb : by_ * n ≤ 281474976710656) (hm : n ≤ 9000000000000000000)
    (h : ∀ w', Own w' e E (.slice (some ⟨w.heap.size, 0, none⟩) n n) (List.replicate n y) → Chg NoF w w' → w.heap.size < w'.heap.size → wpList P ops Q rest (a.put o.dst (.slice (some ⟨w.heap.size, 0, none⟩) n n)) w') :
    wpList P ops Q (o :: rest) a w := by
  obtain ⟨i, hi, h0, hs, hby⟩ := info_parts hinfo
  obtain ⟨w', hr, hown, hg⟩ := run_make_full (P := P) w 0 t e i z 1 hu hi h0 hs .i64 .i64 n (by rw [hby]; exact hb) (by simp only [maxLen]; omega) (Nat.zero_le _)
  have hlt := (hown.lt w.heap.size rfl).2
  refine wpList_plain hgd fun K hK => ?_
  unfold Oper.wp execOp
  simp only [ho, Sem.run_bind, Sem.run_pure, Result.andThen_ok, h1, h2, hr]
  refine hK _ _ (h w' ⟨?_⟩ ⟨hg.os, hg.tape, hg.output, hg.size, fun k hk _ => hg.block k hk (by simp)⟩ hlt)
  have e1 : E.flat (List.replicate n y) = (madeCells z.cells (n * 1)).toList := by
    rw [hz, Nat.mul_one, toList_madeCells_one]
    unfold El.flat
    rw [List.flatMap_replicate, hy]
    simp
  rw [e1, hE, List.length_replicate]
  exact hown

/-- append of one element that has just been laid. -/
theorem app1_ev (hT : SlT P t e E by_) (y : α) (hgd : o.guard = none) (s x : Operand) (ho : o.op = .call { callee := .builtin .append, args := #[s, x], argTypes := #[t, t] })
    {W0 : World} {cs : Array Value} (hown : Own W0 e E v l) (hW : w = W0.alloc (.cells cs e)) (hs : a.eval s = v) {bn : Nat} (hx : a.eval x = .slice (some ⟨bn, 0, none⟩) 1 1) (hbn : bn = W0.heap.size) (hcs : cs.toList = E.f y)
    (hb : (l.length + 1) * by_ ≤ 140737488355328) (hmax : l.length + 1 ≤ 9000000000000000000)
    (h : ∀ A' n' c' w', Kp (n' = l.length + 1) → Own w' e E (.slice A' n' c') (l ++ [y]) → Chg (fun g => v.ownBlock = some g) W0 w' → ((Value.slice A' n' c').ownBlock = v.ownBlock ∨ ∃ g, (Value.slice A' n' c').ownBlock = some g ∧ W0.heap.size ≤ g) → wpList P ops Q rest (a.put o.dst (.slice A' n' c')) w') :
    wpList P ops Q (o :: rest) a w := by
  subst hW
  subst hbn
  refine app_ev hT hgd s x ho (xs := [y]) (hown.alloc _) hs ⟨?_, fun h => by cases h⟩ rfl hx hb hmax ?_
  · intro ad ha j u hu
    cases ha
    rw [Addr.add_lit, Nat.zero_add, blk_c (blk_new W0 _)]
    rw [E.flat_one, ← hcs] at hu
    simpa using hu
  · intro A' n' c' w' h0 h1 h2 h3
    refine h A' n' c' w' h0 h1 (((Chg.refl _ W0).alloc _).then h2) ?_
    rcases h3 with h3 | ⟨g, h3, h4⟩
    · exact .inl h3
    · exact .inr ⟨g, h3, by simp at h4; omega⟩
end

/-- Two lists place by place. -/
structure PW {α : Type} (l l' : List α) (f : Nat → α → α) : Prop where
  len : l'.length = l.length
  at_ : ∀ i c, l[i]? = some c → l'[i]? = some (f i c)
theorem PW.refl {α : Type} (l : List α) : PW l l (fun _ c => c) := ⟨rfl, fun _ _ h => h⟩
theorem PW.ext {α : Type} {l l' : List α} {f g : Nat → α → α} (h : PW l l' f) (hg : ∀ i c, l[i]? = some c → f i c = g i c) : PW l l' g := ⟨h.len, fun i c hc => by rw [h.at_ i c hc, hg i c hc]⟩
theorem PW.set {α : Type} {l l' : List α} {f : Nat → α → α} (h : PW l l' f) (k : Nat) (hk : k < l.length) (y : α) : PW l (l'.set k y) (fun i c => if i = k then y else f i c) :=
  ⟨by simp [h.len], fun i c hc => by
    rw [List.getElem?_set]
    by_cases e : k = i
    · subst e
      rw [if_pos rfl, if_pos (by rw [h.len]; exact hk), if_pos rfl]
    · rw [if_neg e, if_neg (fun x => e x.symm), h.at_ i c hc]⟩
theorem PW.eq {α : Type} {l l' : List α} {f : Nat → α → α} (h : PW l l' f) : l' = l.mapIdx f := by
  apply List.ext_getElem?
  intro i
  rw [List.getElem?_mapIdx]
  cases hc : l[i]? with
  | none =>
    rw [List.getElem?_eq_none_iff] at hc
    rw [Option.map_none, List.getElem?_eq_none_iff, h.len]; exact hc
  | some c => rw [h.at_ i c hc]; rfl

/-- The element kinds of everyday. -/
def eI64 : El Int := ⟨1, fun x => [.int .i64 x], fun _ => rfl, fun _ u h => by simp at h; subst h; rfl, by decide⟩
def eStr : El ByteArray := ⟨1, fun x => [.string x], fun _ => rfl, fun _ u h => by simp at h; subst h; rfl, by decide⟩
def eBool : El Bool := ⟨1, fun x => [.bool x], fun _ => rfl, fun _ u h => by simp at h; subst h; rfl, by decide⟩

end Go.Proofs.YtameidoaenoppaaGreatDoor
