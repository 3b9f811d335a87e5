/- Plain: names with who has them, rising by name, and what each call makes of them; no condition. -/
import Derived.Test.YtmkfpaohlmejkaaDoorMapR
import Derived.Test.YtmkfpaohlmejkaaDoorProg
import Derived.StringKeys
import Derived.Lib.ValidLaws
namespace Go.Proofs.YtmkfpaohlmejkaaDoor
open Go.RowKit

/-- A text that may be an atom. -/
def okA (s : ByteArray) : Bool := decide (s.size ≤ 255) && Lib.validD s.data.toList
def undefS : ByteArray := { data := #[117, 110, 100, 101, 102, 105, 110, 101, 100] }
structure En where
  n : ByteArray
  p : Int
  deriving DecidableEq
def eEn : El En := ⟨2, fun x => [.string x.n, .int .i64 x.p], fun _ => rfl, fun _ u h => by simp at h; rcases h with rfl | rfl <;> rfl, by decide⟩
def IsPid (p : Int) : Prop := 1 ≤ p ∧ p ≤ 1099511627776
instance (p : Int) : Decidable (IsPid p) := inferInstanceAs (Decidable (_ ∧ _))
def ltS (a b : ByteArray) : Prop := a.data.toList < b.data.toList
instance (a b : ByteArray) : Decidable (ltS a b) := inferInstanceAs (Decidable (_ < _))
theorem ltS.irr (a : ByteArray) : ¬ ltS a a := List.lt_irrefl _
theorem ltS.ne {a b : ByteArray} (h : ltS a b) : a ≠ b := fun e => ltS.irr b (e ▸ h)
theorem ltS.trans {a b c : ByteArray} (h : ltS a b) (k : ltS b c) : ltS a c := List.lt_trans h k
theorem ltS.tri {a b : ByteArray} (h : a ≠ b) : ltS a b ∨ ltS b a := by
  rcases Classical.em (ltS a b) with h1 | h1
  · exact .inl h1
  · rcases Classical.em (ltS b a) with h2 | h2
    · exact .inr h2
    · exact absurd (List.le_antisymm (List.not_lt.1 h2) (List.not_lt.1 h1)) (fun e => h (by cases a; cases b; congr; exact Array.ext' e))
structure GOk (l : List En) : Prop where
  rise : l.Pairwise (fun x y => ltS x.n y.n)
  pids : l.Pairwise (fun x y => x.p ≠ y.p)
  good : ∀ x ∈ l, okA x.n = true ∧ x.n ≠ undefS ∧ IsPid x.p
  len : l.length ≤ 64
theorem GOk.nil : GOk [] := ⟨List.Pairwise.nil, List.Pairwise.nil, fun _ h => (by cases h), by simp⟩
def whoE (l : List En) : List (ByteArray × Value) := l.map (fun x => (x.n, .int .i64 x.p))
def nameE (l : List En) : List (Int × Value) := l.map (fun x => (x.p, .string x.n))
def atN (l : List En) (s : ByteArray) : Option En := l.find? (fun x => decide (x.n = s))
def atP (l : List En) (p : Int) : Option En := l.find? (fun x => decide (x.p = p))
def outN (l : List En) (s : ByteArray) : List En := l.filter (fun x => decide (x.n ≠ s))
theorem look_who (l : List En) (s : ByteArray) : look (whoE l) s = (atN l s).map (fun x => .int .i64 x.p) := by
  unfold look whoE atN
  rw [List.find?_map, Option.map_map]; rfl
theorem look_name (l : List En) (p : Int) : look (nameE l) p = (atP l p).map (fun x => .string x.n) := by
  unfold look nameE atP
  rw [List.find?_map, Option.map_map]; rfl
section
variable {l : List En}
theorem atN_some {s : ByteArray} {x : En} (h : atN l s = some x) : x ∈ l ∧ x.n = s := ⟨List.mem_of_find?_eq_some h, by simpa using List.find?_some h⟩
theorem atP_some {p : Int} {x : En} (h : atP l p = some x) : x ∈ l ∧ x.p = p := ⟨List.mem_of_find?_eq_some h, by simpa using List.find?_some h⟩
theorem atN_none {s : ByteArray} (h : atN l s = none) : ∀ x ∈ l, x.n ≠ s := fun x hx => by simpa using List.find?_eq_none.1 h x hx
theorem atP_none {p : Int} (h : atP l p = none) : ∀ x ∈ l, x.p ≠ p := fun x hx => by simpa using List.find?_eq_none.1 h x hx
theorem GOk.names (h : GOk l) : l.Pairwise (fun x y => x.n ≠ y.n) := h.rise.imp fun h => h.ne
theorem GOk.out (h : GOk l) (s : ByteArray) : GOk (outN l s) :=
  ⟨h.rise.filter _, h.pids.filter _, fun x hx => h.good x (List.mem_filter.1 hx).1, Nat.le_trans (List.length_filter_le _ _) h.len⟩
theorem pw_uniq {α β : Type} {f : α → β} {l : List α} (h : l.Pairwise (fun x y => f x ≠ f y)) {x y : α} (hx : x ∈ l) (hy : y ∈ l) (e : f x = f y) : x = y := by
  induction l with
  | nil => cases hx
  | cons z l ih =>
    obtain ⟨h1, h2⟩ := List.pairwise_cons.1 h
    rcases List.mem_cons.1 hx with rfl | hx' <;> rcases List.mem_cons.1 hy with rfl | hy'
    · rfl
    · exact absurd e (h1 y hy')
    · exact absurd e.symm (h1 x hx')
    · exact ih h2 hx' hy'
theorem GOk.uniqN (h : GOk l) {x y : En} (hx : x ∈ l) (hy : y ∈ l) (e : x.n = y.n) : x = y := pw_uniq (f := En.n) h.names hx hy e
theorem GOk.uniqP (h : GOk l) {x y : En} (hx : x ∈ l) (hy : y ∈ l) (e : x.p = y.p) : x = y := pw_uniq (f := En.p) h.pids hx hy e
theorem cut_who (s : ByteArray) : cut (whoE l) s = whoE (outN l s) := by
  unfold cut whoE outN
  rw [List.filter_map]; rfl
theorem cut_name (h : GOk l) {s : ByteArray} {x : En} (hx : atN l s = some x) : cut (nameE l) x.p = nameE (outN l s) := by
  unfold cut nameE outN
  rw [List.filter_map]
  congr 1
  apply List.filter_congr
  intro y hy
  obtain ⟨h1, h2⟩ := atN_some hx
  have : y.p = x.p ↔ y.n = s := ⟨fun e => by rw [h.uniqP hy h1 e]; exact h2, fun e => by rw [h.uniqN hy h1 (e.trans h2.symm)]⟩
  simp only [Function.comp, ne_eq, this]
/-- An entry put where it belongs. -/
def ins (l : List En) (e : En) (k : Nat) : List En := l.take k ++ e :: l.drop k
structure InsAt (l : List En) (e : En) (k : Nat) : Prop where
  le : k ≤ l.length
  lo : ∀ x ∈ l.take k, ltS x.n e.n
  hi : ∀ x ∈ l.drop k, ltS e.n x.n
theorem ins_perm (l : List En) (e : En) (k : Nat) : (e :: l).Perm (ins l e k) := by
  unfold ins
  have h := List.perm_middle (a := e) (l₁ := l.take k) (l₂ := l.drop k)
  rw [List.take_append_drop] at h
  exact h.symm
theorem GOk.ins (h : GOk l) {e : En} {k : Nat} (hk : InsAt l e k) (hp : atP l e.p = none) (hg : okA e.n = true ∧ e.n ≠ undefS ∧ IsPid e.p) (hl : l.length < 64) : GOk (ins l e k) := by
  have hpm := ins_perm l e k
  refine ⟨?_, ?_, fun x hx => ?_, by rw [← hpm.length_eq]; exact hl⟩
  · unfold Go.Proofs.YtmkfpaohlmejkaaDoor.ins
    have h1 := h.rise
    rw [← List.take_append_drop k l, List.pairwise_append] at h1
    rw [List.pairwise_append]
    refine ⟨h1.1, List.pairwise_cons.2 ⟨hk.hi, h1.2.1⟩, fun a ha b hb => ?_⟩
    rcases List.mem_cons.1 hb with rfl | hb
    · exact hk.lo a ha
    · exact h1.2.2 a ha b hb
  · exact hpm.pairwise (List.pairwise_cons.2 ⟨fun y hy => (fun e1 => atP_none hp y hy e1.symm), h.pids⟩) (fun h => Ne.symm h)
  · rcases List.mem_cons.1 (hpm.mem_iff.2 hx) with rfl | hx
    · exact hg
    · exact h.good x hx
theorem rise_uniq {l m : List En} (h1 : l.Pairwise (fun x y => ltS x.n y.n)) (h2 : m.Pairwise (fun x y => ltS x.n y.n)) (hp : l.Perm m) : l = m :=
  List.Perm.eq_of_pairwise (fun _ _ _ _ a b => absurd (a.trans b) (ltS.irr _)) h1 h2 hp
end
end Go.Proofs.YtmkfpaohlmejkaaDoor
