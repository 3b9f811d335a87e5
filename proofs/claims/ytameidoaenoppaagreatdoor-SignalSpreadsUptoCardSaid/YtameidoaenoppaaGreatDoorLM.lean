/- Plain: bonds by their numbers, and the three maps that package links keeps of them; no condition. -/
import Derived.Test.YtameidoaenoppaaGreatDoorMapV
namespace Go.Proofs.YtameidoaenoppaaGreatDoor
open Go.RowKit

structure Bd where
  a : Int
  b : Int
  r : Int
  deriving DecidableEq
def eBd : El Bd := ⟨3, fun x => [.int .i64 x.a, .int .i64 x.b, .int .i64 x.r], fun _ => rfl, fun _ u h => by simp at h; rcases h with rfl | rfl | rfl <;> rfl, by decide⟩
def vB (x : Bd) : Value := .agg #[.int .i64 x.a, .int .i64 x.b, .int .i64 x.r]
def IsPid (p : Int) : Prop := 1 ≤ p ∧ p ≤ 1099511627776
instance (p : Int) : Decidable (IsPid p) := inferInstanceAs (Decidable (_ ∧ _))
def Good (x : Bd) : Prop := IsPid x.a ∧ IsPid x.b ∧ (x.r = 0 ∧ x.a < x.b ∨ 1 ≤ x.r ∧ x.r ≤ 281474976710656)
abbrev NB := Int × Bd
structure GOk (ns : List NB) (last : Int) : Prop where
  rise : ns.Pairwise (fun p q => p.1 < q.1)
  top : ∀ p ∈ ns, 1 ≤ p.1 ∧ p.1 ≤ last
  last0 : 0 ≤ last
  good : ∀ p ∈ ns, Good p.2
  pairs : ns.Pairwise (fun p q => p.2.r = 0 → q.2.r = 0 → (p.2.a, p.2.b) ≠ (q.2.a, q.2.b))
  refs : ns.Pairwise (fun p q => p.2.r ≠ 0 → p.2.r ≠ q.2.r)
  len : ns.length ≤ 1024
def bondsE (ns : List NB) : List (Int × Value) := ns.map (fun p => (p.1, vB p.2))
def linksE (ns : List NB) : List ((Int × Int) × Value) := (ns.filter (fun p => decide (p.2.r = 0))).map (fun p => ((p.2.a, p.2.b), .int .i64 p.1))
def refsE (ns : List NB) : List (Int × Value) := (ns.filter (fun p => decide (p.2.r ≠ 0))).map (fun p => (p.2.r, .int .i64 p.1))
def outN (ns : List NB) (n : Int) : List NB := ns.filter (fun p => decide (p.1 ≠ n))
theorem GOk.nil : GOk [] 0 := ⟨List.Pairwise.nil, fun _ h => (by cases h), Int.le_refl _, fun _ h => (by cases h), List.Pairwise.nil, List.Pairwise.nil, by simp⟩
section
variable {ns : List NB} {last : Int}
theorem GOk.out (h : GOk ns last) (n : Int) : GOk (outN ns n) last :=
  ⟨h.rise.filter _, fun p hp => h.top p (List.mem_filter.1 hp).1, h.last0, fun p hp => h.good p (List.mem_filter.1 hp).1, h.pairs.filter _, h.refs.filter _, Nat.le_trans (List.length_filter_le _ _) h.len⟩
theorem GOk.num (h : GOk ns last) {p q : NB} (hp : p ∈ ns) (hq : q ∈ ns) (e : p.1 = q.1) : p = q := by
  have := h.rise
  induction ns with
  | nil => cases hp
  | cons z ns ih =>
    obtain ⟨h1, h2⟩ := List.pairwise_cons.1 this
    rcases List.mem_cons.1 hp with rfl | hp' <;> rcases List.mem_cons.1 hq with rfl | hq'
    · rfl
    · have := h1 q hq'; omega
    · have := h1 p hp'; omega
    · exact ih ⟨h2, fun p hp => h.top p (.tail _ hp), h.last0, fun p hp => h.good p (.tail _ hp), (List.pairwise_cons.1 h.pairs).2, (List.pairwise_cons.1 h.refs).2, by have := h.len; simp at this; omega⟩ hp' hq' h2
/-- Of two elements of a list that is pairwise so, whichever comes first. -/
theorem pw_mem {α : Type} {R : α → α → Prop} {l : List α} (h : l.Pairwise R) (hs : ∀ a b, R a b → R b a) {p q : α} (hp : p ∈ l) (hq : q ∈ l) : p = q ∨ R p q := by
  induction l with
  | nil => cases hp
  | cons z l ih =>
    obtain ⟨h1, h2⟩ := List.pairwise_cons.1 h
    rcases List.mem_cons.1 hp with rfl | hp' <;> rcases List.mem_cons.1 hq with rfl | hq'
    · exact .inl rfl
    · exact .inr (h1 q hq')
    · exact .inr (hs _ _ (h1 p hp'))
    · exact ih h2 hp' hq'
theorem GOk.pair (h : GOk ns last) {p q : NB} (hp : p ∈ ns) (hq : q ∈ ns) (e1 : p.2.r = 0) (e2 : q.2.r = 0) (e : (p.2.a, p.2.b) = (q.2.a, q.2.b)) : p = q := by
  rcases pw_mem h.pairs (fun a b hab x y z => hab y x z.symm) hp hq with h1 | h1
  · exact h1
  · exact absurd e (h1 e1 e2)
theorem GOk.ref (h : GOk ns last) {p q : NB} (hp : p ∈ ns) (hq : q ∈ ns) (e1 : p.2.r ≠ 0) (e : p.2.r = q.2.r) : p = q := by
  rcases pw_mem h.refs (fun a b hab x y => hab (by rw [← y]; exact x) y.symm) hp hq with h1 | h1
  · exact h1
  · exact absurd e (h1 e1)
theorem bonds_apart (h : GOk ns last) : (bondsE ns).Pairwise (fun p q => p.1 ≠ q.1) := List.pairwise_map.2 (h.rise.imp (fun {a b} h => by simp only [ne_eq]; omega))
theorem links_apart (h : GOk ns last) : (linksE ns).Pairwise (fun p q => p.1 ≠ q.1) := by
  refine List.pairwise_map.2 (List.Pairwise.imp_of_mem (fun {a b} ha hb hab => ?_) (h.pairs.filter _))
  exact hab (by simpa using (List.mem_filter.1 ha).2) (by simpa using (List.mem_filter.1 hb).2)
theorem refs_apart (h : GOk ns last) : (refsE ns).Pairwise (fun p q => p.1 ≠ q.1) := by
  refine List.pairwise_map.2 (List.Pairwise.imp_of_mem (fun {a b} ha _ hab => ?_) (h.refs.filter _))
  exact hab (by simpa using (List.mem_filter.1 ha).2)
theorem look_bonds (h : GOk ns last) {n : Int} {v : Value} : look (bondsE ns) n = some v ↔ ∃ x, (n, x) ∈ ns ∧ v = vB x := by
  rw [look_some (bonds_apart h)]
  unfold bondsE
  rw [List.mem_map]
  constructor
  · rintro ⟨p, hp, e⟩; cases e; exact ⟨p.2, hp, rfl⟩
  · rintro ⟨x, hx, rfl⟩; exact ⟨_, hx, rfl⟩
theorem look_links (h : GOk ns last) {a b : Int} {v : Value} : look (linksE ns) (a, b) = some v ↔ ∃ n, (n, ⟨a, b, 0⟩) ∈ ns ∧ v = .int .i64 n := by
  rw [look_some (links_apart h)]
  unfold linksE
  rw [List.mem_map]
  constructor
  · rintro ⟨⟨n, x, y, r⟩, hp, e⟩
    obtain ⟨h1, h2⟩ := List.mem_filter.1 hp
    cases e
    have h3 : r = 0 := by simpa using h2
    subst h3
    exact ⟨n, h1, rfl⟩
  · rintro ⟨n, hn, rfl⟩; exact ⟨_, List.mem_filter.2 ⟨hn, by simp⟩, rfl⟩
theorem look_refs (h : GOk ns last) {r : Int} {v : Value} : look (refsE ns) r = some v ↔ r ≠ 0 ∧ ∃ n a b, (n, ⟨a, b, r⟩) ∈ ns ∧ v = .int .i64 n := by
  rw [look_some (refs_apart h)]
  unfold refsE
  rw [List.mem_map]
  constructor
  · rintro ⟨⟨n, x, y, r'⟩, hp, e⟩
    obtain ⟨h1, h2⟩ := List.mem_filter.1 hp
    cases e
    exact ⟨by simpa using h2, n, x, y, h1, rfl⟩
  · rintro ⟨h0, n, a, b, hn, rfl⟩; exact ⟨_, List.mem_filter.2 ⟨hn, by simpa using h0⟩, rfl⟩
/-- A bond comes. -/
theorem put_bonds (h : GOk ns last) (x : Bd) : putE (bondsE ns) (last + 1) (vB x) = bondsE (ns ++ [(last + 1, x)]) := by
  have hn : look (bondsE ns) (last + 1) = none := by
    rw [look_none]
    intro p hp e
    obtain ⟨q, hq, rfl⟩ := List.mem_map.1 hp
    have := (h.top q hq).2
    simp only at e
    omega
  unfold putE
  rw [cut_none hn]
  simp [bondsE]
theorem put_links {a b n : Int} (hn : look (linksE ns) (a, b) = none) : putE (linksE ns) (a, b) (.int .i64 n) = linksE (ns ++ [(n, ⟨a, b, 0⟩)]) ∧ refsE (ns ++ [(n, ⟨a, b, 0⟩)]) = refsE ns := by
  unfold putE
  rw [cut_none hn]
  constructor <;> simp [linksE, refsE]
theorem put_refs {a b r n : Int} (hr : r ≠ 0) (hn : look (refsE ns) r = none) : putE (refsE ns) r (.int .i64 n) = refsE (ns ++ [(n, ⟨a, b, r⟩)]) ∧ linksE (ns ++ [(n, ⟨a, b, r⟩)]) = linksE ns := by
  unfold putE
  rw [cut_none hn]
  constructor <;> simp [linksE, refsE, hr]
/-- A bond goes. -/
theorem cut_bonds (ns : List NB) (n : Int) : cut (bondsE ns) n = bondsE (outN ns n) := by
  unfold cut bondsE outN
  rw [List.filter_map]
  rfl
theorem cut_links (h : GOk ns last) {n a b : Int} (hm : (n, (⟨a, b, 0⟩ : Bd)) ∈ ns) : cut (linksE ns) (a, b) = linksE (outN ns n) ∧ refsE (outN ns n) = refsE ns := by
  constructor
  · unfold cut linksE outN
    rw [List.filter_map, List.filter_filter, List.filter_filter]
    congr 1
    refine List.filter_congr fun p hp => ?_
    by_cases h0 : p.2.r = 0
    · have : p.1 = n ↔ (p.2.a, p.2.b) = (a, b) := by
        constructor
        · intro e
          have := h.num hp hm e
          rw [this]
        · intro e
          have := h.pair hp hm h0 rfl e
          rw [this]
      simp only [Function.comp, h0, decide_true, Bool.and_true, Bool.true_and, ne_eq, this]
    · simp [h0]
  · unfold refsE outN
    rw [List.filter_filter]
    congr 1
    refine List.filter_congr fun p hp => ?_
    by_cases h0 : p.2.r = 0
    · simp [h0]
    · have : p.1 ≠ n := fun e => by have := h.num hp hm e; rw [this] at h0; exact h0 rfl
      simp [h0, this]
theorem cut_refs (h : GOk ns last) {n a b r : Int} (hr : r ≠ 0) (hm : (n, (⟨a, b, r⟩ : Bd)) ∈ ns) : cut (refsE ns) r = refsE (outN ns n) ∧ linksE (outN ns n) = linksE ns := by
  constructor
  · unfold cut refsE outN
    rw [List.filter_map, List.filter_filter, List.filter_filter]
    congr 1
    refine List.filter_congr fun p hp => ?_
    by_cases h0 : p.2.r = 0
    · simp [h0]
    · have : p.1 = n ↔ p.2.r = r := by
        constructor
        · intro e
          have := h.num hp hm e
          rw [this]
        · intro e
          have := h.ref hp hm h0 e
          rw [this]
      simp only [Function.comp, h0, ne_eq, not_false_eq_true, decide_true, Bool.and_true, Bool.true_and, this]
  · unfold linksE outN
    rw [List.filter_filter]
    congr 1
    refine List.filter_congr fun p hp => ?_
    by_cases h0 : p.2.r = 0
    · have : p.1 ≠ n := fun e => by have := h.num hp hm e; rw [this] at h0; exact hr h0
      simp [h0, this]
    · simp [h0]
end
end Go.Proofs.YtameidoaenoppaaGreatDoor
