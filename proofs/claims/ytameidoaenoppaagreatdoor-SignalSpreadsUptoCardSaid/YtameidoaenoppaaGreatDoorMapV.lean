/- Maps in memory as lists of what stands at each key, each key once: look-up, store, delete, len, make, and a range over one; bounds stand in each statement. -/
import Derived.Test.YtameidoaenoppaaGreatDoorLib
import Derived.Maps.OwnIn
import Derived.Maps.OwnSet
import Derived.Maps.RangeWalk
namespace Go.Proofs.YtameidoaenoppaaGreatDoor
open Go.RowKit
open Go.Maps (Keyed)

/-- How a key's value and its reading look. -/
structure KeyT (P : Program) (k : TypeId) (κ : Type) where
  kf : κ → Value
  kl : κ → Lit
  ok : κ → Prop
  law : Keyed P k
  key : ∀ x, ok x → keyOf P k (kf x) = some (kl x)
  inv : ∀ v l, keyOf P k v = some l → ∃ x, ok x ∧ v = kf x ∧ l = kl x
  inj : ∀ x y, ok x → ok y → kl x = kl y → x = y
def keyInt {P : Program} {k : TypeId} {q : IntKind} (hk : P.underlying k = some (.int q)) : KeyT P k Int :=
  ⟨Value.int q, Lit.int q, fun x => (Lit.int q x).wf = true, Go.Maps.int_keyed hk, fun _ hx => Go.Maps.keyOf_int_mk hk hx, fun v l h => by
    obtain ⟨x, rfl, rfl, hw⟩ := Go.Maps.keyOf_int_inv hk h
    exact ⟨x, hw, rfl, rfl⟩, fun x y _ _ h => by cases h; rfl⟩
abbrev rv : Value → Option (DataW Value × List MemPlace) := fun v => some (.held v, [])

section
variable {κ : Type} [DecidableEq κ]
/-- What stands at a key. -/
def look (es : List (κ × Value)) (x : κ) : Option Value := (es.find? (fun p => decide (p.1 = x))).map (·.2)
def cut (es : List (κ × Value)) (x : κ) : List (κ × Value) := es.filter (fun p => decide (p.1 ≠ x))
def putE (es : List (κ × Value)) (x : κ) (v : Value) : List (κ × Value) := cut es x ++ [(x, v)]
theorem look_none {es : List (κ × Value)} {x : κ} : look es x = none ↔ ∀ p ∈ es, p.1 ≠ x := by
  unfold look
  rw [Option.map_eq_none_iff, List.find?_eq_none]
  simp
theorem look_some {es : List (κ × Value)} (ha : es.Pairwise (fun p q => p.1 ≠ q.1)) {x : κ} {v : Value} : look es x = some v ↔ (x, v) ∈ es := by
  unfold look
  induction es with
  | nil => simp
  | cons p es ih =>
    obtain ⟨h1, h2⟩ := List.pairwise_cons.1 ha
    rw [List.find?_cons]
    by_cases hp : p.1 = x
    · simp only [hp, decide_true, Option.map_some, Option.some.injEq]
      constructor
      · rintro rfl; exact List.mem_cons.2 (.inl (by rw [← hp]))
      · intro hm
        rcases List.mem_cons.1 hm with rfl | hm
        · rfl
        · exact absurd hp (h1 _ hm)
    · simp only [hp, decide_false]
      rw [ih h2]
      constructor
      · exact fun h => List.mem_cons.2 (.inr h)
      · intro hm
        rcases List.mem_cons.1 hm with rfl | hm
        · exact absurd rfl hp
        · exact hm
theorem look_perm {es fs : List (κ × Value)} (h : es.Perm fs) (ha : es.Pairwise (fun p q => p.1 ≠ q.1)) (x : κ) : look es x = look fs x := by
  have hb : fs.Pairwise (fun p q => p.1 ≠ q.1) := h.pairwise ha (fun h => Ne.symm h)
  cases hx : look fs x with
  | none => rw [look_none] at hx ⊢; exact fun p hp => hx p (h.mem_iff.1 hp)
  | some v => rw [look_some ha]; rw [look_some hb] at hx; exact h.mem_iff.2 hx
theorem cut_apart {es : List (κ × Value)} (ha : es.Pairwise (fun p q => p.1 ≠ q.1)) (x : κ) : (cut es x).Pairwise (fun p q => p.1 ≠ q.1) := ha.filter _
theorem cut_none {es : List (κ × Value)} {x : κ} (h : look es x = none) : cut es x = es := by
  unfold cut
  rw [List.filter_eq_self]
  intro p hp
  simpa using look_none.1 h p hp
theorem putE_apart {es : List (κ × Value)} (ha : es.Pairwise (fun p q => p.1 ≠ q.1)) (x : κ) (v : Value) : (putE es x v).Pairwise (fun p q => p.1 ≠ q.1) := by
  unfold putE
  rw [List.pairwise_append]
  refine ⟨cut_apart ha x, List.pairwise_singleton _ _, fun p hp q hq => ?_⟩
  rw [List.mem_singleton.1 hq]
  have := (List.mem_filter.1 hp).2
  simpa using this
theorem look_cut_same (es : List (κ × Value)) (x : κ) : look (cut es x) x = none := look_none.2 fun p hp => by simpa using (List.mem_filter.1 hp).2
theorem look_cut_other {es : List (κ × Value)} {x y : κ} (h : y ≠ x) : look (cut es x) y = look es y := by
  unfold look cut
  induction es with
  | nil => rfl
  | cons p es ih =>
    by_cases hp : p.1 = x
    · have hy : ¬ p.1 = y := fun e => h (e.symm.trans hp)
      simp only [List.filter_cons, hp, ne_eq, not_true_eq_false, decide_false, Bool.false_eq_true, if_false, List.find?_cons]
      rw [ih]
      have : ¬ x = y := fun e => h e.symm
      simp [this]
    · simp only [List.filter_cons, hp, ne_eq, not_false_eq_true, decide_true, if_true, List.find?_cons]
      split
      · rfl
      · exact ih
theorem look_app (es : List (κ × Value)) (x y : κ) (v : Value) : look (es ++ [(x, v)]) y = (look es y).or (if x = y then some v else none) := by
  unfold look
  rw [List.find?_append]
  cases es.find? (fun p => decide (p.1 = y)) with
  | none => by_cases h : x = y <;> simp [h]
  | some p => simp
theorem look_put_same (es : List (κ × Value)) (x : κ) (v : Value) : look (putE es x v) x = some v := by
  unfold putE; rw [look_app, look_cut_same]; simp
theorem look_put_other {es : List (κ × Value)} {x y : κ} (h : y ≠ x) (v : Value) : look (putE es x v) y = look es y := by
  unfold putE; rw [look_app, look_cut_other h, if_neg (fun e => h e.symm)]; simp
theorem cut_len {es : List (κ × Value)} (ha : es.Pairwise (fun p q => p.1 ≠ q.1)) (x : κ) : (cut es x).length + (if (look es x).isSome = true then 1 else 0) = es.length := by
  induction es with
  | nil => rfl
  | cons p es ih =>
    obtain ⟨h1, h2⟩ := List.pairwise_cons.1 ha
    have ih := ih h2
    by_cases hp : p.1 = x
    · have hn : look es x = none := look_none.2 fun q hq e => h1 q hq (hp.trans e.symm)
      rw [cut_none hn] at ih
      have e1 : cut (p :: es) x = es := by
        unfold cut
        rw [List.filter_cons, if_neg (by simp [hp])]
        exact cut_none hn
      have e2 : look (p :: es) x = some p.2 := by unfold look; simp [hp]
      rw [e1, e2]; simp
    · have e1 : cut (p :: es) x = p :: cut es x := by unfold cut; rw [List.filter_cons, if_pos (by simp [hp])]
      have e2 : look (p :: es) x = look es x := by unfold look; simp [hp]
      rw [e1, e2]
      simp only [List.length_cons]
      omega
end

section
variable {κ : Type} [DecidableEq κ] {P : Program} {k : TypeId}
/-- A map in memory. -/
structure IsMapV (T : KeyT P k κ) (w : World) (b : Nat) (es : List (κ × Value)) : Prop where
  own : ∃ D, w.ownsMap P k rv b es.length D ∧ Maps.size D = es.length ∧ ∀ x, T.ok x → Maps.has D (T.kl x) = (look es x).isSome ∧ ∀ v, look es x = some v → ∀ z, D.atKey (T.kl x) z = .held v
  apart : es.Pairwise (fun p q => p.1 ≠ q.1)
  ok : ∀ p ∈ es, T.ok p.1
variable {T : KeyT P k κ} {w w' : World} {b : Nat} {es : List (κ × Value)}
theorem tightM {n : Nat} {D : DataW Value} (h : w.ownsMap P k rv b n D) : w.ownsMap P k rv b (Maps.size D) D := by
  obtain ⟨a, c, hb, F, _, rfl⟩ := h
  exact ⟨a, c, hb, F, by simp [Maps.size, length_sorted], rfl⟩
theorem IsMapV.lt (h : IsMapV T w b es) : b < w.heap.size := by
  obtain ⟨D, h1, _⟩ := h.own
  exact h1.lt
theorem IsMapV.blk (h : IsMapV T w b es) : ∃ a c, w.heap[b]? = some (.map a c) := by
  obtain ⟨D, ⟨a, c, hb, _⟩, _⟩ := h.own
  exact ⟨a, c, hb⟩
theorem IsMapV.heap (h : IsMapV T w b es) (hb : w'.heap[b]? = w.heap[b]?) : IsMapV T w' b es := by
  obtain ⟨D, ⟨a, c, h1, h2⟩, h3⟩ := h.own
  exact ⟨⟨D, ⟨a, c, hb.trans h1, h2⟩, h3⟩, h.apart, h.ok⟩
theorem IsMapV.frame (h : IsMapV T w b es) {F : Nat → Prop} (hc : Chg F w w') (hn : ¬ F b) : IsMapV T w' b es := h.heap (hc.block b h.lt hn)
theorem IsMapV.below (h : IsMapV T w b es) (hb : Below w.heap.size w w') : IsMapV T w' b es := h.heap (hb.block b h.lt)
theorem IsMapV.drew (h : IsMapV T w b es) : IsMapV T w.drew b es := h.heap rfl
theorem IsMapV.perm {fs : List (κ × Value)} (h : IsMapV T w b es) (hp : es.Perm fs) : IsMapV T w b fs := by
  obtain ⟨D, h1, h2, h3⟩ := h.own
  refine ⟨⟨D, hp.length_eq ▸ h1, hp.length_eq ▸ h2, fun x hx => ?_⟩, hp.pairwise h.apart (fun h => Ne.symm h), fun p hp' => h.ok p (hp.mem_iff.2 hp')⟩
  rw [← look_perm hp h.apart]
  exact h3 x hx
theorem isMap_made (T : KeyT P k κ) (w : World) : IsMapV T (w.alloc (.map #[] 0)) w.heap.size [] :=
  ⟨⟨.map [], World.ownsMap_made w P k rv, rfl, fun _ _ => ⟨rfl, fun _ h => by cases h⟩⟩, List.Pairwise.nil, fun _ h => by cases h⟩

variable {t e : TypeId} (ht : P.underlying t = some (.map k e))
include ht
theorem IsMapV.get_ok (h : IsMapV T w b es) {z : Value} (hz : (zeroValue e).run P w = .ok z w) (x : κ) (hx : T.ok x) :
    (Instr.lookup t (.map (some b)) (T.kf x) true).run P w = .ok (.tuple #[(look es x).getD z, .bool (look es x).isSome]) w := by
  obtain ⟨D, h1, h2, h3⟩ := h.own
  obtain ⟨v, ps, hr, hv⟩ := h1.look_ok T.law ht hz (zd := .held z) (zp := []) rfl (T.key x hx)
  obtain ⟨h4, h5⟩ := h3 x hx
  rw [hr, h4]
  cases hl : look es x with
  | none =>
    rw [hl] at h4
    rw [Maps.atKey_of_not_has h4] at hv
    cases hv
    rfl
  | some u =>
    rw [h5 u hl] at hv
    cases hv
    rfl
theorem IsMapV.get (h : IsMapV T w b es) {z : Value} (hz : (zeroValue e).run P w = .ok z w) (x : κ) (hx : T.ok x) :
    (Instr.lookup t (.map (some b)) (T.kf x) false).run P w = .ok ((look es x).getD z) w := by
  obtain ⟨D, h1, h2, h3⟩ := h.own
  obtain ⟨v, ps, hr, hv⟩ := h1.lookup T.law ht hz (zd := .held z) (zp := []) rfl (T.key x hx)
  obtain ⟨h4, h5⟩ := h3 x hx
  rw [hr]
  cases hl : look es x with
  | none =>
    rw [hl] at h4
    rw [Maps.atKey_of_not_has h4] at hv
    cases hv
    rfl
  | some u =>
    rw [h5 u hl] at hv
    cases hv
    rfl
theorem IsMapV.len (h : IsMapV T w b es) (ty : TypeId) : (Builtin.len_ #[t] ty #[.map (some b)]).run P w = .ok (.int .i64 es.length) w := by
  obtain ⟨D, h1, h2, _⟩ := h.own
  rw [h1.len ht ty, h2]
theorem IsMapV.put (h : IsMapV T w b es) (hn : es.length < maxLen) (x : κ) (v : Value) (hx : T.ok x) :
    ∃ w', (Instr.mapUpdate t (.map (some b)) (T.kf x) v).run P w = .ok () w' ∧ IsMapV T w' b (putE es x v) ∧ Chg (fun g => g = b) w w' := by
  obtain ⟨D, h1, h2, h3⟩ := h.own
  obtain ⟨w', hr, h4, h5⟩ := h1.update T.law ht hn (key := T.kf x) (val := v) (T.key x hx) (d := .held v) (ps := []) rfl
  have hk := T.law.key (T.key x hx)
  have hsz : Maps.size (D.put (T.kl x) (.held v)) = (putE es x v).length := by
    rw [Maps.size_put (h1.tidy T.law), (h3 x hx).1, h2]
    have := cut_len h.apart x
    unfold putE
    rw [List.length_append, List.length_singleton]
    revert this
    cases (look es x).isSome <;> simp <;> omega
  refine ⟨w', hr, ⟨⟨_, hsz ▸ tightM h4, hsz, fun y hy => ?_⟩, putE_apart h.apart x v, fun p hp => ?_⟩, ⟨h5.os, h5.tape, h5.output, h5.size, fun i hi hne => h5.block i hi (fun e => hne (by cases e; rfl))⟩⟩
  · by_cases hxy : y = x
    · subst hxy
      rw [look_put_same]
      exact ⟨Maps.has_put_same h1.isMap hk _, fun u hu z => by cases hu; exact Maps.atKey_put_same h1.isMap hk _ _⟩
    · have hne : T.kl y ≠ T.kl x := fun e => hxy (T.inj y x hy hx e)
      rw [look_put_other hxy]
      exact ⟨(Maps.has_put_other hne _).trans (h3 y hy).1, fun u hu z => (Maps.atKey_put_other hne _ _).trans ((h3 y hy).2 u hu z)⟩
  · rcases List.mem_append.1 hp with hp | hp
    · exact h.ok p (List.mem_filter.1 hp).1
    · rw [List.mem_singleton.1 hp]; exact hx
theorem IsMapV.del (h : IsMapV T w b es) (x : κ) (hx : T.ok x) (ty : TypeId) :
    ∃ w', (Builtin.delete_ #[t, k] ty #[.map (some b), T.kf x]).run P w = .ok (.tuple #[]) w' ∧ IsMapV T w' b (cut es x) ∧ Chg (fun g => g = b) w w' := by
  obtain ⟨D, h1, h2, h3⟩ := h.own
  obtain ⟨w', hr, h4, h5⟩ := h1.drop T.law ht (T.key x hx) ty
  have h6 := h5.grown
  have hsz : Maps.size (D.del (T.kl x)) = (cut es x).length := by
    have a1 := Maps.size_del (k := T.kl x) (h1.tidy T.law)
    rw [(h3 x hx).1, h2] at a1
    have := cut_len h.apart x
    omega
  refine ⟨w', hr, ⟨⟨_, hsz ▸ tightM h4, hsz, fun y hy => ?_⟩, cut_apart h.apart x, fun p hp => h.ok p (List.mem_filter.1 hp).1⟩, ⟨h6.os, h6.tape, h6.output, h6.size, fun i hi hne => h6.block i hi (fun e => hne (by cases e; rfl))⟩⟩
  by_cases hxy : y = x
  · subst hxy
    rw [look_cut_same]
    exact ⟨Maps.has_del_same, fun u hu => by cases hu⟩
  · have hne : T.kl y ≠ T.kl x := fun e => hxy (T.inj y x hy hx e)
    rw [look_cut_other hxy]
    exact ⟨(Maps.has_del_other hne).trans (h3 y hy).1, fun u hu z => (Maps.atKey_del_other hne _).trans ((h3 y hy).2 u hu z)⟩
omit ht

/-- A range over a map under way: the keys that have come. -/
structure RangeV (T : KeyT P k κ) (w : World) (b r : Nat) (es : List (κ × Value)) (seen : List κ) : Prop where
  rng : ∃ D left cnt, w.ranges P k rv b r es.length D left cnt ∧ (∀ x, T.ok x → Maps.has D (T.kl x) = (look es x).isSome ∧ ∀ v, look es x = some v → ∀ z, D.atKey (T.kl x) z = .held v) ∧ Maps.size D = es.length ∧
    (∀ x, T.ok x → left (T.kl x) = ((look es x).isSome && !decide (x ∈ seen)))
  apart : es.Pairwise (fun p q => p.1 ≠ q.1)
  ok : ∀ p ∈ es, T.ok p.1
  nodup : seen.Nodup
  sub : ∀ x ∈ seen, ∃ v, look es x = some v
variable {r : Nat} {seen : List κ}
theorem RangeV.map (h : RangeV T w b r es seen) : IsMapV T w b es := by
  obtain ⟨D, left, cnt, h1, h2, h3, _⟩ := h.rng
  exact ⟨⟨D, h1.owns, h3, h2⟩, h.apart, h.ok⟩
theorem RangeV.frame (h : RangeV T w b r es seen) {F : Nat → Prop} (hc : Chg F w w') (hb : ¬ F b) (hr : ¬ F r) : RangeV T w' b r es seen := by
  obtain ⟨D, left, cnt, h1, h2⟩ := h.rng
  have hlb := h1.owns.lt
  have hlr := h1.lt
  obtain ⟨a, c, s, sn, c0, q1, q2, q3, q4, q5, q6⟩ := h1
  exact ⟨⟨D, left, cnt, ⟨a, c, s, sn, c0, (hc.block b hlb hb).trans q1, q2, q3, q4, (hc.block r hlr hr).trans q5, q6⟩, h2⟩, h.apart, h.ok, h.nodup, h.sub⟩
include ht in
theorem IsMapV.range (h : IsMapV T w b es) : ∃ w', (Instr.range t (.map (some b))).run P w = .ok (.pointer (some ⟨w.heap.size, 0, none⟩)) w' ∧ RangeV T w' b w.heap.size es [] ∧ Below w.heap.size w w' ∧ w'.heap.size = w.heap.size + 1 := by
  obtain ⟨D, h1, h2, h3⟩ := h.own
  obtain ⟨w', hr, g1, g2, g3⟩ := h1.range T.law ht
  exact ⟨w', hr, ⟨⟨D, _, _, g1, h3, h2, fun x hx => by rw [(h3 x hx).1]; simp⟩, h.apart, h.ok, List.nodup_nil, fun _ h => by cases h⟩, ⟨g2.os, g2.tape, g2.output, g2.size, fun i hi => g2.block i hi (by simp)⟩, g3⟩
/-- One step of it. -/
theorem RangeV.next (h : RangeV T w b r es seen) (ty : TypeId) :
    (seen.Perm (es.map (·.1)) ∧ (Instr.next (.pointer (some ⟨r, 0, none⟩)) false ty).run P w = .ok (.tuple #[.bool false]) w) ∨
    ∃ x v w', T.ok x ∧ look es x = some v ∧ x ∉ seen ∧ (Instr.next (.pointer (some ⟨r, 0, none⟩)) false ty).run P w = .ok (.tuple #[.bool true, T.kf x, v]) w' ∧ RangeV T w' b r es (seen ++ [x]) ∧ Chg (fun g => g = r) w w' ∧ w'.heap.size = w.heap.size ∧
      (Instr.entry (.pointer (some ⟨r, 0, none⟩))).run P w' = .ok (.tuple #[T.kf x, v]) w' ∧ w'.rangeLeft b r < w.rangeLeft b r := by
  obtain ⟨D, left, cnt, h1, h2, h3, h4⟩ := h.rng
  rcases h1.next T.law ty with ⟨h0, hl, hr⟩ | ⟨key, v, kl, y, w', cnt', hkey, hlk, hv, hat, hr, hrg, hlt, hg, hsz, hen⟩
  · refine .inl ⟨?_, hr⟩
    have hnd : (es.map (·.1)).Nodup := List.pairwise_map.2 h.apart
    refine (List.perm_ext_iff_of_nodup h.nodup hnd).2 fun x => ⟨fun hx => ?_, fun hx => ?_⟩
    · obtain ⟨v, hv⟩ := h.sub x hx
      exact List.mem_map.2 ⟨_, (look_some h.apart).1 hv, rfl⟩
    · obtain ⟨p, hp, rfl⟩ := List.mem_map.1 hx
      have h5 := h4 p.1 (h.ok p hp)
      rw [hl, (look_some h.apart (x := p.1) (v := p.2)).2 hp] at h5
      simpa using h5.symm
  · obtain ⟨x, hx, rfl, rfl⟩ := T.inv key kl hkey
    cases hv
    have h5 := h4 x hx
    rw [hlk] at h5
    have h6 := h5.symm
    rw [Bool.and_eq_true] at h6
    obtain ⟨u, hu⟩ := Option.isSome_iff_exists.1 h6.1
    have hns : x ∉ seen := by simpa using h6.2
    have hvu : u = v := by
      have a1 := (h2 x hx).2 u hu (.held u)
      rw [hat] at a1
      cases a1
      rfl
    subst hvu
    refine .inr ⟨x, u, w', hx, hu, hns, hr, ⟨⟨D, _, cnt', hrg, h2, h3, fun z hz => ?_⟩, h.apart, h.ok, ?_, ?_⟩, ⟨hg.os, hg.tape, hg.output, hg.size, fun i hi hne => hg.block i hi (fun e => hne (by cases e; rfl))⟩, hsz, hen, by rw [hrg.left_eq, h1.left_eq]; exact hlt⟩
    · have a1 := h4 z hz
      rw [a1]
      have a2 : (T.kl z).sameKey (T.kl x) = decide (z = x) := by
        by_cases e : z = x
        · subst e
          rw [WideAt.sameKey_self (T.law.key (T.key z hz))]; simp
        · rw [Maps.sameKey_ne (fun h => e (T.inj z x hz hx h))]; simp [e]
      rw [a2]
      by_cases e : z = x
      · subst e; simp
      · simp [e]
    · rw [List.nodup_append]
      exact ⟨h.nodup, by simp, fun a ha b hb => by rw [List.mem_singleton.1 hb]; exact fun e => hns (e ▸ ha)⟩
    · intro z hz
      rcases List.mem_append.1 hz with hz | hz
      · exact h.sub z hz
      · rw [List.mem_singleton.1 hz]; exact ⟨u, hu⟩
end
end Go.Proofs.YtameidoaenoppaaGreatDoor
