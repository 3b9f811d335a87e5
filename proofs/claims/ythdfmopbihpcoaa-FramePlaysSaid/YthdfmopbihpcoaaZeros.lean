/- append(v, make([]T, n)...): what a row of one's own is behind it; bounds stand in each statement. -/
import Derived.Test.YthdfmopbihpcoaaLib
namespace Go.Proofs.Ythdfmopbihpcoaa
open Go.RowKit

section
variable {α : Type} {P : Program} {w : World} {t ti ty e : TypeId} {E : El α} {by_ : Nat} {v : Value} {l : List α} {z : Value} {z0 : α}
theorem zeroCells_flat (hz : z.cells.toList = E.f z0) (m : Nat) : (Builtin.zeroCells z.cells m).toList = E.flat (List.replicate m z0) := by
  have hzs : z.cells.size = E.k := by rw [← E.len z0, ← hz]; simp
  apply List.ext_getElem?
  intro j
  have hl : (E.flat (List.replicate m z0)).length = m * E.k := by rw [E.flat_length]; simp
  by_cases hj : j < m * E.k
  · have hi : j / E.k < m := (Nat.div_lt_iff_lt_mul E.pos).2 hj
    have hr : j % E.k < E.k := Nat.mod_lt _ E.pos
    have h1 := E.flat_get (List.replicate m z0) (j / E.k) (j % E.k) (by simpa using hi) hr
    rw [Nat.div_add_mod'] at h1
    rw [h1, List.getElem_replicate, ← hz]
    unfold Builtin.zeroCells
    rw [hzs]
    simp [hj]
    rw [getElem!_pos z.cells (j % E.k) (by omega)]
    simp [hzs, hr]
  · have h2 : (Builtin.zeroCells z.cells m).toList.length = m * E.k := by rw [Array.length_toList, size_zeroCells, hzs]
    rw [List.getElem?_eq_none_iff.2 (show (Builtin.zeroCells z.cells m).toList.length ≤ j by omega), List.getElem?_eq_none_iff.2 (by omega)]

theorem run_appz (hu : P.underlying t = some (.slice e)) (hti : P.underlying ti = some (.int .i64)) {i : TypeInfo} (hi : P.info? e = some i) (hiz : i.zero = some z) (his : i.size = E.k) (hib : i.bytes = by_) (hz : z.cells.toList = E.f z0)
    (hown : Own w e E v l) (m : Nat) (hb : (l.length + m) * by_ ≤ 140737488355328) (hb0 : 0 < by_) :
    ∃ v' w', (Builtin.append_ #[t, ti] ty #[v, .int .i64 m]).run P w = .ok v' w' ∧ Own w' e E v' (l ++ List.replicate m z0) ∧ Chg (fun g => v.ownBlock = some g) w w' ∧
      (v'.ownBlock = v.ownBlock ∨ ∃ g, v'.ownBlock = some g ∧ w.heap.size ≤ g) := by
  have hle : l.length + m ≤ 140737488355328 := Nat.le_trans (Nat.le_mul_of_pos_right _ hb0) hb
  have hzs : z.cells.size = E.k := by rw [← E.len z0, ← hz]; simp
  have hw : IntKind.i64.wrap (m : Int) = m := by rw [IntKind.wrap_i64]; omega
  have hw0 : IntKind.i64.wrap 0 = 0 := by rw [IntKind.wrap_i64]; rfl
  have hneg : ¬ ((m : Int) < 0) := by omega
  have hmb : m * i.bytes ≤ 140737488355328 := by rw [hib]; exact Nat.le_trans (Nat.mul_le_mul_right _ (Nat.le_add_left m l.length)) hb
  have hbig : ¬ (281474976710656 < (m : Int) * (i.bytes : Int)) := by
    rw [← Int.natCast_mul]
    omega
  have hpos := E.pos
  have hll : (E.flat l).length = l.length * E.k := E.flat_length l
  have hlm : (E.flat (List.replicate m z0)).length = m * E.k := by rw [E.flat_length]; simp
  have hnews := zeroCells_flat hz m
  have h1c := E.flat_one_cell (List.replicate m z0)
  have hlen : (l ++ List.replicate m z0).length = l.length + m := by simp
  by_cases hm : m = 0
  · subst hm
    refine ⟨v, w, ?_, by simpa using hown, Chg.refl _ _, .inl rfl⟩
    obtain ⟨A, c, rfl, hc, _⟩ := hown.shape
    simp only [Builtin.append_]
    cases A <;> simp [run_underlying hu, run_underlying hti, sizeOf, typeInfo, hi, asInt, asIntOf, hw0, hc, storeCells]
  · have hmz : ¬ (m * i.size = 0) := Nat.mul_ne_zero hm (by omega)
    have hgro : ∀ (A : Option Addr) (cap : Nat), cap < l.length + m → v = .slice A l.length cap → (Builtin.firstCells i.size l.length (.slice A l.length cap)).run P w.drew = .ok (E.flat l).toArray w.drew →
        (Builtin.append_ #[t, ti] ty #[.slice A l.length cap, .int .i64 m]).run P w = .ok (.slice (some ⟨w.heap.size, 0, none⟩) (l.length + m) (grownCap w (l.length + m) cap e)) (w.drew.alloc (.cells ((E.flat l).toArray ++ (E.flat (List.replicate m z0)).toArray ++ Builtin.zeroCells z.cells (grownCap w (l.length + m) cap e - (l.length + m))) e)) := by
      intro A cap hcap _ hfo
      have hn : ¬ (l.length + m ≤ cap) := by omega
      have h63' : ¬ (9223372036854775807 < ((l.length : Int) + (m : Int))) := by omega
      have hfit := growslice_fits (need := l.length + m) (bytes := i.bytes) hcap (by rw [hib]; exact hb)
      have h48' : ¬ (281474976710656 < Builtin.nextslicecap (l.length + m) cap * i.bytes) := by omega
      have hna : Builtin.zeroCells z.cells m = (E.flat (List.replicate m z0)).toArray := by rw [← hnews]
      simp [Builtin.append_, run_underlying hu, run_underlying hti, sizeOf, typeInfo, zeroValue, hi, hiz, asInt, asIntOf, hw, hneg, hbig, hn, h63', h48', Question.forced, hfo, newRow, grownCap, hmz, hna]
      congr 2
      apply Array.ext'
      simp [List.append_assoc]
    have hgo : ∀ (cap : Nat), cap < l.length + m → Own (w.drew.alloc (.cells ((E.flat l).toArray ++ (E.flat (List.replicate m z0)).toArray ++ Builtin.zeroCells z.cells (grownCap w (l.length + m) cap e - (l.length + m))) e)) e E (.slice (some ⟨w.heap.size, 0, none⟩) (l.length + m) (grownCap w (l.length + m) cap e)) (l ++ List.replicate m z0) := by
      intro cap hcap
      have hge := grownCap_ge w (l.length + m) cap e
      have hcm : grownCap w (l.length + m) cap e ≤ maxLen := grownCap_le_maxLen w _ _ _ (by simp only [maxLen]; omega)
      refine ⟨E.flat_length _, .inr ⟨w.heap.size, _, _, by rw [hlen], Nat.zero_le _, heap_alloc_new w.drew _, by rw [hlen]; exact hge, hcm, ?_, ?_⟩⟩
      · simp only [Array.size_append, List.size_toArray, size_zeroCells, hzs, hlm, hll, ← Nat.add_mul]
        congr 1
        omega
      · simp only [Array.toList_append, List.append_assoc, E.flat_append]
        rw [← List.append_assoc]
        have e2 : (l ++ List.replicate m z0).length * E.k = (E.flat l ++ E.flat (List.replicate m z0)).length := by rw [hlen, List.length_append, hll, hlm, Nat.add_mul]
        rw [e2]
        exact List.take_left
    rcases hown.row.2 with ⟨rfl, hn⟩ | ⟨g, cap, cur, rfl, _, hg, hc, hmx, hs, ht⟩
    · have hl : l = [] := List.eq_nil_of_length_eq_zero hn
      subst hl
      exact ⟨_, _, hgro none 0 (by simp; omega) rfl (by simp [Builtin.firstCells, El.flat]), hgo 0 (by simp; omega), ((Chg.refl _ w).drew).alloc _, .inr ⟨w.heap.size, rfl, Nat.le_refl _⟩⟩
    · by_cases hroom : l.length + m ≤ cap
      · have hfit : l.length * E.k + (E.flat (List.replicate m z0)).length ≤ cur.size := by rw [hlm, hs, ← Nat.add_mul]; exact Nat.mul_le_mul_right _ hroom
        have hst := run_storeCells_at P g (l.length * i.size) e (E.flat (List.replicate m z0)) 0 cur w hg (by rw [his]; simpa using hfit) h1c
        simp only [Nat.add_zero] at hst
        refine ⟨.slice (some ⟨g, 0, none⟩) (l.length + m) cap, w.setRow g (cur.toList.take (l.length * i.size) ++ E.flat (List.replicate m z0) ++ cur.toList.drop (l.length * i.size + (E.flat (List.replicate m z0)).length)).toArray, ?_, ⟨?_⟩, ⟨rfl, rfl, rfl, by simp, fun k _ hk => setRow_other w g k _ (fun e => hk (by simp [Value.ownBlock, e]))⟩, .inl rfl⟩
        · have hna : (Builtin.zeroCells z.cells m).toList = E.flat (List.replicate m z0) := hnews
          simp [Builtin.append_, run_underlying hu, run_underlying hti, sizeOf, typeInfo, zeroValue, hi, hiz, asInt, asIntOf, hw, hneg, hbig, hroom, hmz, hna, Addr.add_lit, hst]
        · rw [his]
          refine ⟨E.flat_length _, .inr ⟨g, cap, _, by simp, Nat.zero_le _, setRow_heap w g cur _ e _ hg, by rw [hlen]; exact hroom, hmx, ?_, ?_⟩⟩
          · simp only [List.size_toArray, List.length_append, List.length_take, List.length_drop, Array.length_toList]
            omega
          · rw [ht, E.flat_append]
            have e2 : (l ++ List.replicate m z0).length * E.k = (E.flat l ++ E.flat (List.replicate m z0)).length := by rw [hlen, List.length_append, hll, hlm, Nat.add_mul]
            rw [e2]
            exact List.take_left
      · have holds : ∀ j u, (E.flat l)[j]? = some u → w.cell? ((⟨g, 0, none⟩ : Addr).add j) = some u := hown.row.cells (g := g) rfl
        exact ⟨_, _, hgro (some ⟨g, 0, none⟩) cap (by omega) rfl (run_firstCells_some (P := P) w.drew i.size l.length _ l.length cap (E.flat l) (by rw [his]; exact hll) (by simpa using holds)), hgo cap (by omega), ((Chg.refl _ w).drew).alloc _, .inr ⟨w.heap.size, rfl, Nat.le_refl _⟩⟩

variable {ops : Array Oper} {rest : List Oper} {o : Oper} {a : Act} {Q : Exit → Act → World → Prop}
/-- append of so many zeros, as one step of the walk. -/
theorem appz_ev (hu : P.underlying t = some (.slice e)) (hti : P.underlying ti = some (.int .i64)) {k : Nat} (hinfo : (P.info? e).map (fun i => (i.zero, i.size, i.bytes)) = some (some z, k, by_)) (hk : E.k = k) (hz : z.cells.toList = E.f z0)
    (hgd : o.guard = none) (s x : Operand) (ho : o.op = .call { callee := .builtin .append, args := #[s, x], argTypes := #[t, ti] })
    (hown : Own w e E v l) (hs : a.eval s = v) (m : Nat) (hx : a.eval x = .int .i64 m) (hb : (l.length + m) * by_ ≤ 140737488355328) (hb0 : 0 < by_)
    (h : ∀ A' n' c' w', Kp (n' = l.length + m) → Own w' e E (.slice A' n' c') (l ++ List.replicate m z0) → Chg (fun g => v.ownBlock = some g) w w' → ((Value.slice A' n' c').ownBlock = v.ownBlock ∨ ∃ g, (Value.slice A' n' c').ownBlock = some g ∧ w.heap.size ≤ g) → wpList P ops Q rest (a.put o.dst (.slice A' n' c')) w') :
    wpList P ops Q (o :: rest) a w := by
  obtain ⟨i, hi, h0, h1, h2⟩ := info_parts hinfo
  obtain ⟨v', w', hr, g2, g3, g4⟩ := run_appz (P := P) (ty := o.type) hu hti hi h0 (h1.trans hk.symm) h2 hz hown m hb hb0
  obtain ⟨A', c', hv, _⟩ := g2.shape
  rw [List.length_append, List.length_replicate] at hv
  subst hv
  refine wpList_plain hgd fun K hK => ?_
  unfold Oper.wp execOp
  simp only [ho, resolve, invoke, builtin, Sem.run_bind, Sem.run_pure, Result.andThen_ok, List.map_toArray, List.map_cons, List.map_nil, hs, hx, hr]
  exact hK _ _ (h A' _ c' w' ⟨rfl⟩ g2 g3 g4)
end
end Go.Proofs.Ythdfmopbihpcoaa
