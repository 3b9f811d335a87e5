/- What slices.Values of a row of entries tells, round by round; for at most a million entries. -/
import Derived.Test.YtobgabjoehjpcaaSa
import Derived.Test.YtobgabjoehjpcaaRangeIn
namespace Go.Proofs.Ytobgabjoehjpcaa
open Go.RowKit Go.Shelf
attribute [local go_sem] Oper.semAt_some

/-- All cells are kept but those of the blocks X. -/
structure KpI (X : Nat → Prop) (W W' : World) : Prop where
  size : W.heap.size ≤ W'.heap.size
  cells : ∀ k o, W.heap[k]? = some o → o.isCells = true → ¬ X k → W'.heap[k]? = some o
theorem KpI.refl (X : Nat → Prop) (W : World) : KpI X W W := ⟨Nat.le_refl _, fun _ _ h _ _ => h⟩
theorem KpI.trans {X : Nat → Prop} {A B C : World} (h : KpI X A B) (k : KpI X B C) : KpI X A C := ⟨Nat.le_trans h.size k.size, fun i o hi hc hx => k.cells i o (h.cells i o hi hc hx) hc hx⟩
theorem KpI.alloc {X : Nat → Prop} {A B : World} (h : KpI X A B) (o : Obj) : KpI X A (B.alloc o) := ⟨by have := h.size; simp; omega, fun i o' hi hc hx => blk_alloc (h.cells i o' hi hc hx) o⟩
theorem KpI.of_chg {X Y : Nat → Prop} {A B : World} (h : Chg Y A B) (hY : ∀ k, Y k → X k ∨ ∃ o, A.heap[k]? = some o ∧ o.isCells = false) : KpI X A B :=
  ⟨h.size, fun k o hk hc hx => (h.block k (lt_of_block hk) (fun hy => by
    rcases hY k hy with h1 | ⟨o', h1, h2⟩
    · exact hx h1
    · rw [hk] at h1; cases h1; rw [hc] at h2; cases h2)).trans hk⟩
theorem KpI.own {X : Nat → Prop} {A B : World} {α : Type} {T : TypeId} {E : El α} {v : Value} {l : List α} (h : KpI X A B) (ho : Own A T E v l) (hX : ∀ g, v.ownBlock = some g → ¬ X g) : Own B T E v l := by
  refine ⟨ho.row.1, ?_⟩
  rcases ho.row.2 with h0 | ⟨g, cap, cur, rfl, hb, hg, rest⟩
  · exact .inl h0
  · exact .inr ⟨g, cap, cur, rfl, hb, h.cells g _ hg rfl (hX g rfl), rest⟩
theorem KpI.boxed {X : Nat → Prop} {A B : World} {b : Nat} {t : TypeId} {v : Value} (h : KpI X A B) (hb : Boxed A b t v) (hX : ¬ X b) : Boxed B b t v := h.cells b _ hb rfl hX

set_option maxRecDepth 100000 in
set_option maxHeartbeats 2000000 in
theorem val1_in (F : Fence) (n : Nat) (h50 : F.fn 50) (hro : F.round = none) (hn : 1 ≤ n) (l Bs g c m : Nat) (L : List Ent) (hm : m = L.length) (hlen : m ≤ 1000000) (X : Nat → Prop) (hXg : ¬ X g) (J Jx : List Ent → World → Prop)
    (W : World) (hJ : AbidesFrom W.heap.size J) (hBs : W.cell? ⟨Bs, 0, none⟩ = some (.slice (some ⟨g, 0, none⟩) m c)) (hO : Own W 60 eEnt (.slice (some ⟨g, 0, none⟩) m c) L)
    (hY : ∀ pre x W1, J pre W1 → pre.length < L.length → YieldAt F (n - 1) Try.prog l #[agg x] W1 fun e W' =>
      (e = .returned (.bool true) ∧ J (pre ++ [x]) W' ∧ KpI X W1 W') ∨ (e = .returned (.bool false) ∧ Jx (pre ++ [x]) W')) (h0 : J [] W) :
    CallsIn F n Try.prog 50 #[.func (.yield l) #[] #[], .pointer (some ⟨Bs, 0, none⟩)] W fun e W' => (∃ v, e = .returned v) ∧
      ((∃ ys, ys = L ∧ J ys W') ∨ (∃ pre, pre <+: L ∧ Jx pre W')) := by
  have HJ := Kp.mk hJ
  have HO := Kp.mk hO
  have HY := Kp.mk hY
  have HM := Kp.mk hm
  have HX := Kp.mk hXg
  clear hJ hO hY hm hXg
  refine callsIn_of_wp Try.func50 rfl h50 ?_ hro
  simp only [Try.ntmps50, List.size_toArray, List.length_cons, List.length_nil, Nat.reduceAdd, Nat.reduceSub, Array.replicate_succ, Array.replicate_zero, List.push_toArray, List.append_toArray, List.nil_append, List.cons_append]
  gi_wp2
  gi_loopw [7] (fun i wr => ∃ k : Nat, k ≤ m ∧ i = .int .i64 k ∧ Kp (J (L.take k) wr) ∧ Kp (KpI X W wr) ∧ Kp (W.heap.size ≤ wr.heap.size)) (fun i _ => m - (intOf i).toNat)
  case atStart => exact ⟨0, Nat.zero_le _, rfl, ⟨h0⟩, ⟨KpI.refl _ _⟩, ⟨Nat.le_refl _⟩⟩
  case round =>
    obtain ⟨k, hk, rfl, HJ1, HK, HS⟩ := hrel
    by_cases hlt : k < m
    · have hk2 : k < L.length := by have := HM.out; omega
      obtain ⟨x, hx⟩ : ∃ x, L[k]? = some x := ⟨_, List.getElem?_eq_getElem hk2⟩
      have HXk := Kp.mk hx
      have hat := (HK.out.own HO.out (fun g' hg' => by cases hg'; exact HX.out)).ent k x hx
      have c0 := hat.c0
      have c1 := hat.c1
      have c2 := hat.c2
      have hJ2 : J (L.take k) (wr.alloc (.cells #[.int .i64 x.ref, .int .i64 x.dl, .int .i64 x.tn] 60)) := HJ.out _ _ _ none HJ1.out (World.grownBy_alloc wr _ none) (fun r e => by cases e)
      obtain ⟨fn, tmps, assign, body, hy, hR⟩ := HY.out _ x _ hJ2 (by rw [List.length_take]; omega)
      unfold agg at hy
      clear hat hx hk2 hJ2
      gi_wp2
      refine hR.mono ?_
      rintro e W3 (⟨rfl, hJ3, hk3⟩ | ⟨rfl, hJx3⟩)
      · have HJ3 := Kp.mk hJ3
        have HK3 := Kp.mk hk3
        clear hJ3 hk3
        gi_wp2
        go_roundw
        case rel =>
          refine ⟨k + 1, by omega, by simp, ⟨?_⟩, ⟨(HK.out.alloc _).trans HK3.out⟩, ⟨by have := HS.out; have h9 := HK3.out.size; simp at h9; omega⟩⟩
          rw [List.take_add_one, HXk.out]
          exact HJ3.out
        case measure => simp [intOf]; omega
      · gi_wp2
        refine bodyPost_ret (results_none rfl _ _ _) rfl ?_
        refine ⟨⟨_, rfl⟩, .inr ⟨L.take (k + 1), List.take_prefix _ _, ?_⟩⟩
        rw [List.take_add_one, HXk.out]
        exact hJx3
    · obtain rfl : k = m := by omega
      gi_wp2
      go_end0
      refine ⟨⟨_, rfl⟩, .inl ⟨_, rfl, ?_⟩⟩
      have := HJ1.out
      rwa [HM.out, List.take_length] at this
theorem val_stops (F : Fence) (n : Nat) (h50 : F.fn 50) (hro : F.round = none) (hn : 1 ≤ n) (w : World) (Bs g c m : Nat) (L : List Ent) (hm : m = L.length) (hlen : m ≤ 1000000) (X : Nat → Prop) (hXg : ¬ X g)
    (hBs : Boxed w Bs 55 (.slice (some ⟨g, 0, none⟩) m c)) (hO : Own w 60 eEnt (.slice (some ⟨g, 0, none⟩) m c) L) :
    SeqStopsK F n Try.prog 50 #[.pointer (some ⟨Bs, 0, none⟩)] (fun x : Ent => #[agg x]) (KpI X) (fun ys => ys = L) (fun pre => pre <+: L) L.length w := fun l J Jx W hW hJ _ hY h0 =>
  val1_in F n h50 hro hn l Bs g c m L hm hlen X hXg J Jx W hJ ((hW.cell hBs.lt).trans hBs.cell) (hO.below hW) hY h0

set_option maxHeartbeats 1000000 in
theorem values_in (F : Fence) (n : Nat) (h44 : F.fn 44) (hro : F.round = none) (A : Option Addr) (m c : Nat) (w : World) :
    CallsIn F n Try.prog 44 #[.slice A m c] w fun e w' => e = .returned (.func (.func 50) #[] #[.pointer (some ⟨w.heap.size, 0, none⟩)]) ∧ w' = w.alloc (.cells #[.slice A m c] 55) := by
  refine callsIn_of_wp Try.func44 rfl h44 ?_ hro
  simp only [Try.ntmps44, List.size_toArray, List.length_cons, List.length_nil, Nat.reduceAdd, Nat.reduceSub, Array.replicate_succ, Array.replicate_zero, List.push_toArray, List.append_toArray, List.nil_append, List.cons_append]
  gi_wp2
  go_ret
  exact ⟨rfl, rfl⟩
end Go.Proofs.Ytobgabjoehjpcaa
