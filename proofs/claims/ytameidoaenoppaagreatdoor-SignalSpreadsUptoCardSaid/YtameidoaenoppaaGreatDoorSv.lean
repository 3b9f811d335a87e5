/- What slices.Values of a row of entries tells, round by round; for at most a million bonds. -/
import Derived.Test.YtameidoaenoppaaGreatDoorLEn
import Derived.Test.YtameidoaenoppaaGreatDoorRange
namespace Go.Proofs.YtameidoaenoppaaGreatDoor
open Go.RowKit Go.Shelf
attribute [local go_sem] Oper.semAt_some

/-- Bonds that may stand in a graph. -/
abbrev Bg := { x : Bd // Good x }
/-- All cells are kept but those of the blocks X. -/
structure KpI (X : Nat → Prop) (W W' : World) : Prop where
  size : W.heap.size ≤ W'.heap.size
  cells : ∀ k o, W.heap[k]? = some o → o.isCells = true → ¬ X k → W'.heap[k]? = some o
theorem KpI.refl (X : Nat → Prop) (W : World) : KpI X W W := ⟨Nat.le_refl _, fun _ _ h _ _ => h⟩
theorem KpI.trans {X : Nat → Prop} {A B C : World} (h : KpI X A B) (k : KpI X B C) : KpI X A C := ⟨Nat.le_trans h.size k.size, fun i o hi hc hx => k.cells i o (h.cells i o hi hc hx) hc hx⟩
theorem KpI.alloc {X : Nat → Prop} {A B : World} (h : KpI X A B) (o : Obj) : KpI X A (B.alloc o) := ⟨by have := h.size; simp; omega, fun i o' hi hc hx => blk_alloc (h.cells i o' hi hc hx) o⟩
theorem KpI.of_chg {X Y : Nat → Prop} {A B : World} (h : Chg Y A B) (hY : ∀ k, Y k → X k ∨ ∃ o, A.heap[k]? = some o ∧ o.isCells = false) : KpI X A B :=
  ⟨h.size, fun k o hk hc hx => (h.block k (lt_of_block hk) (fun hy => by
    rcases hY k hy with h1 | ⟨o', h1, h2⟩
    · exact hx h1
    · rw [hk] at h1; cases h1; rw [hc] at h2; cases h2)).trans hk⟩
theorem KpI.own {X : Nat → Prop} {A B : World} {α : Type} {T : TypeId} {E : El α} {v : Value} {l : List α} (h : KpI X A B) (ho : Own A T E v l) (hX : ∀ g, v.ownBlock = some g → ¬ X g) : Own B T E v l := by
  refine ⟨ho.row.1, ?_⟩
  rcases ho.row.2 with h0 | ⟨g, cap, cur, rfl, hb, hg, rest⟩
  · exact .inl h0
  · exact .inr ⟨g, cap, cur, rfl, hb, h.cells g _ hg rfl (hX g rfl), rest⟩
theorem KpI.boxed {X : Nat → Prop} {A B : World} {b : Nat} {t : TypeId} {v : Value} (h : KpI X A B) (hb : Boxed A b t v) (hX : ¬ X b) : Boxed B b t v := h.cells b _ hb rfl hX

theorem Src.bd {w : World} {g o c : Nat} {t : List Bd} (h : Src w eBd (some ⟨g, o, Option.none⟩) c t) (k : Nat) (x : Bd) (hx : t[k]? = some x) :
    w.cell? ⟨g, o + k * 3, Option.none⟩ = some (.int .i64 x.a) ∧ w.cell? ⟨g, o + k * 3 + 1, Option.none⟩ = some (.int .i64 x.b) ∧ w.cell? ⟨g, o + k * 3 + 2, Option.none⟩ = some (.int .i64 x.r) := by
  obtain ⟨hk, rfl⟩ := List.getElem?_eq_some_iff.1 hx
  exact ⟨h.elem k 0 hk (by decide), h.elem k 1 hk (by decide), h.elem k 2 hk (by decide)⟩
set_option maxRecDepth 100000 in
set_option maxHeartbeats 2000000 in
theorem val1_in (F : Fence) (n : Nat) (h50 : F.fn 61) (hro : F.round = none) (hn : 1 ≤ n) (l Bs : Nat) (A : Option Addr) (c m : Nat) (L : List Bg) (hm : m = L.length) (hlen : m ≤ 1000000) (X : Nat → Prop) (hXg : ∀ g, (Value.slice A m c).ownBlock = some g → ¬ X g) (J Jx : List Bg → World → Prop)
    (W : World) (hJ : AbidesFrom W.heap.size J) (hBs : W.cell? ⟨Bs, 0, none⟩ = some (.slice A m c)) (hO : Own W 71 eBd (.slice A m c) (L.map (·.1)))
    (hY : ∀ pre x W1, J pre W1 → pre.length < L.length → YieldAt F (n - 1) Tryz.prog l #[vB x.1] W1 fun e W' =>
      (e = .returned (.bool true) ∧ J (pre ++ [x]) W' ∧ KpI X W1 W') ∨ (e = .returned (.bool false) ∧ Jx (pre ++ [x]) W')) (h0 : J [] W) :
    CallsIn F n Tryz.prog 61 #[.func (.yield l) #[] #[], .pointer (some ⟨Bs, 0, none⟩)] W fun e W' => (∃ v, e = .returned v) ∧
      ((∃ ys, ys = L ∧ J ys W') ∨ (∃ pre, pre <+: L ∧ Jx pre W')) := by
  have HJ := Kp.mk hJ
  have HO := Kp.mk hO
  have HY := Kp.mk hY
  have HM := Kp.mk hm
  have HX := Kp.mk hXg
  clear hJ hO hY hm hXg
  refine callsIn_of_wp Tryz.func61 rfl h50 ?_ hro
  simp only [Tryz.ntmps61, List.size_toArray, List.length_cons, List.length_nil, Nat.reduceAdd, Nat.reduceSub, Array.replicate_succ, Array.replicate_zero, List.push_toArray, List.append_toArray, List.nil_append, List.cons_append]
  gi_wp2
  gi_loopw [7] (fun i wr => ∃ k : Nat, k ≤ m ∧ i = .int .i64 k ∧ Kp (J (L.take k) wr) ∧ Kp (KpI X W wr) ∧ Kp (W.heap.size ≤ wr.heap.size)) (fun i _ => m - (intOf i).toNat)
  case atStart => exact ⟨0, Nat.zero_le _, rfl, ⟨h0⟩, ⟨KpI.refl _ _⟩, ⟨Nat.le_refl _⟩⟩
  case round =>
    obtain ⟨k, hk, rfl, HJ1, HK, HS⟩ := hrel
    by_cases hlt : k < m
    · have hk2 : k < L.length := by have := HM.out; omega
      obtain ⟨x, hx⟩ : ∃ x, L[k]? = some x := ⟨_, List.getElem?_eq_getElem hk2⟩
      have HXk := Kp.mk hx
      obtain ⟨ad, rfl⟩ : ∃ ad, A = some ad := by
        cases A with
        | none => have h9 := ((HO.out.src rfl).none rfl).1; rw [List.map_eq_nil_iff] at h9; rw [h9] at hx; simp at hx
        | some ad => exact ⟨ad, rfl⟩
      obtain ⟨g, o, rfl⟩ := (HO.out.src rfl).addr (by rw [List.length_map]; omega)
      obtain ⟨c0, c1, c2⟩ := ((HK.out.own HO.out (fun g' hg' => HX.out g' hg')).src rfl).bd k x.1 (by rw [List.getElem?_map, hx]; rfl)
      have k0 : (0 : Int) ≤ (k : Int) := by omega
      have k1 : (k : Int) < (m : Int) := by omega
      have hJ2 : J (L.take k) (wr.alloc (.cells #[.int .i64 x.1.a, .int .i64 x.1.b, .int .i64 x.1.r] 71)) := HJ.out _ _ _ none HJ1.out (World.grownBy_alloc wr _ none) (fun r e => by cases e)
      obtain ⟨fn, tmps, assign, body, hy, hR⟩ := HY.out _ x _ hJ2 (by rw [List.length_take]; omega)
      unfold vB at hy
      clear hx hk2 hJ2
      gi_wp2
      refine hR.mono ?_
      rintro e W3 (⟨rfl, hJ3, hk3⟩ | ⟨rfl, hJx3⟩)
      · have HJ3 := Kp.mk hJ3
        have HK3 := Kp.mk hk3
        clear hJ3 hk3
        gi_wp2
        go_roundw
        case rel =>
          refine ⟨k + 1, by omega, by simp, ⟨?_⟩, ⟨(HK.out.alloc _).trans HK3.out⟩, ⟨by have := HS.out; have h9 := HK3.out.size; simp at h9; omega⟩⟩
          rw [List.take_add_one, HXk.out]
          exact HJ3.out
        case measure => simp [intOf]; omega
      · gi_wp2
        refine bodyPost_ret (results_none rfl _ _ _) rfl ?_
        refine ⟨⟨_, rfl⟩, .inr ⟨L.take (k + 1), List.take_prefix _ _, ?_⟩⟩
        rw [List.take_add_one, HXk.out]
        exact hJx3
    · obtain rfl : k = m := by omega
      gi_wp2
      go_end0
      refine ⟨⟨_, rfl⟩, .inl ⟨_, rfl, ?_⟩⟩
      have := HJ1.out
      rwa [HM.out, List.take_length] at this
theorem val_stops (F : Fence) (n : Nat) (h50 : F.fn 61) (hro : F.round = none) (hn : 1 ≤ n) (w : World) (Bs : Nat) (A : Option Addr) (c m : Nat) (L : List Bg) (hm : m = L.length) (hlen : m ≤ 1000000) (X : Nat → Prop) (hXg : ∀ g, (Value.slice A m c).ownBlock = some g → ¬ X g)
    (hBs : Boxed w Bs 41 (.slice A m c)) (hO : Own w 71 eBd (.slice A m c) (L.map (·.1))) :
    SeqStopsK F n Tryz.prog 61 #[.pointer (some ⟨Bs, 0, none⟩)] (fun x : Bg => #[vB x.1]) (KpI X) (fun ys => ys = L) (fun pre => pre <+: L) L.length w := fun l J Jx W hW hJ _ hY h0 =>
  val1_in F n h50 hro hn l Bs A c m L hm hlen X hXg J Jx W hJ ((hW.cell hBs.lt).trans hBs.cell) (hO.below hW) hY h0

set_option maxHeartbeats 1000000 in
theorem values_in (F : Fence) (n : Nat) (h44 : F.fn 27) (hro : F.round = none) (A : Option Addr) (m c : Nat) (w : World) :
    CallsIn F n Tryz.prog 27 #[.slice A m c] w fun e w' => e = .returned (.func (.func 61) #[] #[.pointer (some ⟨w.heap.size, 0, none⟩)]) ∧ w' = w.alloc (.cells #[.slice A m c] 41) := by
  refine callsIn_of_wp Tryz.func27 rfl h44 ?_ hro
  simp only [Tryz.ntmps27, List.size_toArray, List.length_cons, List.length_nil, Nat.reduceAdd, Nat.reduceSub, Array.replicate_succ, Array.replicate_zero, List.push_toArray, List.append_toArray, List.nil_append, List.cons_append]
  gi_wp2
  go_ret
  exact ⟨rfl, rfl⟩
end Go.Proofs.YtameidoaenoppaaGreatDoor
