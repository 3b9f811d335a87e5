/- What all of package timer's law answers where the document's list is that of the wheel's timers in their order: true; for at most a hundred thousand. -/
import Derived.Test.YtobgabjoehjpcaaVb
import Derived.Test.YtobgabjoehjpcaaRa
import Derived.Test.YtobgabjoehjpcaaH
namespace Go.Proofs.Ytobgabjoehjpcaa
open Go.RowKit Go.Shelf
attribute [local go_sem] Oper.semAt_some

theorem all_seq (F : Fence) (n : Nat) (h41 : F.fn 41) (h42 : F.fn 42) (h44 : F.fn 44) (h50 : F.fn 50) (hro : F.round = none) (hd : F.depth = none) (hn : 6 ≤ n) (hsort : SortC F (n - 1))
    (Y : Nat → Prop) (w : World) (Bw p : Nat) (qv : Value) (lq : List Ent) (tn : Int) (R : List (Int × Int)) (hlen : lq.length ≤ 1000000)
    (hY0 : ∀ k, Y k → k < w.heap.size) (hR : ∀ S : List Ent, S.Perm lq → S.Pairwise le' → S.map prE = R)
    (hBw : w.cell? ⟨Bw, 0, none⟩ = some (.pointer (some ⟨p, 0, none⟩))) (hw : IsWh w p qv lq tn) : SeqS F n Try.prog 41 #[.pointer (some ⟨Bw, 0, none⟩)] encP (fun l k => Y k ∨ k = l) R w := fun l J Jx W hW hl hJ hJx hYl h0 =>
  all1_in F n h41 h42 h44 h50 hro hd hn hsort Y W l Bw p qv lq tn R hlen (fun k hk => Nat.lt_of_lt_of_le (hY0 k hk) hW.size) hl hR ((hW.cell (World.block_lt_of_cell? w _ hBw)).trans hBw) (hw.below hW) J Jx hJ hJx hYl h0

set_option maxHeartbeats 1000000 in
theorem mkAll_in (F : Fence) (n : Nat) (h : F.fn 32) (hro : F.round = none) (p0 : Option Addr) (w : World) :
    CallsIn F n Try.prog 32 #[.pointer p0] w fun e w' => e = .returned (.func (.func 41) #[] #[.pointer (some ⟨w.heap.size, 0, none⟩)]) ∧ w' = w.alloc (.cells #[.pointer p0] 28) := by
  refine callsIn_of_wp Try.func32 rfl h ?_ hro
  simp only [Try.ntmps32, List.size_toArray, List.length_cons, List.length_nil, Nat.reduceAdd, Nat.reduceSub, Array.replicate_succ, Array.replicate_zero, List.push_toArray, List.append_toArray, List.nil_append, List.cons_append]
  gi_wp2
  go_ret
  exact ⟨rfl, rfl⟩

theorem ownFrom_chg {β : Type} {B : Nat} {Y : Nat → Prop} {w0 : World} (hB : w0.heap.size ≤ B) : OwnFrom B (fun (_ : β) W => Chg Y w0 W) := fun _ X Y' row hs hg hr =>
  ⟨hg.os.trans hs.os, hg.tape.trans hs.tape, hg.output.trans hs.output, Nat.le_trans hs.size hg.size, fun k hk hn => (hg.block k (Nat.lt_of_lt_of_le hk hs.size) (fun e => by have := (hr k e.symm).1; omega)).trans (hs.block k hk hn)⟩
theorem Src.chg {α : Type} {w w' : World} {E : El α} {g o c : Nat} {l : List α} {Y : Nat → Prop} (h : Src w E (some ⟨g, o, Option.none⟩) c l) (hc : Chg Y w w') (hg : ¬ Y g) (hl : g < w.heap.size) : Src w' E (some ⟨g, o, Option.none⟩) c l :=
  ⟨fun ad ha j u hu => by
    have h1 := h.cell ad ha j u hu
    cases ha
    have h2 := hc.block g hl hg
    simp only [World.cell?] at h1 ⊢
    rw [Addr.add_lit] at h1 ⊢
    simp only at h1 ⊢
    rw [h2]
    exact h1, fun h => by cases h⟩
theorem pre_snoc {α : Type} {pre L : List α} {y : α} (h : pre <+: L) (hy : L[pre.length]? = some y) : pre ++ [y] <+: L := by
  obtain ⟨t, rfl⟩ := h
  rw [List.getElem?_append_right (Nat.le_refl _), Nat.sub_self] at hy
  cases t with
  | nil => simp at hy
  | cons a t => simp at hy; subst hy; exact ⟨t, by simp⟩
theorem pre_not {α : Type} {pre L : List α} {x y : α} (hy : L[pre.length]? = some y) (hn : y ≠ x) : ¬ pre ++ [x] <+: L := by
  rintro ⟨t, rfl⟩
  rw [List.append_assoc, List.getElem?_append_right (Nat.le_refl _), Nat.sub_self] at hy
  simp at hy
  exact hn hy.symm
def WlenC (F : Fence) (n : Nat) : Prop := ∀ (w : World) (p : Nat) (qv : Value) (l : List Ent) (tn : Int), IsWh w p qv l tn → CallsIn F n Try.prog 24 #[.pointer (some ⟨p, 0, none⟩)] w fun e w' => e = .returned (.int .i64 l.length) ∧ w = w'
theorem wlenC_wide (n : Nat) : WlenC Fence.wide n := fun w p qv l tn h => callsIn_wide.2 (wlen_any w p qv l tn h)

set_option maxRecDepth 100000 in
set_option maxHeartbeats 4000000 in
theorem all_in (F : Fence) (n : Nat) (h20 : F.fn 20) (h24 : F.fn 24) (h32 : F.fn 32) (h41 : F.fn 41) (h42 : F.fn 42) (h44 : F.fn 44) (h50 : F.fn 50) (hro : F.round = none) (hd : F.depth = none) (hn : 10 ≤ n) (hsort : SortC F (n - 1 - 1)) (hwl : WlenC F (n - 1))
    (w : World) (p : Nat) (qv : Value) (lq : List Ent) (tn : Int) (A : Option Addr) (c : Nat) (T : List Ent) (m : Nat) (hm : m = T.length) (hlen : lq.length ≤ 100000)
    (hT : ∀ S : List Ent, S.Perm lq → S.Pairwise le' → S.map prE = T.map prE) (hTl : T.length = lq.length) (hw : IsWh w p qv lq tn) (hs : Src w eTm A c T) :
    CallsIn F n Try.prog 20 #[.pointer (some ⟨p, 0, none⟩), .slice A m c] w fun e w' => e = .returned (.bool true) ∧ Below w.heap.size w w' := by
  have h1 : 1 ≤ n := by omega
  have hfe : ∀ (w : World) (b : Nat), (binOp BinOp.eql 68 (.func (.func 41) #[] #[.pointer (some ⟨b, 0, none⟩)]) .nilFunc).run Try.prog w = .ok (.bool false) w := fun _ _ => by kernel_rfl
  have hmb : m ≤ 100000 := by omega
  have HM := Kp.mk hm
  have HT := Kp.mk hT
  have HTL := Kp.mk hTl
  have HW := Kp.mk hw
  have HS := Kp.mk hs
  have HSO := Kp.mk hsort
  have HWL := Kp.mk hwl
  have HLE := Kp.mk hlen
  clear hm hT hTl hw hs hsort hwl hlen
  refine callsIn_of_wp_marks Try.func20 rfl h20 ?_ hro
  simp only [Try.ntmps20, List.size_toArray, List.length_cons, List.length_nil, Nat.reduceAdd, Nat.reduceSub, Array.replicate_succ, Array.replicate_zero, List.push_toArray, List.append_toArray, List.nil_append, List.cons_append]
  gi_wp2_with (gi_at_call 32; refine (mkAll_in F (n - 1) h32 hro _ _).mono ?_; rintro e w' ⟨rfl, rfl⟩)
  obtain ⟨W0, hW0⟩ : ∃ W0, W0 = ((((w.alloc (.cells #[.slice A m c] 38)).alloc (.cells #[.bool false] 4)).alloc (.cells #[.pointer (some ⟨p, 0, none⟩)] 28)).alloc (.cells #[.int .i64 0] 3)) := ⟨_, rfl⟩
  have e1 : (w.alloc (.cells #[.slice A m c] 38)).heap.size = w.heap.size + 1 := by simp
  have e2 : ((w.alloc (.cells #[.slice A m c] 38)).alloc (.cells #[.bool false] 4)).heap.size = w.heap.size + 1 + 1 := by simp
  have e3 : (((w.alloc (.cells #[.slice A m c] 38)).alloc (.cells #[.bool false] 4)).alloc (.cells #[.pointer (some ⟨p, 0, none⟩)] 28)).heap.size = w.heap.size + 1 + 1 + 1 := by simp
  have bL : Boxed W0 w.heap.size 38 (.slice A m c) := by rw [hW0]; exact (((Boxed.new w 38 _).alloc _).alloc _).alloc _
  have bR : Boxed W0 (w.heap.size + 1) 4 (.bool false) := by rw [hW0, ← e1]; exact ((Boxed.new _ 4 _).alloc _).alloc _
  have bW : Boxed W0 (w.heap.size + 1 + 1) 28 (.pointer (some ⟨p, 0, none⟩)) := by rw [hW0, ← e2]; exact (Boxed.new _ 28 _).alloc _
  have bK : Boxed W0 (w.heap.size + 1 + 1 + 1) 3 (.int .i64 0) := by rw [hW0, ← e3]; exact Boxed.new _ 3 _
  have hB0 : Below w.heap.size w W0 := by rw [hW0]; exact ((((Below.refl _ w).alloc (Nat.le_refl _) _).alloc (by simp) _).alloc (by simp; omega) _).alloc (by simp; omega) _
  have hsz : W0.heap.size = w.heap.size + 4 := by rw [hW0]; simp
  rw [← hW0]
  clear hW0 e1 e2 e3
  have hw0 := HW.out.below hB0
  have hs0 := HS.out.below hB0
  refine range_own hro h1 (gf := 41) (lb := #[.pointer (some ⟨w.heap.size + 1 + 1, 0, none⟩)]) rfl h41 (enters_of Try.func41 (by kernel_rfl) rfl) (Y := fun k => k = w.heap.size + 1 ∨ k = w.heap.size + 1 + 1 + 1)
    (all_seq F (n - 1) h41 h42 h44 h50 hro hd (by omega) HSO.out _ W0 (w.heap.size + 1 + 1) p qv lq tn (T.map prE) (by have := HLE.out; omega) (by rintro k (h | h) <;> omega) HT.out bW.cell hw0)
    (by rintro k (h | h) <;> omega) (Below.refl _ _) (fun _ => rfl)
    (fun pre V => Chg (fun k => k = w.heap.size + 1 ∨ k = w.heap.size + 1 + 1 + 1) W0 V ∧ Boxed V (w.heap.size + 1) 4 (.bool false) ∧ Boxed V (w.heap.size + 1 + 1 + 1) 3 (.int .i64 pre.length) ∧ pre <+: T.map prE)
    (fun pre V => ¬ pre <+: T.map prE)
    (OwnFrom.and (ownFrom_chg (Nat.le_refl _)) (OwnFrom.and boxed_from (OwnFrom.and (Own.from (boxed_own _ 3 (fun pre : List (Int × Int) => .int .i64 pre.length)) _) (ownFrom_pure _ _))))
    (ownFrom_pure _ _) ⟨Chg.refl _ _, bR, bK, List.nil_prefix⟩
    (fun x => { tmps := #[.pointer (some ⟨p, 0, none⟩), .slice A m c, undef, .pointer (some ⟨w.heap.size, 0, none⟩), .pointer (some ⟨w.heap.size + 1, 0, none⟩), .func (.func 41) #[] #[.pointer (some ⟨w.heap.size + 1 + 1, 0, none⟩)], .pointer (some ⟨w.heap.size + 1 + 1 + 1, 0, none⟩), .int .i64 x.1, .int .i64 x.2, .pointer (some ⟨p, 0, none⟩), .func (.func 41) #[] #[.pointer (some ⟨w.heap.size + 1 + 1, 0, none⟩)], .func (.func 41) #[] #[.pointer (some ⟨w.heap.size + 1 + 1, 0, none⟩)], .bool false, undef, undef, undef, undef, undef, undef, undef, undef, .func (.func 41) #[] #[.pointer (some ⟨w.heap.size + 1 + 1, 0, none⟩)], .int .i64 x.1, .int .i64 x.2, undef, undef, undef, undef, undef, undef, undef, undef, undef, undef, undef, undef, undef, undef, undef, undef, undef, undef, undef, undef, undef, undef, undef, undef, undef, undef], defers := [] })
    ?assign ?body ?done ?stop
  case assign =>
    rintro l' x V K hK
    unfold encP
    gi_wp2
    exact hK
  case body =>
    rintro l' pre x V ⟨hc, hr, hk, hp⟩ hlt
    rw [List.length_map] at hlt
    obtain ⟨ad, rfl⟩ : ∃ ad, A = some ad := by
      cases A with
      | none => have := (HS.out.none rfl).1; rw [this] at hlt; simp at hlt
      | some ad => exact ⟨ad, rfl⟩
    obtain ⟨g, o, rfl⟩ := HS.out.addr (Nat.lt_of_le_of_lt (Nat.zero_le _) hlt)
    have hgl : g < w.heap.size := by
      have h0 := HS.out.elem 0 0 (Nat.lt_of_le_of_lt (Nat.zero_le _) hlt) (by decide)
      rw [List.getElem?_eq_getElem (by rw [eTm.len]; decide)] at h0
      exact World.block_lt_of_cell? w _ h0
    have hsv := hs0.chg hc (by omega) (by omega)
    obtain ⟨i, hi⟩ : ∃ i, i = pre.length := ⟨_, rfl⟩
    obtain ⟨t, ht⟩ : ∃ t, t = T[pre.length] := ⟨_, rfl⟩
    have q0 := hsv.elem pre.length 0 hlt (by decide)
    have q1 := hsv.elem pre.length 1 hlt (by decide)
    rw [← ht] at q0 q1
    have q0' : V.cell? ⟨g, o + pre.length * 2, none⟩ = some (.int .i64 t.ref) := q0
    have q1' : V.cell? ⟨g, o + pre.length * 2 + 1, none⟩ = some (.int .i64 t.dl) := q1
    have bLv : Boxed V w.heap.size 38 (.slice (some ⟨g, o, none⟩) m c) := hc.at bL (by omega)
    have cL := bLv.cell
    have cK := hk.cell
    have fK := hk.frozen
    have cR := hr.cell
    have fR := hr.frozen
    have hkeep := Kp.mk hc
    have HP := Kp.mk hp
    have HT1 : Kp ((T.map prE)[pre.length]? = some (prE t)) := ⟨by rw [ht, List.getElem?_map, List.getElem?_eq_getElem hlt]; rfl⟩
    have HR := Kp.mk hr
    have HK := Kp.mk hk
    rw [← hi] at q0' q1' cK
    have hltm : i < m := by rw [hi, HM.out]; exact hlt
    have HI := Kp.mk hi
    have c0 : (0 : Int) ≤ i := by omega
    have c1 : (i : Int) < m := by omega
    clear bLv hc hr hk hp hsv q0 q1 ht hlt hi hs0 hw0 bL bR bW bK hB0
    gi_wp2
    · rename_i e1 e2 _
      have hx : prE t = x := by unfold prE; rw [e1, e2]
      have hs1 := (Chg.refl (fun k => k = w.heap.size + 1 ∨ k = w.heap.size + 1 + 1 + 1) V).set (p := ⟨w.heap.size + 1 + 1 + 1, 0, none⟩) (.inl (.inr rfl)) (.int .i64 ((i : Int) + 1))
      refine ⟨hs1, hkeep.out.then hs1, HR.out.other (by omega) _, ?_, pre_snoc HP.out (hx ▸ HT1.out)⟩
      have := HK.out.set (.int .i64 ((i : Int) + 1))
      rw [List.length_append, ← HI.out]
      exact this
    · rename_i e1 e2
      have hx : prE t ≠ x := fun h => e2 (by rw [← h]; rfl)
      exact ⟨(Chg.refl _ V).set (p := ⟨w.heap.size + 1, 0, none⟩) (.inl (.inl rfl)) _, pre_not HT1.out hx⟩
    · rename_i e1
      have hx : prE t ≠ x := fun h => e1 (by rw [← h]; rfl)
      exact ⟨(Chg.refl _ V).set (p := ⟨w.heap.size + 1, 0, none⟩) (.inl (.inl rfl)) _, pre_not HT1.out hx⟩
  case done =>
    rintro D V hD ⟨hc, hr, hk, hp⟩ hK
    have hwv : IsWh V p qv lq tn := hw0.frame hc (fun g hg hy => by
      have : g < w.heap.size := by
        rcases hg with rfl | hg
        · exact HW.out.lt
        · exact HW.out.own.lt hg
      omega)
    have bLv : Boxed V w.heap.size 38 (.slice A m c) := hc.at bL (by omega)
    have cL := bLv.cell
    have cK := hk.cell
    have cR := hr.cell
    have fR := hr.frozen
    rw [List.length_map, ← HM.out] at cK
    have hbel : Below w.heap.size w V := chg_below hB0 hc (fun g hg => by omega) hB0.size
    have hml : lq.length = m := by rw [← HTL.out, ← HM.out]
    have HWV := Kp.mk hwv
    have HKD := Kp.mk hK
    have HR := Kp.mk hr
    have HBel := Kp.mk hbel
    clear hc hr hk hp hK bLv hwv hbel hw0 hs0 bL bR bW bK hB0
    have hmx : Try.prog.follows .mixedOrders = true := by kernel_rfl
    gi_wp2
    gi_region_with_o (gi_at_call 24; refine (HWL.out _ _ _ _ _ HWV.out.drew).mono ?_; rintro e w' ⟨rfl, rfl⟩; rw [hml])
    all_goals gi_wp2
    all_goals
      have hK2 : (V.setCell ⟨w.heap.size + 1, 0, none⟩ (.bool true)).drew.heap[D]? = some (.deferred (some [])) := (KeepsOthers.setCell V ⟨w.heap.size + 1, 0, none⟩ (.bool true)).same D _ HKD.out rfl
      have bR2 : Boxed (V.setCell ⟨w.heap.size + 1, 0, none⟩ (.bool true)).drew (w.heap.size + 1) 4 (.bool true) := HR.out.set _
      refine ⟨by simp, .inl ⟨_, _, rfl, run_takeDeferred hK2, ?_⟩⟩
      have hc5 := cell_kept bR2.cell (grownBy_putObj' _ D (.deferred none)) (fun r e => by cases e; exact ⟨_, hK2, rfl⟩)
      refine ⟨.bool true, ?_, rfl, (HBel.out.setCell (p := ⟨w.heap.size + 1, 0, none⟩) (by simp) _).drew.trans (belowK_b (w := w) (Nat.le_refl _) _ D _ _ (by omega) hK2 rfl rfl)⟩
      simp [results, Try.f20, go_sem, hc5]
  case stop =>
    rintro D pre V hD hpre hn _
    exact (hn hpre).elim
/-- All of the law's: true where the document's list is that of the wheel's timers in their order. -/
theorem all_any (w : World) (p : Nat) (qv : Value) (lq : List Ent) (tn : Int) (A : Option Addr) (c : Nat) (T : List Ent) (m : Nat) (hm : m = T.length) (hlen : lq.length ≤ 100000)
    (hT : T.Perm lq) (hso : T.Pairwise ltE) (hnd : lq.Pairwise (fun a b => a.tn ≠ b.tn)) (hw : IsWh w p qv lq tn) (hs : Src w eTm A c T) :
    Calls Try.prog 20 #[.pointer (some ⟨p, 0, none⟩), .slice A m c] w fun e w' => e = .returned (.bool true) ∧ Below w.heap.size w w' :=
  (callsIn_wide (n := 10)).1 (all_in Fence.wide 10 trivial trivial trivial trivial trivial trivial trivial rfl rfl (by omega) (sortC_wide _) (wlenC_wide _) w p qv lq tn A c T m hm hlen
    (fun S hp hS => by
      have hnd' : S.Pairwise (fun a b => a.tn ≠ b.tn) := hp.symm.pairwise hnd (fun h => Ne.symm h)
      rw [srt_eq (hp.trans hT.symm) ((hS.and hnd').imp (fun {a b} h => by unfold le' ltE at *; omega)) hso]) hT.length_eq hw hs)
end Go.Proofs.Ytobgabjoehjpcaa
