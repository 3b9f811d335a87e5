/- What laid of package timer's law answers; bounds stand in the statement. -/
import Derived.Test.YtobgabjoehjpcaaAw
namespace Go.Proofs.Ytobgabjoehjpcaa
open Go.RowKit

structure OpM where
  kind : Int
  ref : Int
  tick : Int
def eOp : El OpM := ⟨3, fun o => [.int .i64 o.kind, .int .i64 o.ref, .int .i64 o.tick], fun _ => rfl, fun _ u h => by simp at h; rcases h with rfl | rfl | rfl <;> rfl, by decide⟩
def setAll (s : MS) (ops : List OpM) : MS := ops.foldl (fun s o => s.set o.ref o.tick) s
theorem setAll_ok (s : MS) (h : Ok s) (ops : List OpM) : Ok (setAll s ops) := by
  induction ops generalizing s with
  | nil => exact h
  | cons o ops ih => exact ih _ (h.set _ _)
theorem setAll_tn (s : MS) (ops : List OpM) : (setAll s ops).tn ≤ s.tn + ops.length := by
  induction ops generalizing s with
  | nil => simp [setAll]
  | cons o ops ih =>
    have h1 := ih (s.set o.ref o.tick)
    have h2 := s.tn_le o.ref o.tick
    simp only [List.length_cons]
    show (setAll (s.set o.ref o.tick) ops).tn ≤ _
    omega
theorem setAll_snoc (s : MS) (ops : List OpM) (k : Nat) (h : k < ops.length) : setAll s (ops.take (k + 1)) = (setAll s (ops.take k)).set ops[k].ref ops[k].tick := by
  rw [List.take_succ_eq_append_getElem h]
  unfold setAll
  rw [List.foldl_append]
  rfl
def ms0 : MS := ⟨[], [], 0⟩
/-- Both wheels, made since w0. -/
structure Two (w0 w : World) (p q : Nat) (qv lv : Value) (s : MS) : Prop where
  wh : IsWh w p qv s.l s.tn
  rf : IsRf w q lv s.ts
  fw : ∀ g, FW p qv g → w0.heap.size ≤ g
  fr : ∀ g, FW q lv g → w0.heap.size ≤ g
  bel : Below w0.heap.size w0 w
theorem fw_same {w0 w : World} {p : Nat} {v v' : Value} (h : ∀ g, FW p v g → w0.heap.size ≤ g) (hs : Same w v v') (hb : w0.heap.size ≤ w.heap.size) : ∀ g, FW p v' g → w0.heap.size ≤ g := fun g hg => by
  rcases hg with rfl | hg
  · exact h g (.inl rfl)
  · rcases hs with e | ⟨g', e, e2⟩
    · exact h g (.inr (e ▸ hg))
    · rw [e] at hg; cases hg; omega
theorem fw_eq {w0 : World} {p : Nat} {v v' : Value} (h : ∀ g, FW p v g → w0.heap.size ≤ g) (hs : v'.ownBlock = v.ownBlock) : ∀ g, FW p v' g → w0.heap.size ≤ g := fun g hg => by
  rcases hg with rfl | hg
  · exact h g (.inl rfl)
  · exact h g (.inr (hs ▸ hg))
theorem Two.below {w0 w w' : World} {p q : Nat} {qv lv : Value} {s : MS} (h : Two w0 w p q qv lv s) (hb : Below w.heap.size w w') : Two w0 w' p q qv lv s :=
  ⟨h.wh.below hb, h.rf.below hb, h.fw, h.fr, bstep h.bel h.bel.size hb⟩
/-- The program's part turned. -/
theorem Two.turnW {w0 w w' : World} {p q : Nat} {qv qv' lv : Value} {s s' : MS} (h : Two w0 w p q qv lv s) (hw : IsWh w' p qv' s'.l s'.tn) (hs : Same w qv qv') (hc : Chg (FW p qv) w w') (ht : s'.ts = s.ts) : Two w0 w' p q qv' lv s' :=
  ⟨hw, by rw [ht]; exact h.rf.apart h.wh hc, fw_same h.fw hs h.bel.size, h.fr, chg_below h.bel hc h.fw h.bel.size⟩
def LaidPost (w : World) (ops : List OpM) (e : Ending) (w' : World) : Prop :=
  ∃ p q qv lv, e = .returned (.tuple #[.pointer (some ⟨p, 0, none⟩), .pointer (some ⟨q, 0, none⟩)]) ∧ Two w w' p q qv lv (setAll ms0 ops)
set_option maxRecDepth 100000 in
set_option maxHeartbeats 4000000 in
theorem laid_any (w : World) (ops : List OpM) (A : Option Addr) (c : Nat) (hs : Src w eOp A c ops) (hn : ops.length ≤ 9000000000000) :
    Calls Try.prog 13 #[.slice A ops.length c] w (LaidPost w ops) := by
  have HS := Kp.mk hs
  clear hs
  go_enter Try.func13, Try.ntmps13
  go_wp2_with fail
  refine (new_any w).mono ?_
  rintro e w1 ⟨p, hp, rfl, h1, hb1⟩
  have T0 : Kp (Two w (w1.alloc (.cells #[.slice none 0 0] 40)) p w1.heap.size (.slice none 0 0) (.slice none 0 0) (setAll ms0 (ops.take 0))) := ⟨by
    have hb2 : Below w1.heap.size w1 (w1.alloc (.cells #[.slice none 0 0] 40)) := (Below.refl _ _).alloc (Nat.le_refl _) _
    have hz := hb1.size
    refine ⟨h1.below hb2, ⟨blk_new w1 _, Own.nil _ _ _⟩, fun g hg => ?_, fun g hg => ?_, bstep hb1 hb1.size hb2⟩
    · rcases hg with rfl | hg; exact hp; cases hg
    · rcases hg with rfl | hg; exact hz; cases hg⟩
  obtain ⟨q, hq⟩ : ∃ q, q = w1.heap.size := ⟨_, rfl⟩
  rw [← hq] at T0
  have HQ := Kp.mk hq
  clear h1 hb1 hp hq
  go_upto_region 5 with fail
  rw [← HQ.out]
  go_loopw [7, 16] (fun _ i wr => ∃ (k : Nat) (qv lv : Value), k ≤ ops.length ∧ i = .int .i64 k ∧ Kp (Two w wr p q qv lv (setAll ms0 (ops.take k)))) (fun _ i _ => ops.length - (intOf i).toNat)
  case atStart => exact ⟨0, _, _, Nat.zero_le _, rfl, T0⟩
  case round =>
    clear T0
    obtain ⟨k, qv, lv, hk, rfl, hT⟩ := hrel
    by_cases hlt : k < ops.length
    · cases A with
      | none => have := (HS.out.none rfl).1; subst this; simp at hlt
      | some x =>
        obtain ⟨g, o, rfl⟩ := HS.out.addr (by omega)
        have hs := HS.out.below hT.out.bel
        obtain ⟨x, hx⟩ : ∃ x, x = ops[k] := ⟨_, rfl⟩
        have e0 : wr.cell? ⟨g, o + k * 3, none⟩ = some (.int .i64 x.kind) := by have := hs.elem k 0 hlt (by decide); rw [← hx] at this; simpa [eOp] using this
        have e1 : wr.cell? ⟨g, o + k * 3 + 1, none⟩ = some (.int .i64 x.ref) := by have := hs.elem k 1 hlt (by decide); rw [← hx] at this; simpa [eOp, Nat.add_assoc] using this
        have e2 : wr.cell? ⟨g, o + k * 3 + 2, none⟩ = some (.int .i64 x.tick) := by have := hs.elem k 2 hlt (by decide); rw [← hx] at this; simpa [eOp, Nat.add_assoc] using this
        have hsn := setAll_snoc ms0 ops k hlt
        rw [← hx] at hsn
        have HSN := Kp.mk hsn
        obtain ⟨s, hsd⟩ : ∃ s, s = setAll ms0 (ops.take k) := ⟨_, rfl⟩
        have OK : Kp (Ok s) := ⟨by rw [hsd]; exact setAll_ok _ Ok.nil _⟩
        have TN : Kp (s.tn ≤ 9000000000000) := ⟨by
          have h1 := setAll_tn ms0 (ops.take k)
          rw [← hsd] at h1
          have h2 : (ops.take k).length ≤ k := List.length_take_le _ _
          have h3 : ms0.tn = 0 := rfl
          omega⟩
        rw [← hsd] at hT HSN
        have hb2 : Below wr.heap.size wr (wr.alloc (.cells #[.int .i64 x.kind, .int .i64 x.ref, .int .i64 x.tick] 51)) := (Below.refl _ _).alloc (Nat.le_refl _) _
        have T2 := Kp.mk (hT.out.below hb2)
        have MS1 := Kp.mk (m_set _ p qv s x.ref x.tick T2.out.wh OK.out (by have := TN.out; omega))
        have X2 := Kp.mk (blk_new wr (.cells #[.int .i64 x.kind, .int .i64 x.ref, .int .i64 x.tick] 51))
        obtain ⟨z, hz⟩ : ∃ z, z = wr.heap.size := ⟨_, rfl⟩
        have HZ := Kp.mk hz
        have HZW : Kp (∀ g, FW p qv g → g < z) := ⟨fun g hg => by rw [hz]; exact hT.out.wh.fwlt g hg⟩
        clear hs hx hsn hsd hb2 hz
        go_wp2_with fail
        refine MS1.out.mono ?_
        rintro e w3 ⟨rfl, qv3, h3, s3, c3⟩
        have X3 := Kp.mk (c3.at X2.out (fun hF => by have h1 := HZW.out _ hF; have h2 := HZ.out; omega))
        have RF3 := Kp.mk (T2.out.rf.apart T2.out.wh c3)
        have W3 := Kp.mk h3
        have B3 := Kp.mk (chg_below T2.out.bel c3 T2.out.fw T2.out.bel.size)
        have F3 := Kp.mk (fw_same T2.out.fw s3 T2.out.bel.size)
        have MR := Kp.mk (m_rset w3 q lv s x.ref x.tick RF3.out OK.out)
        have f1 := blk_c X3.out 1
        have f2 := blk_c X3.out 2
        have q1 := lt_of_block X3.out
        have FR3 := Kp.mk T2.out.fr
        clear h3 s3 c3 MS1 e0 e1 e2 X2 T2 hT X3
        go_wp2_with fail
        refine MR.out.mono ?_
        rintro e w4 ⟨rfl, lv4, h4, s4, c4⟩
        have T4 : Kp (Two w w4 p q qv3 lv4 (setAll ms0 (ops.take (k + 1)))) := ⟨by
          rw [HSN.out]
          exact ⟨W3.out.apart RF3.out c4, h4, F3.out, fw_same FR3.out s4 B3.out.size, chg_below B3.out c4 FR3.out B3.out.size⟩⟩
        clear h4 s4 c4 MR f1 f2 q1
        go_wp2
        go_roundw
        case rel => exact ⟨k + 1, qv3, lv4, by omega, by go_num, T4⟩
        case measure => simp [intOf]; omega
    · have hle : ops.length ≤ k := by omega
      rw [List.take_of_length_le hle] at hT
      clear hlt
      go_wp2
      go_ret2
      exact ⟨p, q, qv, lv, rfl, hT.out⟩
end Go.Proofs.Ytobgabjoehjpcaa
