/- What laid of package links's law answers: both graphs of some calls, alike; the numbers of the calls are int64. -/
import Derived.Test.YtlbbheopoflmjaaSt
import Derived.Test.YtlbbheopoflmjaaAw
namespace Go.Proofs.Ytlbbheopoflmjaa
open Go.RowKit

def eOp : El OpM := ⟨4, fun o => [.int .i64 o.kind, .int .i64 o.a, .int .i64 o.b, .int .i64 o.ref], fun _ => rfl, fun _ u h => by simp at h; rcases h with rfl | rfl | rfl | rfl <;> rfl, by decide⟩
def In64 (n : Int) : Prop := -9223372036854775808 ≤ n ∧ n ≤ 9223372036854775807
theorem step_any (w0 w : World) (p bm lm rm q : Nat) (lv : Value) (ns : List NB) (last : Int) (o : OpM) (h : Two w0 w p bm lm rm q lv ns last) (ht : last ≤ 900000000000000000) (hr : In64 o.ref) :
    Calls Try.prog 13 #[.pointer (some ⟨p, 0, none⟩), .pointer (some ⟨q, 0, none⟩), .agg #[.int .i64 o.kind, .int .i64 o.a, .int .i64 o.b, .int .i64 o.ref]] w (StepPost w0 p bm lm rm q (nsOf ns last o) (lastOf ns last o)) := by
  obtain ⟨k, a, b, r⟩ := o
  by_cases h0 : k = 0
  · subst h0; exact step_0 sortC w0 w p bm lm rm q lv ns last a b r h ht hr
  by_cases h1 : k = 1
  · subst h1; exact step_1 sortC w0 w p bm lm rm q lv ns last a b r h ht hr
  by_cases h2 : k = 2
  · subst h2; exact step_2 sortC w0 w p bm lm rm q lv ns last a b r h ht hr
  by_cases h3 : k = 3
  · subst h3; exact step_3 sortC w0 w p bm lm rm q lv ns last a b r h ht hr
  by_cases h4 : k = 4
  · subst h4; exact step_4 sortC w0 w p bm lm rm q lv ns last a b r h ht hr
  by_cases h5 : k = 5
  · subst h5; exact step_5 sortC w0 w p bm lm rm q lv ns last a b r h ht hr
  exact step_no sortC w0 w p bm lm rm q lv ns last a b r k (by simpa using h0) (by simpa using h1) (by simpa using h2) (by simpa using h3) (by simpa using h4) (by simpa using h5) h ht hr
/-- Both graphs at the beginning. -/
theorem two_new {w w1 : World} {p bm lm rm : Nat} (h1 : IsG w1 p bm lm rm [] 0) (hf : ∀ g, FG p bm lm rm g → w.heap.size ≤ g) (hb : Below w.heap.size w w1) : Two w (w1.alloc (.cells #[.slice none 0 0] 29)) p bm lm rm w1.heap.size (.slice none 0 0) [] 0 := by
  have hb2 : Below w1.heap.size w1 (w1.alloc (.cells #[.slice none 0 0] 29)) := (Below.refl _ _).alloc (Nat.le_refl _) _
  have hz := hb.size
  refine ⟨h1.below hb2, ⟨blk_new w1 _, Own.nil _ _ _⟩, hf, fun g hg => ?_, bstep hb hb.size hb2⟩
  rcases hg with rfl | hg
  · exact hz
  · cases hg
def LaidPost (w : World) (n : Nat) (e : Ending) (w' : World) : Prop :=
  ∃ p bm lm rm q lv ns last, e = .returned (.tuple #[.pointer (some ⟨p, 0, none⟩), .pointer (some ⟨q, 0, none⟩)]) ∧ Two w w' p bm lm rm q lv ns last ∧ last ≤ n
theorem op_cells {w : World} {g o c : Nat} {ops : List OpM} (h : Src w eOp (some ⟨g, o, none⟩) c ops) (k : Nat) (hk : k < ops.length) :
    w.cell? ⟨g, o + k * 4, none⟩ = some (.int .i64 ops[k].kind) ∧ w.cell? ⟨g, o + k * 4 + 1, none⟩ = some (.int .i64 ops[k].a) ∧ w.cell? ⟨g, o + k * 4 + 2, none⟩ = some (.int .i64 ops[k].b) ∧ w.cell? ⟨g, o + k * 4 + 3, none⟩ = some (.int .i64 ops[k].ref) := by
  refine ⟨?_, ?_, ?_, ?_⟩
  · have := h.elem k 0 hk (by decide); simpa [eOp] using this
  · have := h.elem k 1 hk (by decide); simpa [eOp, Nat.add_assoc] using this
  · have := h.elem k 2 hk (by decide); simpa [eOp, Nat.add_assoc] using this
  · have := h.elem k 3 hk (by decide); simpa [eOp, Nat.add_assoc] using this
set_option maxRecDepth 100000 in
set_option maxHeartbeats 4000000 in
theorem laid_any (w : World) (ops : List OpM) (A : Option Addr) (c : Nat) (hs : Src w eOp A c ops) (hr : ∀ o ∈ ops, In64 o.ref) (hn : ops.length ≤ 9000000000000) :
    Calls Try.prog 17 #[.slice A ops.length c] w (LaidPost w ops.length) := by
  have HS := Kp.mk hs
  have HR := Kp.mk hr
  clear hs hr
  go_enter Try.func17, Try.ntmps17
  go_wp2_with fail
  refine (new_any w).mono ?_
  rintro e w1 ⟨p, bm, lm, rm, rfl, h1, hf, hb1⟩
  have T0 := Kp.mk (two_new h1 hf hb1)
  obtain ⟨q, hq⟩ : ∃ q, q = w1.heap.size := ⟨_, rfl⟩
  rw [← hq] at T0
  have HQ := Kp.mk hq
  clear h1 hf hb1 hq
  go_wp2_with fail
  rw [← HQ.out]
  go_loopw [7, 16] (fun _ i wr => ∃ (k : Nat) (lv : Value) (ns : List NB) (last : Int), k ≤ ops.length ∧ i = .int .i64 k ∧ Kp (Two w wr p bm lm rm q lv ns last) ∧ Kp (last ≤ k)) (fun _ i _ => ops.length - (intOf i).toNat)
  case atStart => exact ⟨0, _, _, _, Nat.zero_le _, rfl, T0, ⟨Int.le_refl _⟩⟩
  case round =>
    clear T0
    obtain ⟨k, lv, ns, last, hk, rfl, hT, TN⟩ := hrel
    by_cases hlt : k < ops.length
    · cases A with
      | none => have := (HS.out.none rfl).1; subst this; simp at hlt
      | some x =>
        obtain ⟨g, o, rfl⟩ := HS.out.addr (by omega)
        have hs := HS.out.below hT.out.bel
        obtain ⟨e0, e1, e2, e3⟩ := op_cells hs k hlt
        have hrx := HR.out ops[k] (List.getElem_mem hlt)
        obtain ⟨x, hx⟩ : ∃ x, x = ops[k] := ⟨_, rfl⟩
        rw [← hx] at e0 e1 e2 e3 hrx
        have k0 : (0 : Int) ≤ (k : Int) := by omega
        have k1 : (k : Int) < (ops.length : Int) := by omega
        have hb2 : Below wr.heap.size wr (wr.alloc (.cells #[.int .i64 x.kind, .int .i64 x.a, .int .i64 x.b, .int .i64 x.ref] 23)) := (Below.refl _ _).alloc (Nat.le_refl _) _
        have STP := Kp.mk (step_any w _ p bm lm rm q lv ns last x (hT.out.below hb2) (by have := TN.out; omega) hrx)
        have HLE := Kp.mk (lastOf_le ns last x)
        clear hs hx hb2 hrx
        go_wp2_with (go_at_call 13; refine STP.out.mono ?_; rintro e w5 ⟨rfl, lv', h5⟩; have H5 := Kp.mk h5; clear h5)
        go_roundw
        case rel => exact ⟨k + 1, lv', _, _, by omega, by go_num, H5, ⟨by have := HLE.out.1; have := TN.out; omega⟩⟩
        case measure => simp [intOf]; omega
    · obtain rfl : k = ops.length := by omega
      go_wp2
      go_ret2
      exact ⟨p, bm, lm, rm, q, lv, ns, last, rfl, hT.out, TN.out⟩
end Go.Proofs.Ytlbbheopoflmjaa
