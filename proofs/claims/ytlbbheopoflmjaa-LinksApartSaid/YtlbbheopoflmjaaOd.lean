/- of and every of package links's law, of a graph and of none; for a graph whose last number is below 10^18. -/
import Derived.Test.YtlbbheopoflmjaaOc
namespace Go.Proofs.Ytlbbheopoflmjaa
open Go.RowKit Go.Shelf

section
variable {w : World} {p bm lm rm : Nat} {ns : List NB} {last : Int}
theorem IsG.below {w' : World} (h : IsG w p bm lm rm ns last) (hb : Below w.heap.size w w') : IsG w' p bm lm rm ns last := ⟨h.g.below hb, h.ok⟩
theorem Boxed.up {w' : World} {k : Nat} {t : TypeId} {v : Value} (h : Boxed w k t v) (hb : Below w.heap.size w w') : Boxed w' k t v := (hb.block k h.lt).trans h
theorem of_seq (hs : SortC) (n : Nat) (hn : 3 ≤ n) (h : IsG w p bm lm rm ns last) (hla : last ≤ 1000000000000000000) (pid : Int) (t : TypeId) (W : World) (B Bp Bg Bi : Nat) (hb : Below w.heap.size w W) (hP : Boxed W Bp 2 (.int .i64 pid)) (hG : Boxed W Bg 24 (.pointer (some ⟨p, 0, none⟩)))
    (hI : Boxed W Bi 83 (.func (.func 55) #[] #[.pointer (some ⟨Bp, 0, none⟩)])) (hB : B < W.heap.size) (hBn : ∀ g, (g = Bp ∨ g = Bg ∨ g = Bi) → g ≠ B) (hno : ∀ k, ¬ OwnedAt W B t k) :
    SeqStopsK Fence.wide n Try.prog 59 #[.pointer (some ⟨Bg, 0, none⟩), .pointer (some ⟨Bi, 0, none⟩)] (fun x : Bd => #[vB x]) (KpB w.heap.size B t) (fun ys => ys = sel (isOf pid) ns) (fun pre => pre <+: sel (isOf pid) ns) (sel (isOf pid) ns).length W := fun l J Jx W1 hW hJ _ hY h0 =>
  some_of_in Fence.wide n trivial trivial trivial rfl hn t W1 l Bg Bi B w.heap.size p bm lm rm ns last Bp pid (callsIn_wide.2 (order_any hs W1 p bm lm rm ns last ((h.below hb).below hW))) J Jx ((h.below hb).below hW) (Boxed.up hG hW) (Boxed.up hI hW) (Boxed.up hP hW)
    (fun g hg => h.g.lt g hg) (fun g hg => hBn g (by rcases hg with h | h | h; exact .inr (.inl h); exact .inr (.inr h); exact .inl h)) (Nat.le_trans hb.size hW.size) hla (Nat.lt_of_lt_of_le hB hW.size) (fun k hk => hno k (owned_kept (hW.block B hB) k hk)) hJ hY h0
theorem every_seq (hs : SortC) (n : Nat) (hn : 3 ≤ n) (h : IsG w p bm lm rm ns last) (hla : last ≤ 1000000000000000000) (t : TypeId) (W : World) (B Bg Bi : Nat) (hb : Below w.heap.size w W) (hG : Boxed W Bg 24 (.pointer (some ⟨p, 0, none⟩)))
    (hI : Boxed W Bi 83 (.func (.func 54) #[] #[])) (hB : B < W.heap.size) (hBn : ∀ g, (g = Bg ∨ g = Bi) → g ≠ B) (hno : ∀ k, ¬ OwnedAt W B t k) :
    SeqStopsK Fence.wide n Try.prog 59 #[.pointer (some ⟨Bg, 0, none⟩), .pointer (some ⟨Bi, 0, none⟩)] (fun x : Bd => #[vB x]) (KpB w.heap.size B t) (fun ys => ys = sel isAll ns) (fun pre => pre <+: sel isAll ns) (sel isAll ns).length W := fun l J Jx W1 hW hJ _ hY h0 =>
  some_all_in Fence.wide n trivial trivial trivial rfl hn t W1 l Bg Bi B w.heap.size p bm lm rm ns last (callsIn_wide.2 (order_any hs W1 p bm lm rm ns last ((h.below hb).below hW))) J Jx ((h.below hb).below hW) (Boxed.up hG hW) (Boxed.up hI hW)
    (fun g hg => h.g.lt g hg) hBn (Nat.le_trans hb.size hW.size) hla (Nat.lt_of_lt_of_le hB hW.size) (fun k hk => hno k (owned_kept (hW.block B hB) k hk)) hJ hY h0
theorem nil_seq (n : Nat) (hn : 1 ≤ n) (W : World) (Bg Bi : Nat) (Kp0 : World → World → Prop) (hG : Boxed W Bg 24 (.pointer none)) :
    SeqStopsK Fence.wide n Try.prog 59 #[.pointer (some ⟨Bg, 0, none⟩), .pointer (some ⟨Bi, 0, none⟩)] (fun x : Bd => #[vB x]) Kp0 (fun ys => ys = []) (fun pre => pre <+: []) 0 W := fun l J Jx W1 hW _ _ _ h0 =>
  some_nil_in Fence.wide n trivial trivial rfl hn W1 l Bg Bi (Boxed.up hG hW) J Jx h0
theorem sel_all (ns : List NB) : sel isAll ns = ns.map (·.2) := by
  unfold sel isAll
  rw [List.filter_eq_self]
  intro _ _
  rfl
/-- of -/
theorem of_any (hs : SortC) (h : IsG w p bm lm rm ns last) (hla : last ≤ 1000000000000000000) (pid : Int) (most : Nat) (h1 : 1 ≤ most) (hm : most ≤ 1000000) :
    Calls Try.prog 21 #[.pointer (some ⟨p, 0, none⟩), .int .i64 pid, .int .i64 most] w (CollPost w (cutAt most (sel (isOf pid) ns))) :=
  (callsIn_wide (n := 10)).1 (of_in Fence.wide 10 trivial trivial trivial trivial rfl (by omega) w _ pid most h1 hm _ (by have := sel_len (isOf pid) ns; have := h.ok.len; omega)
    (fun W B Bp Bg Bi hb hP hG hI hB hBn hno => of_seq hs 9 (by omega) h hla pid 27 W B Bp Bg Bi hb hP hG hI hB hBn hno))
/-- every -/
theorem every_any (hs : SortC) (h : IsG w p bm lm rm ns last) (hla : last ≤ 1000000000000000000) (most : Nat) (h1 : 1 ≤ most) (hm : most ≤ 1000000) :
    Calls Try.prog 15 #[.pointer (some ⟨p, 0, none⟩), .int .i64 most] w (CollPost w (cutAt most (ns.map (·.2)))) := by
  rw [← sel_all]
  exact (callsIn_wide (n := 10)).1 (every_in Fence.wide 10 trivial trivial trivial trivial rfl (by omega) w _ most h1 hm _ (by have := sel_len isAll ns; have := h.ok.len; omega)
    (fun W B Bg Bi hb hG hI hB hBn hno => every_seq hs 9 (by omega) h hla 27 W B Bg Bi hb hG hI hB hBn hno))
theorem of_nil (w : World) (pid : Int) (most : Nat) (h1 : 1 ≤ most) (hm : most ≤ 1000000) : Calls Try.prog 21 #[.pointer none, .int .i64 pid, .int .i64 most] w (CollPost w []) := by
  have e : cutAt most [] = [] := by unfold cutAt; split <;> simp
  rw [← e]
  exact (callsIn_wide (n := 10)).1 (of_in Fence.wide 10 trivial trivial trivial trivial rfl (by omega) w _ pid most h1 hm [] (by simp)
    (fun W B Bp Bg Bi hb hP hG hI hB hBn hno => nil_seq 9 (by omega) W Bg Bi _ hG))
theorem every_nil (w : World) (most : Nat) (h1 : 1 ≤ most) (hm : most ≤ 1000000) : Calls Try.prog 15 #[.pointer none, .int .i64 most] w (CollPost w []) := by
  have e : cutAt most [] = [] := by unfold cutAt; split <;> simp
  rw [← e]
  exact (callsIn_wide (n := 10)).1 (every_in Fence.wide 10 trivial trivial trivial trivial rfl (by omega) w _ most h1 hm [] (by simp)
    (fun W B Bg Bi hb hG hI hB hBn hno => nil_seq 9 (by omega) W Bg Bi _ hG))
end
end Go.Proofs.Ytlbbheopoflmjaa
