/- What of and every of package links's law collect where there is room, and what asked, Peers, Group of both graphs answer alike; for a graph whose last number is below 10^18. -/
import Derived.Test.YtlbbheopoflmjaaLa
namespace Go.Proofs.Ytlbbheopoflmjaa
open Go.RowKit

section
variable {w : World} {p bm lm rm : Nat} {ns : List NB} {last : Int}
theorem cut_2048 {xs : List Bd} (h : xs.length ≤ 1024) : cutAt 2048 xs = xs := by unfold cutAt; rw [if_neg (by omega)]
theorem sel_filter (f : Bd → Bool) (ns : List NB) : sel f ns = (sn ns).filter f := rfl
theorem of_all (h : IsG w p bm lm rm ns last) (hla : last ≤ 900000000000000000) (pid : Int) :
    Calls Try.prog 21 #[.pointer (some ⟨p, 0, none⟩), .int .i64 pid, .int .i64 2048] w (CollPost w ((sn ns).filter (isOf pid))) := by
  have := of_any sortC h (by omega) pid 2048 (by omega) (by omega)
  rw [cut_2048 (by have := sel_len (isOf pid) ns; have := h.ok.len; omega)] at this
  exact this
theorem every_all (h : IsG w p bm lm rm ns last) (hla : last ≤ 900000000000000000) :
    Calls Try.prog 15 #[.pointer (some ⟨p, 0, none⟩), .int .i64 2048] w (CollPost w (sn ns)) := by
  have := every_any sortC h (by omega) 2048 (by omega) (by omega)
  rw [cut_2048 (by have := h.ok.n1024; exact this)] at this
  exact this
theorem every_1 (h : IsG w p bm lm rm ns last) (hla : last ≤ 900000000000000000) (h1 : 1 ≤ (sn ns).length) :
    Calls Try.prog 15 #[.pointer (some ⟨p, 0, none⟩), .int .i64 1] w (CollPost w ((sn ns).take 1)) := by
  have := every_any sortC h (by omega) 1 (by omega) (by omega)
  unfold cutAt at this
  rw [if_pos h1] at this
  exact this
theorem group_any (h : IsG w p bm lm rm ns last) (hla : last ≤ 900000000000000000) (pid : Int) :
    Calls Try.prog 23 #[.pointer (some ⟨p, 0, none⟩), .int .i64 pid] w (GroupPost w (sn ns) pid) := by
  cases hp : decide (IsPid pid)
  · refine (group_bad w p pid hp).mono ?_
    rintro e w' ⟨rfl, rfl⟩
    exact ⟨_, [], rfl, Own.nil _ _ _, Fresh.nil _ _ _, Below.refl _ _, by rw [if_neg (of_decide_eq_false hp)]⟩
  · exact group_ok sortC w p bm lm rm ns last pid h (by omega) hp
theorem dgroup_any {q : Nat} {lv : Value} {L : List Bd} (h : IsD w q lv L) (hn : L.length ≤ 1024) (hG : GoodL L) (pid : Int) :
    Calls Try.prog 47 #[.pointer (some ⟨q, 0, none⟩), .int .i64 pid] w (GroupPost w L pid) := by
  cases hp : decide (IsPid pid)
  · refine (dgroup_bad w q pid hp).mono ?_
    rintro e w' ⟨rfl, rfl⟩
    exact ⟨_, [], rfl, Own.nil _ _ _, Fresh.nil _ _ _, Below.refl _ _, by rw [if_neg (of_decide_eq_false hp)]⟩
  · exact dgroup_ok w q lv L pid h hn hG hp
/-- A group. -/
def IsGrp (L : List Bd) (pid : Int) (S : List Int) : Prop := if IsPid pid then SetOf S (Reach L pid) else S = []
theorem IsGrp.uniq {L : List Bd} {pid : Int} {S T : List Int} (h : IsGrp L pid S) (k : IsGrp L pid T) : S = T := by
  unfold IsGrp at h k
  split at h
  · rename_i h0; rw [if_pos h0] at k; exact h.uniq k
  · rename_i h0; rw [if_neg h0] at k; rw [h, k]
theorem reach_pid {L : List Bd} (hG : GoodL L) {a x : Int} (ha : IsPid a) (h : Reach L a x) : IsPid x := by
  cases h with
  | base => exact ha
  | step _ h2 =>
    obtain ⟨b, hb, _, h3⟩ := h2
    have := hG b hb
    rcases h3 with ⟨_, h3⟩ | ⟨_, h3⟩
    · rw [h3]; exact this.2.1
    · rw [h3]; exact this.1
theorem IsGrp.mem {L : List Bd} {pid x : Int} {S : List Int} (h : IsGrp L pid S) (hx : x ∈ S) : IsPid pid ∧ Reach L pid x := by
  unfold IsGrp at h
  split at h
  · rename_i h0; exact ⟨h0, (h.2 x).1 hx⟩
  · rw [h] at hx; cases hx
/-- A group is the same for all in it. -/
theorem IsGrp.same {L : List Bd} (hG : GoodL L) {pid x : Int} {S T : List Int} (h : IsGrp L pid S) (hx : x ∈ S) (k : IsGrp L x T) : T = S := by
  obtain ⟨h0, h1⟩ := h.mem hx
  have hxp := reach_pid hG h0 h1
  refine k.uniq ?_
  unfold IsGrp at h ⊢
  rw [if_pos h0] at h
  rw [if_pos hxp]
  exact h.imp fun y => ⟨fun hy => h1.symm.trans hy, fun hy => h1.trans hy⟩
theorem uni_mem {L : List Bd} (S : List Int) (pid : Int) (h : IsGrp L pid S) : S.length ≤ 1 + 2 * L.length := by
  unfold IsGrp at h
  split at h
  · rw [← uni_len L pid]
    exact nodup_len h.nodup (fun y hy => ((h.2 y).1 hy).uni)
  · rw [h]; simp
end
end Go.Proofs.Ytlbbheopoflmjaa
