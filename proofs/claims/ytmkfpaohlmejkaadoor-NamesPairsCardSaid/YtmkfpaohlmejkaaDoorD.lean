/- Drop and Gone of package names walked; bounds stand in the statements. -/
import Derived.Test.YtmkfpaohlmejkaaDoorN
namespace Go.Proofs.YtmkfpaohlmejkaaDoor
open Go.RowKit

def dropE (l : List En) (s : ByteArray) : Int := if (atN l s).isSome then 0 else 5
theorem outN_none {l : List En} {s : ByteArray} (h : atN l s = none) : outN l s = l := by
  unfold outN
  rw [List.filter_eq_self]
  intro x hx
  simpa using atN_none h x hx
set_option maxHeartbeats 1000000 in
theorem drop_any (w : World) (p a b : Nat) (l : List En) (h : IsN w p a b l) (s : ByteArray) (hs : s.size ≤ maxLen) : Calls Tryd.prog 14 #[.pointer (some ⟨p, 0, none⟩), .string s] w fun e w' => e = .returned (.int .i64 (dropE l s)) ∧ IsN w' p a b (outN l s) ∧ Chg (FG p a b) w w' := by
  have q0 := h.g.c0
  have hg := h.g.ma.get_ok Tryd.underlying51 (z := .int .i64 0) (by kernel_rfl) s hs
  rw [look_who] at hg
  unfold dropE
  cases hx : atN l s with
  | none =>
    rw [hx] at hg
    have hg1 : (Instr.lookup 51 (.map (some a)) (.string s) true).run Tryd.prog w = .ok (.tuple #[.int .i64 0, .bool false]) w := hg
    have H := Kp.mk h
    have HO := Kp.mk (outN_none hx)
    clear hg h hx
    go_enter Tryd.func14, Tryd.ntmps14
    go_wp2
    go_ret
    exact ⟨rfl, by rw [HO.out]; exact H.out, Chg.refl _ _⟩
  | some x =>
    rw [hx] at hg
    have hg1 : (Instr.lookup 51 (.map (some a)) (.string s) true).run Tryd.prog w = .ok (.tuple #[.int .i64 x.p, .bool true]) w := hg
    have hxg := h.ok.good x (atN_some hx).1
    have hxp : KI.ok x.p := okI x.p (by have := hxg.2.2.1; omega) (by have := hxg.2.2.2; omega)
    have hd1 := fun ty => h.g.ma.del Tryd.underlying51 s hs ty
    obtain ⟨w1, r1, m1, c1⟩ := hd1 0
    have hp := h.g.pne
    have hne := h.g.ne
    have hmb : IsMapV KI w1 b (nameE l) := h.g.mb.frame c1 (fun e => hne e.symm)
    obtain ⟨w2, r2, m2, c2⟩ := hmb.del Tryd.underlying52 x.p hxp 0
    have B1 := c1.at h.g.blk hp.1
    have B2 := c2.at B1 hp.2
    have q1 : w1.cell? ⟨p, 1, none⟩ = some (.map (some b)) := blk_c B1 1
    have m3 : IsMapV KS w2 a (cut (whoE l) s) := m1.frame c2 hne
    rw [cut_who] at m3
    rw [cut_name h.ok hx] at m2
    have R1 : (Builtin.delete_ #[51, 9] 0 #[.map (some a), .string s]).run Tryd.prog w = .ok (.tuple #[]) w1 := r1
    have R2 : (Builtin.delete_ #[52, 2] 0 #[.map (some b), .int .i64 x.p]).run Tryd.prog w1 = .ok (.tuple #[]) w2 := r2
    have HR : Kp (IsN w2 p a b (outN l s) ∧ Chg (FG p a b) w w2) := ⟨⟨⟨B2, m3, m2, hne⟩, h.ok.out s⟩, (c1.mono fun g _ e => .inr (.inl e)).then (c2.mono fun g _ e => .inr (.inr e))⟩
    clear hg h hx hxg hxp hd1 r1 m1 c1 hmb r2 m2 c2 m3 B1 B2 hp hne
    go_enter Tryd.func14, Tryd.ntmps14
    go_wp2
    go_ret
    exact ⟨rfl, HR.out⟩
/-- What is left when a process has no name any more. -/
def outP (l : List En) (q : Int) : List En := match atP l q with
  | none => l
  | some x => outN l x.n
set_option maxHeartbeats 1000000 in
theorem gone_any (w : World) (p a b : Nat) (l : List En) (h : IsN w p a b l) (q : Int) (hq : KI.ok q) : Calls Tryd.prog 15 #[.pointer (some ⟨p, 0, none⟩), .int .i64 q] w fun e w' => e = .returned (nameR l q) ∧ IsN w' p a b (outP l q) ∧ Chg (FG p a b) w w' := by
  have HN := name_any w p a b l h q hq
  unfold nameR at HN ⊢
  unfold outP
  cases hx : atP l q with
  | none =>
    rw [hx] at HN
    have H := Kp.mk h
    clear h hx
    go_enter Tryd.func15, Tryd.ntmps15
    go_wp2_with (go_at_call 17; refine HN.mono ?_; rintro e w' ⟨rfl, rfl⟩)
    go_ret2
    exact ⟨rfl, H.out, Chg.refl _ _⟩
  | some x =>
    rw [hx] at HN
    have hxg := h.ok.good x (atP_some hx).1
    have hsz : x.n.size ≤ maxLen := by
      have h1 := hxg.1
      unfold okA at h1
      rw [Bool.and_eq_true, decide_eq_true_eq] at h1
      have h2 := h1.1
      unfold maxLen
      omega
    have HD := drop_any w p a b l h x.n hsz
    clear h hx hxg hsz
    go_enter Tryd.func15, Tryd.ntmps15
    go_wp2_with (first | (go_at_call 17; refine HN.mono ?_; rintro e w' ⟨rfl, rfl⟩) | (go_at_call 14; refine HD.mono ?_; rintro e w' ⟨rfl, h1, h2⟩))
    go_ret2
    exact ⟨rfl, h1, h2⟩
end Go.Proofs.YtmkfpaohlmejkaaDoor
