/- The numbers of a graph's bonds in order (order of package links); bounds stand in each statement. -/
import Derived.Test.YtameidoaenoppaaGreatDoorLP
import Derived.Test.YtameidoaenoppaaGreatDoorRange
import Derived.Test.YtameidoaenoppaaGreatDoorMapR
namespace Go.Proofs.YtameidoaenoppaaGreatDoor
open Go.RowKit

theorem T50 : SlT Tryz.prog 23 2 eI64 8 := SlT.mk' (k := 1) (z := .int .i64 0) Tryz.underlying23 (by kernel_rfl) rfl rfl
/-- What slices.Sort of a row of one's own does. -/
def SortC : Prop := ∀ (w : World) (v : Value) (l : List Int), Own w 2 eI64 v l → l.length ≤ 1000000 →
  Calls Tryz.prog 74 #[v] w fun e w' => e = .returned (.tuple #[]) ∧ Own w' 2 eI64 v (l.mergeSort fun x y => decide (x ≤ y)) ∧ Chg (fun x => v.ownBlock = some x) w w'
theorem srt_nums {l m : List Int} (h : l.Perm m) (hm : m.Pairwise (· < ·)) : (l.mergeSort fun x y => decide (x ≤ y)) = m := by
  have h1 : (l.mergeSort fun x y => decide (x ≤ y)).Pairwise (fun x y => x ≤ y) := by
    have := List.pairwise_mergeSort (le := fun x y : Int => decide (x ≤ y)) (fun a b c h1 h2 => by simp at h1 h2 ⊢; omega) (fun a b => by simp; omega) l
    exact this.imp (fun h => by simpa using h)
  have h2 : m.Pairwise (fun x y => x ≤ y) := hm.imp (fun h => by omega)
  exact ((List.mergeSort_perm l _).trans h).eq_of_pairwise (fun a b _ _ h3 h4 => by omega) h1 h2
def nums (ns : List NB) : List Int := ns.map (·.1)
theorem nums_len (ns : List NB) : (nums ns).length = ns.length := by simp [nums]
def OrderPost (w : World) (ns : List NB) (e : Ending) (w' : World) : Prop := ∃ v, e = .returned v ∧ Own w' 2 eI64 v (nums ns) ∧ Fresh w v ∧ Below w.heap.size w w'
set_option maxRecDepth 100000 in
set_option maxHeartbeats 2000000 in
theorem order_any (hs : SortC) (w : World) (p bm lm rm : Nat) (ns : List NB) (last : Int) (h : IsG w p bm lm rm ns last) :
    Calls Tryz.prog 59 #[.pointer (some ⟨p, 0, none⟩)] w (OrderPost w ns) := by
  have hc0 := h.g.c0
  have hps := lt_of_block h.g.blk
  have hrm : Kp ((nums ns).Pairwise (· < ·)) := ⟨List.pairwise_map.2 (h.ok.rise.imp (fun {a b} h => h))⟩
  have hlen : ns.length ≤ 1024 := h.ok.len
  obtain ⟨w1, hr1, hrg, hb1, hz1⟩ := h.g.mb.range Tryz.underlying83
  have hbm := h.g.mb.lt
  have HRG := Kp.mk hrg
  have HB1 := Kp.mk hb1
  have HZ1 := Kp.mk hz1
  have HS := Kp.mk hs
  have HBE : Kp ((bondsE ns).map (·.1) = nums ns) := ⟨by simp [bondsE, nums]⟩
  have HBL : Kp ((bondsE ns).length = ns.length) := ⟨by simp [bondsE]⟩
  clear h hrg hb1 hz1 hs
  go_enter Tryz.func59, Tryz.ntmps59
  go_wp2
  go_loopw [3, 4] (fun v _ wr => ∃ seen, Kp (RangeV K2 wr bm w.heap.size (bondsE ns) seen) ∧ Kp (Own wr 2 eI64 v seen) ∧ Kp (Fresh w v) ∧ Kp (Below w.heap.size w wr) ∧ Kp (w.heap.size < wr.heap.size)) (fun _ _ wr => wr.rangeLeft bm w.heap.size)
  case atStart => exact ⟨[], HRG, ⟨Own.nil _ _ _⟩, ⟨Fresh.nil _ _ _⟩, HB1, ⟨by have := HZ1.out; omega⟩⟩
  case round =>
    obtain ⟨seen, HR, HO, HF, HB, HW⟩ := hrel
    rcases HR.out.next 0 with ⟨hperm, hr⟩ | ⟨x, v, w2, hok, hlk, hns, hr, hrng, hchg, hsz, hen, hlt⟩
    · have hp : Kp (seen.Perm (nums ns)) := ⟨by rw [← HBE.out]; exact hperm⟩
      have hsl : Kp (seen.length ≤ 1000000) := ⟨by rw [hp.out.length_eq, nums_len]; omega⟩
      clear hperm
      go_wp2_with (go_at_call 74; refine (HS.out _ _ _ HO.out hsl.out).mono ?_; rintro e w3 ⟨rfl, ho3, hc3⟩; have HO3 := Kp.mk ho3; have HC3 := Kp.mk hc3; clear ho3 hc3)
      go_ret
      have e := srt_nums hp.out hrm.out
      have HO3' := HO3.out
      rw [e] at HO3'
      exact ⟨_, rfl, HO3', HF.out, chg_below HB.out HC3.out (fun g hg => HF.out g hg) HB.out.size⟩
    · have hen' : (Instr.entry (.pointer (some ⟨w.heap.size, 0, none⟩))).run Tryz.prog w2 = .ok (.tuple #[.int .i64 x, v]) w2 := hen
      have hr' : (Instr.next (.pointer (some ⟨w.heap.size, 0, none⟩)) false 0).run Tryz.prog wr = .ok (.tuple #[.bool true, .int .i64 x, v]) w2 := hr
      obtain ⟨A, c, hv, _⟩ := HO.out.shape
      subst hv
      have hsl : seen.length ≤ 1024 := by have := HR.out.len; rw [HBL.out] at this; omega
      have hne := HR.out.ne HO.out
      have ho2 : Own w2 2 eI64 (.slice A seen.length c) seen := HO.out.frame hchg (fun g hg e => hne (by rw [hg, e]))
      have HO2 := Kp.mk ho2
      have HN2 := Kp.mk hrng
      have HC2 := Kp.mk hchg
      have HSZ := Kp.mk hsz
      have HLT := Kp.mk hlt
      have HNE := Kp.mk hne
      have hb2 : Below w.heap.size w w2 := chg_below HB.out hchg (fun g hg => by omega) HB.out.size
      have HB2 := Kp.mk hb2
      have hmb : bm < w.heap.size := hbm
      clear hrng hchg hsz hlt hok hlk hns hr hen hb2 hne
      go_wp2_with (at_builtin; refine app1_ev T50 x rfl _ _ rfl ho2 rfl rfl rfl (by simp) rfl (by omega) (by omega) ?_; intro A' n' c' w3 a0 a1 a2 a3; have A0 := a0; have A1 := Kp.mk a1; have A2 := Kp.mk a2; have A3 := Kp.mk a3; clear a0 a1 a2 a3)
      go_roundw
      case rel =>
        refine ⟨seen ++ [x], ⟨HN2.out.frame A2.out (fun h => ?_) (fun h => ?_)⟩, A1, ⟨?_⟩, ⟨?_⟩, ⟨?_⟩⟩
        · have := HF.out _ h; omega
        · exact HNE.out h
        · exact (HF.out).app (by have := HB2.out.size; exact this) A3.out
        · exact chg_below HB2.out A2.out (fun g hg => HF.out g hg) HB2.out.size
        · have := A2.out.size; have := HSZ.out; have := HW.out; omega
      case measure =>
        have e := HN2.out.left A2.out (fun h => by have := HF.out _ h; omega) (fun h => HNE.out h)
        have := HLT.out
        rw [e]
        exact this
end Go.Proofs.YtameidoaenoppaaGreatDoor
