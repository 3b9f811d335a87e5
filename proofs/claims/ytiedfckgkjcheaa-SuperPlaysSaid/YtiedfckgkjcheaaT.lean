/- What super.Exit answers; its conditions stand in each statement. -/
import Derived.Test.YtiedfckgkjcheaaS
import Derived.Test.YtiedfckgkjcheaaN
import Derived.WalkMore
import Derived.Test.YtiedfckgkjcheaaDraw
import Derived.Laws.EntriesVeiled
namespace Go.Proofs.Ytiedfckgkjcheaa
open Go.RowKit

def FirstRun (l : List Ch) (nm : ByteArray) (r : Int) : Prop :=
  (∃ k : Nat, k < l.length ∧ r = k ∧ (∃ c, l[k]? = some c ∧ (beqS c.name nm && c.runs) = true) ∧ ∀ j c, j < k → l[j]? = some c → (beqS c.name nm && c.runs) = false) ∨ (r = -1 ∧ ∀ c ∈ l, (beqS c.name nm && c.runs) = false)
def exitErr (s : SupM) (r tick : Int) : Int :=
  if s.sd = false ∨ s.ov = true then 250 else if r < 0 then 290 else if tick < 0 ∨ 1152921504606846976 < tick ∨ tick < s.la then 1 else 0
def upA (l : List Ch) (ag : List Bool) : List AM := (l.zipIdx.filter fun x => ag.getD x.2 false).map fun x => ⟨true, x.1.name⟩
def upL (l : List Ch) (ag : List Bool) : List Ch := l.mapIdx fun i c => if ag.getD i false then setR true c else c
def exitS (s : SupM) (k : Nat) (c : Ch) (normal : Bool) (tick : Int) : SupM × List AM :=
  if c.rs = 3 then ({ s with la := tick, l := s.l.set k { setR false c with gone := true } }, [])
  else if c.rs = 2 ∧ normal = true then ({ s with la := tick, l := s.l.set k (setR false c) }, [])
  else if s.it < countL (s.ends ++ [tick]) tick s.pe then
    ({ s with la := tick, l := (s.l.set k (setR false c)).map (setR false), ends := s.ends ++ [tick], ov := true }, dA (s.l.set k (setR false c)) (fun _ => true) 0)
  else
    ({ s with la := tick, ends := s.ends ++ [tick], l := upL ((s.l.set k (setR false c)).mapIdx (stopF (withF s.st k) goneF)) (((List.replicate s.l.length false).set k true).mapIdx (agF (s.l.set k (setR false c)) (withF s.st k) againF 0)) },
      dA (s.l.set k (setR false c)) (withF s.st k) 0 ++ upA ((s.l.set k (setR false c)).mapIdx (stopF (withF s.st k) goneF)) (((List.replicate s.l.length false).set k true).mapIdx (agF (s.l.set k (setR false c)) (withF s.st k) againF 0)))
/-- A value that is as it was, or new. -/
def Same (w : World) (v v' : Value) : Prop := v'.ownBlock = v.ownBlock ∨ ∃ g, v'.ownBlock = some g ∧ w.heap.size ≤ g
def ExitPost (w : World) (p : Nat) (lv ev : Value) (s : SupM) (nm : ByteArray) (normal : Bool) (tick : Int) (e : Ending) (w' : World) : Prop :=
  ∃ r, FirstRun s.l nm r ∧ ((exitErr s r tick ≠ 0 ∧ e = .returned (.tuple #[.slice none 0 0, .int .i64 (exitErr s r tick)]) ∧ Below w.heap.size w w') ∨
    (exitErr s r tick = 0 ∧ ∃ (k : Nat) (c : Ch) (v ev' : Value), r = k ∧ s.l[k]? = some c ∧ e = .returned (.tuple #[v, .int .i64 0]) ∧ Own w' 43 eAM v (exitS s k c normal tick).2 ∧ Fresh w v ∧ IsSup w' p lv ev' (exitS s k c normal tick).1 ∧ Same w ev ev' ∧ Chg (FP p lv ev) w w'))

theorem IsSup.setE {w : World} {p : Nat} {lv ev ev' : Value} {s : SupM} {l' : List Int} (hb : w.heap[p]? = some (.cells (SupC s lv ev) 62 (0, 0))) (hl : Own w 65 eCh lv s.l) (he : Own w 2 eI64 ev' l') :
    IsSup (w.setCell ⟨p, 7, none⟩ ev') p lv ev' { s with ends := l' } := by
  refine ⟨?_, hl.set_ne (hl.ne hb (by decide)) _, he.set_ne (he.ne hb (by decide)) _⟩
  rw [blk_set hb]
  rfl
theorem IsSup.drewN {w : World} {p : Nat} {lv ev : Value} {s : SupM} (h : IsSup w p lv ev s) (n : Nat) : IsSup (w.drewN n) p lv ev s := ⟨h.blk, ⟨h.l.row⟩, ⟨h.e.row⟩⟩
theorem blk_at {w : World} {o : Obj} {b : Nat} (h : b = w.heap.size) : (w.alloc o).heap[b]? = some o := by rw [h]; exact blk_new w o
theorem rep_cell {w : World} {g n c k : Nat} (h : Own w 4 eBool (.slice (some ⟨g, 0, none⟩) n c) (List.replicate n false)) (hk : k < n) : w.cell? ⟨g, k, none⟩ = some (.bool false) := by
  have h1 := h.elem k 0 (by simpa using hk) (by decide)
  simpa [eBool] using h1
def upAk (l : List Ch) (ag : List Bool) (k : Nat) : List AM := ((l.zipIdx.take k).filter fun x => ag.getD x.2 false).map fun x => ⟨true, x.1.name⟩
theorem upAk_step (l : List Ch) (ag : List Bool) (m : Nat) (h : m < l.length) : upAk l ag (m + 1) = upAk l ag m ++ if ag.getD m false then [⟨true, l[m].name⟩] else [] := by
  unfold upAk
  rw [List.take_succ_eq_append_getElem (by simpa using h)]
  simp only [List.getElem_zipIdx, Nat.zero_add, List.filter_append, List.map_append]
  cases h1 : ag.getD m false <;> simp only [List.filter_cons, List.filter_nil, h1, if_true, if_false, Bool.false_eq_true, List.map_cons, List.map_nil]
theorem upAk_len (l : List Ch) (ag : List Bool) (m : Nat) : (upAk l ag m).length ≤ l.length := by
  unfold upAk
  rw [List.length_map]
  refine Nat.le_trans (List.length_filter_le _ _) ?_
  simp
  omega
theorem upAk_all (l : List Ch) (ag : List Bool) (m : Nat) (h : l.length ≤ m) : upAk l ag m = upA l ag := by
  unfold upAk upA
  rw [List.take_of_length_le (by simpa using h)]
/-- What stands once the child has been looked for. -/
structure Found (w wc : World) (p : Nat) (r : Int) : Prop where
  b4 : wc.heap[w.heap.size]? = some (.cells #[.pointer (some ⟨p, 0, none⟩)] 22 (0, 0))
  b10 : wc.heap[w.heap.size + 1]? = some (.cells #[.int .i64 r] 3 (0, 0))
  below : Below w.heap.size w wc

set_option maxRecDepth 100000 in
set_option maxHeartbeats 400000 in
theorem exit_nil (w : World) (nm : ByteArray) (normal : Bool) (tick : Int) :
    Calls Try.prog 11 #[.pointer none, .string nm, .bool normal, .int .i64 tick] w fun e w' => e = .returned (.tuple #[.slice none 0 0, .int .i64 2]) ∧ Below w.heap.size w w' := by
  go_enter Try.func11, Try.ntmps11
  go_wp2_with fail
  go_step3
  go_wp2_with fail
  rw [Exit.noGoto_ret]
  go_ret2
  exact ⟨rfl, (Below.refl _ _).alloc (Nat.le_refl _) _⟩

set_option maxRecDepth 100000 in
set_option maxHeartbeats 4000000 in
theorem exit_any (w : World) (p : Nat) (lv ev : Value) (s : SupM) (hs : IsSup w p lv ev s) (nm : ByteArray) (normal : Bool) (tick : Int) (hn : s.l.length ≤ 1000) (hne : s.ends.length ≤ 10000000000000) (hpos : ∀ t ∈ s.ends, 0 ≤ t) (st : Nat) (hst : s.st = st) (hst3 : st = 1 ∨ st = 2 ∨ st = 3) :
    Calls Try.prog 11 #[.pointer (some ⟨p, 0, none⟩), .string nm, .bool normal, .int .i64 tick] w (ExitPost w p lv ev s nm normal tick) := by
  obtain ⟨A, c, hlv, _, _, hA0, hA1⟩ := hs.l.shape
  subst hlv
  have hA := Kp.mk hA1
  have HPOS := Kp.mk hpos
  have HST := Kp.mk hst
  have HST3 := Kp.mk hst3
  clear hA1 hpos hst hst3
  have hp3 : w.cell? ⟨p, 3, none⟩ = some (.slice A s.l.length c) := hs.c 3
  have hplt := lt_of_block hs.blk
  go_enter Try.func11, Try.ntmps11
  go_wp2_with fail
  go_step3
  go_wp2_with fail
  go_step3
  go_upto_block 0 with fail
  go_cut [] from 25 to 40 (fun wc => ∃ r, FirstRun s.l nm r ∧ Found w wc p r)
  case first =>
    go_wp2_with fail
    go_loopw [25] (fun i wr => ∃ k : Nat, k ≤ s.l.length ∧ i = .int .i64 k ∧ Kp (∀ j c, j < k → s.l[j]? = some c → (beqS c.name nm && c.runs) = false) ∧ Found w wr p (-1)) (fun i _ => s.l.length - (intOf i).toNat)
    case atStart =>
      refine ⟨0, Nat.zero_le _, rfl, ⟨fun j c h => by omega⟩, ?_, ?_, ?_⟩
      · exact blk_alloc (blk_new _ _) _
      · have := blk_new (w.alloc (.cells #[.pointer (some ⟨p, 0, none⟩)] 22)) (.cells #[.int .i64 (-1)] 3)
        simpa using this
      · exact ((Below.refl _ _).alloc (Nat.le_refl _) _).alloc (by simp) _
    case round =>
      obtain ⟨k, hk, rfl, hno, hf⟩ := hrel
      by_cases hlt : k < s.l.length
      · cases A with
        | none => have := (hA0 rfl).1; rw [this] at hlt; simp at hlt
        | some a =>
          obtain ⟨g, rfl⟩ := hA.out a rfl
          have hsr := (hs.below hf.below).l
          have H0 : wr.cell? ⟨g, k * 4, none⟩ = some (.string s.l[k].name) := hsr.elem k 0 hlt (by decide)
          have H1 : wr.cell? ⟨g, k * 4 + 1, none⟩ = some (.int .i64 s.l[k].rs) := hsr.elem k 1 hlt (by decide)
          have H2 : wr.cell? ⟨g, k * 4 + 2, none⟩ = some (.bool s.l[k].runs) := hsr.elem k 2 hlt (by decide)
          have H3 : wr.cell? ⟨g, k * 4 + 3, none⟩ = some (.bool s.l[k].gone) := hsr.elem k 3 hlt (by decide)
          have HK : Kp (s.l[k]? = some s.l[k]) := ⟨List.getElem?_eq_getElem hlt⟩
          obtain ⟨x, hx⟩ : ∃ x, x = s.l[k] := ⟨_, rfl⟩
          rw [← hx] at H0 H1 H2 H3 HK
          clear hx
          have hb10 := lt_of_block hf.b10
          have g10 : wr.cell? ⟨w.heap.size + 1, 0, none⟩ = some (.int .i64 (-1)) := blk_c hf.b10 0
          have f10 : wr.frozen? ⟨w.heap.size + 1, 0, none⟩ = false := blk_f hf.b10 0
          have step : (beqS x.name nm && x.runs) = false → ∀ j c, j < k + 1 → s.l[j]? = some c → (beqS c.name nm && c.runs) = false := by
            intro hb j c hj hc
            by_cases e : j = k
            · subst e; rw [HK.out] at hc; cases hc; exact hb
            · exact hno.out j c (by omega) hc
          have HS := Kp.mk step
          clear step
          have hf2 : Found w (wr.alloc (.cells #[.string x.name, .int .i64 x.rs, .bool x.runs, .bool x.gone] 65)) p (-1) := ⟨blk_alloc hf.b4 _, blk_alloc hf.b10 _, hf.below.alloc hf.below.size _⟩
          cases hq : (x.name.toList == nm.toList)
          · go_wp2_with fail
            go_roundw
            case rel => exact ⟨k + 1, by omega, by go_num, ⟨HS.out (by simp [beqS, hq])⟩, hf2⟩
            case measure => simp only [intOf]; omega
          · cases hr : x.runs
            · rw [hr] at H2
              go_wp2_with fail
              go_roundw
              case rel => exact ⟨k + 1, by omega, by go_num, ⟨HS.out (by simp [hr])⟩, by rw [hr] at hf2; exact hf2⟩
              case measure => simp only [intOf]; omega
            · rw [hr] at H2
              go_wp2_with fail
              go_meet
              case rel =>
                refine ⟨k, .inl ⟨k, hlt, rfl, ⟨x, HK.out, by simp [beqS, hq, hr]⟩, hno.out⟩, ?_⟩
                refine ⟨blk_alloc (blk_set_ne hf.b4 (by omega) _) _, blk_alloc (by rw [blk_set hf.b10]; rfl) _, (hf.below.setCell (p := ⟨w.heap.size + 1, 0, none⟩) (by simp) _).alloc (by simpa using hf.below.size) _⟩
      · have hle : s.l.length ≤ k := by omega
        clear hlt
        go_wp2_with fail
        go_meet
        case rel =>
          refine ⟨-1, .inr ⟨rfl, fun c hc => ?_⟩, hf⟩
          obtain ⟨j, hj, e⟩ := List.mem_iff_getElem.1 hc
          exact hno.out j c (by omega) (by rw [List.getElem?_eq_getElem hj, e])
  case rest =>
    obtain ⟨r, hr, hf⟩ := hcut
    have hsc := hs.below hf.below
    have p4 : wc.cell? ⟨p, 4, none⟩ = some (.bool s.sd) := hsc.c 4
    have p5 : wc.cell? ⟨p, 5, none⟩ = some (.bool s.ov) := hsc.c 5
    have p6 : wc.cell? ⟨p, 6, none⟩ = some (.int .i64 s.la) := hsc.c 6
    have f6 : wc.frozen? ⟨p, 6, none⟩ = false := hsc.f 6
    have p3 : wc.cell? ⟨p, 3, none⟩ = some (.slice A s.l.length c) := hsc.c 3
    have c4 : wc.cell? ⟨w.heap.size, 0, none⟩ = some (.pointer (some ⟨p, 0, none⟩)) := blk_c hf.b4 0
    have c10 : wc.cell? ⟨w.heap.size + 1, 0, none⟩ = some (.int .i64 r) := blk_c hf.b10 0
    have hp4 : p ≠ w.heap.size := by omega
    have hp10 : p ≠ w.heap.size + 1 := by omega
    have HR := Kp.mk hr
    clear hr hp3
    by_cases hA : s.sd = false
    · rw [hA] at p4
      go_wp2_with fail
      try rw [Exit.noGoto_ret]
      go_ret2
      have e1 : exitErr s r tick = 250 := by simp [exitErr, hA]
      exact ⟨r, HR.out, .inl ⟨by rw [e1]; decide, by rw [e1]; rfl, hf.below⟩⟩
    have hA' : s.sd = true := by simpa using hA
    rw [hA'] at p4
    by_cases hB : s.ov = true
    · rw [hB] at p5
      go_wp2_with fail
      try rw [Exit.noGoto_ret]
      go_ret2
      have e1 : exitErr s r tick = 250 := by simp [exitErr, hB]
      exact ⟨r, HR.out, .inl ⟨by rw [e1]; decide, by rw [e1]; rfl, hf.below⟩⟩
    have hB' : s.ov = false := by simpa using hB
    rw [hB'] at p5
    have E1 : Kp (exitErr s r tick = if r < 0 then 290 else if tick < 0 ∨ 1152921504606846976 < tick ∨ tick < s.la then 1 else 0) := ⟨by simp [exitErr, hA', hB']⟩
    clear hA hB hA' hB'
    rcases HR.out with ⟨k, hk, rfl, ⟨x, hx, hq⟩, _⟩ | ⟨rfl, _⟩
    case inr =>
      go_wp2_with fail
      try rw [Exit.noGoto_ret]
      go_ret2
      have e1 : exitErr s (-1) tick = 290 := by rw [E1.out]; rfl
      exact ⟨-1, HR.out, .inl ⟨by rw [e1]; decide, by rw [e1]; rfl, hf.below⟩⟩
    have d0 : decide ((k : Int) < 0) = false := by simp
    have E2 : Kp (exitErr s k tick = if tick < 0 ∨ 1152921504606846976 < tick ∨ tick < s.la then 1 else 0) := ⟨by rw [E1.out, if_neg (by omega)]⟩
    have KX := Kp.mk hx
    clear E1 hq hx
    by_cases h1 : tick < 0
    · go_wp2_with fail
      try rw [Exit.noGoto_ret]
      go_ret2
      have e1 : exitErr s k tick = 1 := by rw [E2.out, if_pos (.inl h1)]
      exact ⟨k, HR.out, .inl ⟨by rw [e1]; decide, by rw [e1]; rfl, hf.below⟩⟩
    have d1 : decide (tick < 0) = false := by simp; omega
    by_cases h2 : 1152921504606846976 < tick
    · go_wp2_with fail
      try rw [Exit.noGoto_ret]
      go_ret2
      have e1 : exitErr s k tick = 1 := by rw [E2.out, if_pos (.inr (.inl h2))]
      exact ⟨k, HR.out, .inl ⟨by rw [e1]; decide, by rw [e1]; rfl, hf.below⟩⟩
    have d2 : decide (1152921504606846976 < tick) = false := by simp; omega
    by_cases h3 : tick < s.la
    · go_wp2_with fail
      try rw [Exit.noGoto_ret]
      go_ret2
      have e1 : exitErr s k tick = 1 := by rw [E2.out, if_pos (.inr (.inr h3))]
      exact ⟨k, HR.out, .inl ⟨by rw [e1]; decide, by rw [e1]; rfl, hf.below⟩⟩
    have d3 : decide (tick < s.la) = false := by simp; omega
    have E3 : Kp (exitErr s k tick = 0) := ⟨by rw [E2.out, if_neg (by omega)]⟩
    clear E2
    cases A with
    | none => have := (hA0 rfl).1; rw [this] at hk; simp at hk
    | some a =>
    obtain ⟨g, rfl⟩ := hA.out a rfl
    have hxe : s.l[k] = x := (List.getElem?_eq_some_iff.1 KX.out).2
    have q1 : wc.cell? ⟨g, k * 4 + 1, none⟩ = some (.int .i64 x.rs) := by rw [← hxe]; exact hsc.l.elem k 1 hk (by decide)
    have q2 : wc.cell? ⟨g, k * 4 + 2, none⟩ = some (.bool x.runs) := by rw [← hxe]; exact hsc.l.elem k 2 hk (by decide)
    have q3 : wc.cell? ⟨g, k * 4 + 3, none⟩ = some (.bool x.gone) := by rw [← hxe]; exact hsc.l.elem k 3 hk (by decide)
    have fq2 : wc.frozen? ⟨g, k * 4 + 2, none⟩ = false := hsc.l.frozen _
    have fq3 : wc.frozen? ⟨g, k * 4 + 3, none⟩ = false := hsc.l.frozen _
    have hpg : p ≠ g := fun e => hsc.lne (by rw [e]; rfl)
    have hgb4 : g ≠ w.heap.size := by have := hs.l.lt (g := g) rfl; omega
    have hgb10 : g ≠ w.heap.size + 1 := by have := hs.l.lt (g := g) rfl; omega
    have KXE := Kp.mk hxe
    clear hxe
    go_wp2_with fail
    go_region
    go_wp2_with fail
    go_region
    go_upto_region 19 with fail
    have hs2 : IsSup ((wc.setCell ⟨p, 6, none⟩ (.int .i64 tick)).setCell ⟨g, k * 4 + 2, none⟩ (.bool false)).drew.drew p (.slice (some ⟨g, 0, none⟩) s.l.length c) ev { s with la := tick, l := s.l.set k (setR false x) } := by
      have h1 : IsSup (wc.setCell ⟨p, 6, none⟩ (.int .i64 tick)) p (.slice (some ⟨g, 0, none⟩) s.l.length c) ev { s with la := tick } := hsc.setF 6 rfl rfl rfl
      exact (h1.setRuns rfl k hk x KXE.out.symm false).drew.drew
    have hb4 : ((wc.setCell ⟨p, 6, none⟩ (.int .i64 tick)).setCell ⟨g, k * 4 + 2, none⟩ (.bool false)).drew.drew.heap[w.heap.size]? = some (.cells #[.pointer (some ⟨p, 0, none⟩)] 22 (0, 0)) := blk_set_ne (blk_set_ne hf.b4 hp4.symm _) hgb4.symm _
    have hb10 : ((wc.setCell ⟨p, 6, none⟩ (.int .i64 tick)).setCell ⟨g, k * 4 + 2, none⟩ (.bool false)).drew.drew.heap[w.heap.size + 1]? = some (.cells #[.int .i64 k] 3 (0, 0)) := blk_set_ne (blk_set_ne hf.b10 hp10.symm _) hgb10.symm _
    have hc2 : Chg (FP p (.slice (some ⟨g, 0, none⟩) s.l.length c) ev) w ((wc.setCell ⟨p, 6, none⟩ (.int .i64 tick)).setCell ⟨g, k * 4 + 2, none⟩ (.bool false)).drew.drew :=
      ((((Chg.of_below hf.below _).set (p := ⟨p, 6, none⟩) (.inl (.inl rfl)) _).set (p := ⟨g, k * 4 + 2, none⟩) (.inl (.inr (.inl rfl))) _).drew).drew
    obtain ⟨w2, hw2⟩ : ∃ w2, w2 = ((wc.setCell ⟨p, 6, none⟩ (.int .i64 tick)).setCell ⟨g, k * 4 + 2, none⟩ (.bool false)).drew.drew := ⟨_, rfl⟩
    rw [← hw2] at hs2 hb4 hb10 hc2
    rw [← hw2]
    clear hw2 q1 q2 q3 fq2 fq3 c4 c10 p3 p4 p5 p6 f6 hsc hf
    obtain ⟨L2, hL2⟩ : ∃ L2, L2 = s.l.set k (setR false x) := ⟨_, rfl⟩
    rw [← hL2] at hs2
    have hk2 : k < L2.length := by rw [hL2, List.length_set]; exact hk
    have hx2 : L2[k] = setR false x := by simp [hL2]
    have hlen2 : L2.length = s.l.length := by rw [hL2, List.length_set]
    have c4 : w2.cell? ⟨w.heap.size, 0, none⟩ = some (.pointer (some ⟨p, 0, none⟩)) := blk_c hb4 0
    have c10 : w2.cell? ⟨w.heap.size + 1, 0, none⟩ = some (.int .i64 k) := blk_c hb10 0
    have p3 : w2.cell? ⟨p, 3, none⟩ = some (.slice (some ⟨g, 0, none⟩) s.l.length c) := hs2.c 3
    have q3 : w2.cell? ⟨g, k * 4 + 3, none⟩ = some (.bool x.gone) := by
      have := hs2.l.elem k 3 hk2 (by decide)
      simp only [hx2] at this
      exact this
    have fq3 : w2.frozen? ⟨g, k * 4 + 3, none⟩ = false := hs2.l.frozen _
    have KX2 := Kp.mk hx2
    have KL2 := Kp.mk hL2
    have KLN := Kp.mk hlen2
    clear hx2 hL2 hlen2
    by_cases hr3 : x.rs = 3
    · have r3 : (x.rs == 3) = true := by simp [hr3]
      have e1 : Kp (exitS s k x normal tick = ({ s with la := tick, l := s.l.set k { setR false x with gone := true } }, [])) := ⟨by simp [exitS, hr3]⟩
      clear hr3
      go_wp2_with fail
      go_region
      go_wp2_with fail
      try rw [Exit.noGoto_ret]
      go_ret2
      have h9 := (hs2.setGone KLN.out.symm k hk2 (setR false x) KX2.out.symm true).drew
      refine ⟨k, HR.out, .inr ⟨E3.out, k, x, _, ev, rfl, KX.out, rfl, by rw [e1.out]; exact Own.nil _ _ _, Fresh.nil _ _ _, ?_, .inl rfl, (hc2.set (p := ⟨g, k * 4 + 3, none⟩) (.inl (.inr (.inl rfl))) _).drew⟩⟩
      rw [e1.out]
      have e2 : L2.set k { setR false x with gone := true } = s.l.set k { setR false x with gone := true } := by rw [KL2.out, List.set_set]
      rw [e2] at h9
      exact h9
    have r3 : (x.rs == 3) = false := by simp [hr3]
    go_upto_region 22 with fail
    go_cut [101] from 102 to 106 (fun v wc => v = .bool (x.rs == 2 && normal) ∧ wc = w2)
    case first =>
      cases r2 : (x.rs == 2)
      · go_wp2_with fail
        go_meet
        case rel => exact ⟨by rw [r2]; rfl, rfl⟩
      · cases normal
        · go_wp2_with fail
          go_meet
          case rel => exact ⟨by rw [r2]; rfl, rfl⟩
        · go_wp2_with fail
          go_meet
          case rel => exact ⟨by rw [r2]; rfl, rfl⟩
    obtain ⟨rfl, hwc⟩ := hcut
    have hwc' := hwc.symm
    subst hwc'
    clear hwc
    cases hr2 : (x.rs == 2 && normal)
    case true =>
      have e1 : Kp (exitS s k x normal tick = ({ s with la := tick, l := s.l.set k (setR false x) }, [])) := by
        simp only [Bool.and_eq_true, beq_iff_eq] at hr2
        exact ⟨by unfold exitS; rw [if_neg hr3, if_pos hr2]⟩
      clear hr3 hr2
      go_wp2_with fail
      try rw [Exit.noGoto_ret]
      go_ret2
      refine ⟨k, HR.out, .inr ⟨E3.out, k, x, _, ev, rfl, KX.out, rfl, by rw [e1.out]; exact Own.nil _ _ _, Fresh.nil _ _ _, ?_, .inl rfl, hc2⟩⟩
      rw [e1.out, ← KL2.out]
      exact hs2
    have e1 : Kp (exitS s k x normal tick = if s.it < countL (s.ends ++ [tick]) tick s.pe then
      ({ s with la := tick, l := (s.l.set k (setR false x)).map (setR false), ends := s.ends ++ [tick], ov := true }, dA (s.l.set k (setR false x)) (fun _ => true) 0)
      else
      ({ s with la := tick, ends := s.ends ++ [tick], l := upL ((s.l.set k (setR false x)).mapIdx (stopF (withF s.st k) goneF)) (((List.replicate s.l.length false).set k true).mapIdx (agF (s.l.set k (setR false x)) (withF s.st k) againF 0)) },
        dA (s.l.set k (setR false x)) (withF s.st k) 0 ++ upA ((s.l.set k (setR false x)).mapIdx (stopF (withF s.st k) goneF)) (((List.replicate s.l.length false).set k true).mapIdx (agF (s.l.set k (setR false x)) (withF s.st k) againF 0)))) :=
      ⟨by
        have h2 : ¬ (x.rs = 2 ∧ normal = true) := by
          intro h
          simp [h.1, h.2] at hr2
        unfold exitS; rw [if_neg hr3, if_neg h2]⟩
    clear hr3
    go_upto_region 24 with fail
    clear hr2
    go_cut [] from 107 to 116 (fun wc => ∃ ev', IsSup wc p (.slice (some ⟨g, 0, none⟩) s.l.length c) ev' { s with la := tick, l := L2, ends := s.ends ++ [tick] } ∧ wc.heap[w.heap.size]? = some (.cells #[.pointer (some ⟨p, 0, none⟩)] 22 (0, 0)) ∧
      wc.heap[w.heap.size + 1]? = some (.cells #[.int .i64 k] 3 (0, 0)) ∧ Chg (FP p (.slice (some ⟨g, 0, none⟩) s.l.length c) ev) w wc ∧ Same w ev ev')
    case first =>
      have p7 : w2.cell? ⟨p, 7, none⟩ = some ev := hs2.c 7
      have hownE : Own w2.drew 2 eI64 ev s.ends := hs2.e.drew
      have hene := hs2.ene
      have lp := lt_of_block hs2.blk
      have l4 := lt_of_block hb4
      have l10 := lt_of_block hb10
      have ne4 : ev.ownBlock ≠ some w.heap.size := hs2.e.ne hb4 (by decide)
      have ne10 : ev.ownBlock ≠ some (w.heap.size + 1) := hs2.e.ne hb10 (by decide)
      have nel : ∀ g', (Value.slice (some ⟨g, 0, none⟩) s.l.length c).ownBlock = some g' → ev.ownBlock ≠ some g' := fun g' hg' he => hs2.le he hg'
      have NEL := Kp.mk nel
      clear nel
      refine R_begin 10 (fun w9 => w9.cell? ⟨w.heap.size, 0, none⟩ = some (.pointer (some ⟨p, 0, none⟩)) ∧ w9.cell? ⟨p, 7, none⟩ = some ev) (by kernel_rfl) ⟨c4, p7⟩ (fun HP0 => ?_)
      refine R_take 0 rfl (by kernel_rfl) HP0 ?_
      apply Exists.intro
      refine ⟨fun _ _ _ h => h, .inl ⟨by rfl, fun w9 h9 => ?_⟩, fun HP1 => ?_⟩
      · obtain ⟨s1, s2⟩ := h9; go_simp; first | done | rfl
      clear HP0
      refine R_take 1 rfl (by kernel_rfl) HP1 ?_
      apply Exists.intro
      refine ⟨fun _ _ _ h => h, .inl ⟨by rfl, fun w9 h9 => ?_⟩, fun HP2 => ?_⟩
      · obtain ⟨s1, s2⟩ := h9; go_simp; first | done | rfl
      clear HP1
      refine R_pure 2 rfl (by kernel_rfl) HP2 ?_
      apply Exists.intro
      refine ⟨fun _ _ _ h => h, .inl ⟨by rfl, fun w9 h9 => ?_⟩, fun HP3 => ?_⟩
      · clear h9; go_simp; first | done | rfl
      clear HP2
      refine R_pure 3 rfl (by kernel_rfl) HP3 ?_
      apply Exists.intro
      refine ⟨fun _ _ _ h => h, .inl ⟨by rfl, fun w9 h9 => ?_⟩, fun HP4 => ?_⟩
      · clear h9; go_simp; first | done | rfl
      clear HP3
      refine R_take 4 rfl (by kernel_rfl) HP4 ?_
      apply Exists.intro
      refine ⟨fun _ _ _ h => h, .inl ⟨by rfl, fun w9 h9 => ?_⟩, fun HP5 => ?_⟩
      · obtain ⟨s1, s2⟩ := h9; go_simp; first | done | rfl
      clear HP4
      refine R_pure 5 rfl (by kernel_rfl) HP5 ?_
      apply Exists.intro
      refine ⟨fun _ _ _ h => h, .inl ⟨by rfl, fun w9 h9 => ?_⟩, fun HP6 => ?_⟩
      · clear h9; go_simp; first | done | rfl
      clear HP5
      refine R_all [6] (by kernel_rfl) ?_
      refine AllR.cons (i := 6) rfl (fun K9 HK9 => ?_) ?_
      · go_simp
        refine HK9.out _ _ (.inr ⟨blk_c (blk_alloc hb4 _) 0, blk_c (blk_alloc hs2.blk _) 7⟩) (fun HP7 => ?_)
        clear HK9 K9
        refine R_all [7] (by kernel_rfl) ?_
        refine AllR.cons (i := 7) rfl (fun K9 HK9 => ?_) ?_
        · refine app1_step T53 tick rfl _ _ rfl hownE rfl rfl rfl (by simp) rfl (by omega) (by omega) ?_
          intro Av nv cv w3 a0 a1 a2 a3
          have B3 := a2.at (w := w2.drew) hs2.blk hene
          have p7' : w3.cell? ⟨p, 7, none⟩ = some ev := blk_c B3 7
          have pf7 : w3.frozen? ⟨p, 7, none⟩ = false := blk_f B3 7
          have B4 := a2.at (w := w2.drew) hb4 ne4
          have B10 := a2.at (w := w2.drew) hb10 ne10
          have c4' : w3.cell? ⟨w.heap.size, 0, none⟩ = some (.pointer (some ⟨p, 0, none⟩)) := blk_c B4 0
          refine HK9.out _ _ (.inr ⟨c4', p7'⟩) (fun HP8 => ?_)
          clear HK9 K9
          refine R_pure 8 rfl (by kernel_rfl) HP8 ?_
          apply Exists.intro
          refine ⟨fun _ _ _ h => h, .inl ⟨by rfl, fun w9 h9 => ?_⟩, fun HP9 => ?_⟩
          · clear h9; go_simp; first | done | rfl
          clear HP8
          refine R_pure 9 rfl (by kernel_rfl) HP9 ?_
          apply Exists.intro
          refine ⟨fun _ _ _ h => h, .inl ⟨by rfl, fun w9 h9 => ?_⟩, fun HP10 => ?_⟩
          · clear h9; go_simp; first | done | rfl
          clear HP9
          refine R_all [10] (by kernel_rfl) ?_
          refine AllR.cons (i := 10) rfl (fun K9 HK9 => ?_) ?_
          · go_simp
            refine HK9.out _ _ (.inl (by kernel_rfl)) (fun HP11 => ?_)
            clear HK9 K9
            refine R_done (by kernel_rfl) ?_
            go_wp2_with fail
            go_meet
            refine ⟨_, IsSup.setE B3 (hs2.l.drew.frame a2 NEL.out) a1, blk_set_ne B4 hp4.symm _, blk_set_ne B10 hp10.symm _, ?_, ?_⟩
            · exact (Chg.trans hc2.drew a2 (fun n _ hg => .inr (.inr hg))).set (p := ⟨p, 7, none⟩) (.inl (.inl rfl)) _
            · rcases a3 with a3 | ⟨g', a3, a4⟩
              · exact .inl a3
              · exact .inr ⟨g', a3, Nat.le_trans hc2.size a4⟩
          exact AllR.nil
        exact AllR.nil
      exact AllR.nil
    clear hs2 hb4 hb10 hc2 c4 c10 p3 q3 fq3
    obtain ⟨ev4, hs4, hb4, hb10, hc4, hsame⟩ := hcut
    obtain ⟨w4, hw4⟩ : ∃ w4, w4 = wc := ⟨_, rfl⟩
    subst hw4
    obtain ⟨E, hE⟩ : ∃ E, E = s.ends ++ [tick] := ⟨_, rfl⟩
    have hEl : E.length ≤ 10000000000001 := by rw [hE]; simp; omega
    have hEp : ∀ t ∈ E, 0 ≤ t := by
      intro t ht
      rw [hE] at ht
      rcases List.mem_append.1 ht with h | h
      · exact HPOS.out t h
      · simp at h; omega
    rw [← hE] at hs4 e1
    have KE := Kp.mk hE
    have KEP := Kp.mk hEp
    clear hE hEp
    obtain ⟨N, hN⟩ : ∃ N, N = countL E tick s.pe := ⟨_, rfl⟩
    rw [← hN] at e1
    have KN := Kp.mk hN
    clear hN
    have c4 : w4.cell? ⟨w.heap.size, 0, none⟩ = some (.pointer (some ⟨p, 0, none⟩)) := blk_c hb4 0
    have p1 : w4.cell? ⟨p, 1, none⟩ = some (.int .i64 s.it) := hs4.c 1
    have lp := lt_of_block hs4.blk
    have l4 := lt_of_block hb4
    go_upto_region 25 with fail
    have HC : Kp (∀ n, Calls Try.prog 13 #[.pointer (some ⟨p, 0, none⟩), .int .i64 tick] (w4.drewN n) fun e w' => e = .returned (.int .i64 N) ∧ w' = w4.drewN n) := ⟨fun n => by
      refine (count_any (w4.drewN n) p _ _ _ tick (hs4.drewN n) (by omega) KEP.out (by show E.length ≤ _; omega)).mono ?_
      rintro e w' ⟨rfl, rfl⟩
      exact ⟨by rw [KN.out], rfl⟩⟩
    go_quiet ((go_at_call 13; exact Calls.quiet_of_same (HC.out _)))
    have hs5 := hs4.drewN nq
    have hb45 : (w4.drewN nq).heap[w.heap.size]? = some (.cells #[.pointer (some ⟨p, 0, none⟩)] 22 (0, 0)) := hb4
    have hb105 : (w4.drewN nq).heap[w.heap.size + 1]? = some (.cells #[.int .i64 k] 3 (0, 0)) := hb10
    have hc5 := hc4.drewN nq
    obtain ⟨w5, hw5⟩ : ∃ w5, w5 = w4.drewN nq := ⟨_, rfl⟩
    rw [← hw5] at hs5 hb45 hb105 hc5
    rw [← hw5]
    clear hw5 hs4 hb4 hb10 hc4 c4 p1 lp l4
    have c4 : w5.cell? ⟨w.heap.size, 0, none⟩ = some (.pointer (some ⟨p, 0, none⟩)) := blk_c hb45 0
    have c10 : w5.cell? ⟨w.heap.size + 1, 0, none⟩ = some (.int .i64 k) := blk_c hb105 0
    have p0 : w5.cell? ⟨p, 0, none⟩ = some (.int .i64 s.st) := hs5.c 0
    have p3 : w5.cell? ⟨p, 3, none⟩ = some (.slice (some ⟨g, 0, none⟩) s.l.length c) := hs5.c 3
    have p5 : w5.cell? ⟨p, 5, none⟩ = some (.bool s.ov) := hs5.c 5
    have f5 : w5.frozen? ⟨p, 5, none⟩ = false := hs5.f 5
    have lp := lt_of_block hs5.blk
    have l4 := lt_of_block hb45
    have l10 := lt_of_block hb105
    by_cases hcnt : s.it < (N : Int)
    · have e2 : Kp (exitS s k x normal tick = ({ s with la := tick, l := (s.l.set k (setR false x)).map (setR false), ends := E, ov := true }, dA (s.l.set k (setR false x)) (fun _ => true) 0)) := ⟨by rw [e1.out, if_pos hcnt]⟩
      have h9 : IsSup (w5.setCell ⟨p, 5, none⟩ (.bool true)) p (.slice (some ⟨g, 0, none⟩) s.l.length c) ev4 { s with la := tick, l := L2, ends := E, ov := true } := hs5.setF 5 rfl rfl rfl
      go_wp2_with fail
      refine (stopall_any _ p _ _ _ h9 (by show L2.length ≤ 1000; rw [KLN.out]; exact hn)).mono ?_
      rintro e w6 ⟨v, rfl, k1, k2, k3, k4⟩
      go_wp2_with fail
      try rw [Exit.noGoto_ret]
      go_ret2
      have hc6 : Chg (FP p (.slice (some ⟨g, 0, none⟩) s.l.length c) ev) w (w5.setCell ⟨p, 5, none⟩ (.bool true)) := hc5.set (p := ⟨p, 5, none⟩) (.inl (.inl rfl)) _
      refine ⟨k, HR.out, .inr ⟨E3.out, k, x, v, ev4, rfl, KX.out, rfl, ?_, k2.up hc6.size, ?_, hsame, hc6.trans k4 (fun n _ h => by rcases h with h | h; exact .inl h; exact .inr (.inl h))⟩⟩
      · rw [e2.out, ← KL2.out]; exact k1
      · rw [e2.out, ← KL2.out]; exact k3
    have e2 : Kp (exitS s k x normal tick = ({ s with la := tick, ends := E, l := upL (L2.mapIdx (stopF (withF s.st k) goneF)) (((List.replicate s.l.length false).set k true).mapIdx (agF L2 (withF s.st k) againF 0)) },
        dA L2 (withF s.st k) 0 ++ upA (L2.mapIdx (stopF (withF s.st k) goneF)) (((List.replicate s.l.length false).set k true).mapIdx (agF L2 (withF s.st k) againF 0)))) := ⟨by rw [e1.out, if_neg hcnt, KL2.out]⟩
    clear e1
    have dcnt : decide (s.it < (N : Int)) = false := by simpa using hcnt
    simp only [dcnt]
    go_upto_region 28 with fail
    go_cut [14] from 130 to 136 (fun v wc => ∃ b14, v = .pointer (some ⟨b14, 0, none⟩) ∧ wc.heap[b14]? = some (.cells #[.func (.func (38 + st)) #[] #[]] 69 (0, 0)) ∧ Below w5.heap.size w5 wc)
    case first =>
      rw [HST.out] at p0
      have hst0 : (0 : Int) ≤ st := by omega
      have hst4 : (st : Int) < 4 := by rcases HST3.out with rfl | rfl | rfl <;> decide
      have hst4' : st < 4 := by omega
      have HG : ([Value.nilFunc, .func (.func 39) #[] #[], .func (.func 40) #[] #[], .func (.func 41) #[] #[]] : List Value)[st]'(by simpa using hst4') = .func (.func (38 + st)) #[] #[] := by rcases HST3.out with rfl | rfl | rfl <;> rfl
      refine R_begin 8 (fun w9 => w9.cell? ⟨w.heap.size, 0, none⟩ = some (.pointer (some ⟨p, 0, none⟩)) ∧ w9.cell? ⟨p, 0, none⟩ = some (.int .i64 st)) (by kernel_rfl) ⟨c4, p0⟩ (fun HP0 => ?_)
      refine R_take 1 rfl (by kernel_rfl) HP0 ?_
      apply Exists.intro
      refine ⟨fun _ _ _ h => h, .inl ⟨by rfl, fun w9 h9 => ?_⟩, fun HP1 => ?_⟩
      · obtain ⟨s1, s2⟩ := h9; go_simp; first | done | rfl
      clear HP0
      refine R_pure 2 rfl (by kernel_rfl) HP1 ?_
      apply Exists.intro
      refine ⟨fun _ _ _ h => h, .inl ⟨by rfl, fun w9 h9 => ?_⟩, fun HP2 => ?_⟩
      · clear h9; go_simp; first | done | rfl
      clear HP1
      refine R_pure 3 rfl (by kernel_rfl) HP2 ?_
      apply Exists.intro
      refine ⟨fun _ _ _ h => h, .inl ⟨by rfl, fun w9 h9 => ?_⟩, fun HP3 => ?_⟩
      · clear h9; go_simp; first | done | rfl
      clear HP2
      refine R_take 4 rfl (by kernel_rfl) HP3 ?_
      apply Exists.intro
      refine ⟨fun _ _ _ h => h, .inl ⟨by rfl, fun w9 h9 => ?_⟩, fun HP4 => ?_⟩
      · obtain ⟨s1, s2⟩ := h9; go_simp; first | done | rfl
      clear HP3
      refine R_all [0, 7] (by kernel_rfl) ?_
      refine AllR.cons (i := 0) rfl (fun K9 HK9 => ?_) ?_
      · go_simp
        refine (strategies_any _).mono ?_
        rintro e w' ⟨rfl, rfl⟩
        go_simp
        refine HK9.out _ _ (.inr ⟨blk_c (blk_alloc (hb45) _) 0, (blk_c (blk_alloc (hs5.blk) _) 0).trans (by show some (Value.int .i64 s.st) = _; rw [HST.out])⟩) (fun HP5 => ?_)
        clear HK9 K9
        refine R_pure 5 rfl (by kernel_rfl) HP5 ?_
        apply Exists.intro
        refine ⟨fun _ _ _ h => h, .inl ⟨by rfl, fun w9 h9 => ?_⟩, fun HP6 => ?_⟩
        · clear h9; go_simp; first | done | rfl
        clear HP5
        refine R_all [6, 7] (by kernel_rfl) ?_
        refine AllR.cons (i := 6) rfl (fun K9 HK9 => ?_) ?_
        · go_simp
          refine HK9.out _ _ (.inr ⟨blk_c (blk_alloc (hb45) _) 0, (blk_c (blk_alloc (hs5.blk) _) 0).trans (by show some (Value.int .i64 s.st) = _; rw [HST.out])⟩) (fun HP7 => ?_)
          clear HK9 K9
          refine R_all [7] (by kernel_rfl) ?_
          refine AllR.cons (i := 7) rfl (fun K9 HK9 => ?_) ?_
          · go_simp
            refine HK9.out _ _ (.inr ⟨blk_c (blk_alloc (blk_alloc (hb45) _) _) 0, (blk_c (blk_alloc (blk_alloc (hs5.blk) _) _) 0).trans (by show some (Value.int .i64 s.st) = _; rw [HST.out])⟩) (fun HP8 => ?_)
            clear HK9 K9
            refine R_all [8] (by kernel_rfl) ?_
            refine AllR.cons (i := 8) rfl (fun K9 HK9 => ?_) ?_
            · go_simp
              refine HK9.out _ _ (.inl (by kernel_rfl)) (fun HP9 => ?_)
              clear HK9 K9
              refine R_done (by kernel_rfl) ?_
              go_wp2_with fail
              go_meet
              first
                | exact ⟨_, rfl, blk_alloc (blk_new _ _) _, by first | exact ((Below.refl _ _).alloc (Nat.le_refl _) _).alloc (by simp) _ | exact (((Below.refl _ _).alloc (Nat.le_refl _) _).alloc (by simp) _).drew⟩
                | exact ⟨_, rfl, blk_at (by simp), by first | exact ((Below.refl _ _).alloc (Nat.le_refl _) _).alloc (by simp) _ | exact (((Below.refl _ _).alloc (Nat.le_refl _) _).alloc (by simp) _).drew⟩
            exact AllR.nil
          exact AllR.nil
        refine AllR.cons (i := 7) rfl (fun K9 HK9 => ?_) ?_
        · go_simp
          refine HK9.out _ _ (.inr ⟨blk_c (blk_alloc (blk_alloc (hb45) _) _) 0, (blk_c (blk_alloc (blk_alloc (hs5.blk) _) _) 0).trans (by show some (Value.int .i64 s.st) = _; rw [HST.out])⟩) (fun HP10 => ?_)
          clear HK9 K9
          refine R_all [6] (by kernel_rfl) ?_
          refine AllR.cons (i := 6) rfl (fun K9 HK9 => ?_) ?_
          · go_simp
            refine HK9.out _ _ (.inr ⟨blk_c (blk_alloc (blk_alloc (hb45) _) _) 0, (blk_c (blk_alloc (blk_alloc (hs5.blk) _) _) 0).trans (by show some (Value.int .i64 s.st) = _; rw [HST.out])⟩) (fun HP11 => ?_)
            clear HK9 K9
            refine R_all [8] (by kernel_rfl) ?_
            refine AllR.cons (i := 8) rfl (fun K9 HK9 => ?_) ?_
            · go_simp
              refine HK9.out _ _ (.inl (by kernel_rfl)) (fun HP12 => ?_)
              clear HK9 K9
              refine R_done (by kernel_rfl) ?_
              go_wp2_with fail
              go_meet
              first
                | exact ⟨_, rfl, blk_alloc (blk_new _ _) _, by first | exact ((Below.refl _ _).alloc (Nat.le_refl _) _).alloc (by simp) _ | exact (((Below.refl _ _).alloc (Nat.le_refl _) _).alloc (by simp) _).drew⟩
                | exact ⟨_, rfl, blk_at (by simp), by first | exact ((Below.refl _ _).alloc (Nat.le_refl _) _).alloc (by simp) _ | exact (((Below.refl _ _).alloc (Nat.le_refl _) _).alloc (by simp) _).drew⟩
            exact AllR.nil
          exact AllR.nil
        exact AllR.nil
      refine AllR.cons (i := 7) rfl (fun K9 HK9 => ?_) ?_
      · go_simp
        refine HK9.out _ _ (.inr ⟨blk_c (blk_alloc (hb45) _) 0, (blk_c (blk_alloc (hs5.blk) _) 0).trans (by show some (Value.int .i64 s.st) = _; rw [HST.out])⟩) (fun HP13 => ?_)
        clear HK9 K9
        refine R_all [0] (by kernel_rfl) ?_
        refine AllR.cons (i := 0) rfl (fun K9 HK9 => ?_) ?_
        · go_simp
          refine (strategies_any _).mono ?_
          rintro e w' ⟨rfl, rfl⟩
          go_simp
          refine HK9.out _ _ (.inr ⟨blk_c (blk_alloc (blk_alloc (hb45) _) _) 0, (blk_c (blk_alloc (blk_alloc (hs5.blk) _) _) 0).trans (by show some (Value.int .i64 s.st) = _; rw [HST.out])⟩) (fun HP14 => ?_)
          clear HK9 K9
          refine R_pure 5 rfl (by kernel_rfl) HP14 ?_
          apply Exists.intro
          refine ⟨fun _ _ _ h => h, .inl ⟨by rfl, fun w9 h9 => ?_⟩, fun HP15 => ?_⟩
          · clear h9; go_simp; first | done | rfl
          clear HP14
          refine R_all [6] (by kernel_rfl) ?_
          refine AllR.cons (i := 6) rfl (fun K9 HK9 => ?_) ?_
          · go_simp
            refine HK9.out _ _ (.inr ⟨blk_c (blk_alloc (blk_alloc (hb45) _) _) 0, (blk_c (blk_alloc (blk_alloc (hs5.blk) _) _) 0).trans (by show some (Value.int .i64 s.st) = _; rw [HST.out])⟩) (fun HP16 => ?_)
            clear HK9 K9
            refine R_all [8] (by kernel_rfl) ?_
            refine AllR.cons (i := 8) rfl (fun K9 HK9 => ?_) ?_
            · go_simp
              refine HK9.out _ _ (.inl (by kernel_rfl)) (fun HP17 => ?_)
              clear HK9 K9
              refine R_done (by kernel_rfl) ?_
              go_wp2_with fail
              go_meet
              first
                | exact ⟨_, rfl, blk_alloc (blk_new _ _) _, by first | exact ((Below.refl _ _).alloc (Nat.le_refl _) _).alloc (by simp) _ | exact (((Below.refl _ _).alloc (Nat.le_refl _) _).alloc (by simp) _).drew⟩
                | exact ⟨_, rfl, blk_at (by simp), by first | exact ((Below.refl _ _).alloc (Nat.le_refl _) _).alloc (by simp) _ | exact (((Below.refl _ _).alloc (Nat.le_refl _) _).alloc (by simp) _).drew⟩
            exact AllR.nil
          exact AllR.nil
        exact AllR.nil
      exact AllR.nil
    obtain ⟨b14, rfl, h14, hb6⟩ := hcut
    obtain ⟨w6, hw6⟩ : ∃ w6, w6 = wc := ⟨_, rfl⟩
    subst hw6
    have hs6 := hs5.below hb6
    have hb46 := (Chg.of_below hb6 NoF).at hb45 (fun h => h)
    have hb106 := (Chg.of_below hb6 NoF).at hb105 (fun h => h)
    have hc6 := hc5.then (Chg.of_below hb6 _)
    clear hs5 hb45 hb105 hc5 c4 c10 p0 p3 p5 f5 lp l4 l10 hb6
    have c4 : w6.cell? ⟨w.heap.size, 0, none⟩ = some (.pointer (some ⟨p, 0, none⟩)) := blk_c hb46 0
    have c10 : w6.cell? ⟨w.heap.size + 1, 0, none⟩ = some (.int .i64 k) := blk_c hb106 0
    have p3 : w6.cell? ⟨p, 3, none⟩ = some (.slice (some ⟨g, 0, none⟩) s.l.length c) := hs6.c 3
    go_upto_region 29 with fail
    have lx : w.heap.size + 1 < w6.heap.size := lt_of_block hb106
    have nf : ∀ b : Nat, ¬ NoF b := fun _ h => h
    have NF := Kp.mk nf
    clear nf
    go_wp2_with (at_make; refine mk_ev Try.underlying52 (e := 4) (z := .bool false) (by_ := 1) (by kernel_rfl) rfl (E := eBool) false rfl rfl rfl _ _ rfl s.l.length rfl rfl (by omega) (by omega) ?_; intro w7 m1 m2 m3; have b4' := m2.at hb46 (NF.out _); have b10' := m2.at hb106 (NF.out _); have l4' := lt_of_block b4'; have l10' := lt_of_block b10'; have c4' : w7.cell? ⟨w.heap.size, 0, none⟩ = some (.pointer (some ⟨p, 0, none⟩)) := blk_c b4' 0; have c10' : w7.cell? ⟨w.heap.size + 1, 0, none⟩ = some (.int .i64 k) := blk_c b10' 0; have ga' : w7.cell? ⟨w6.heap.size, k, none⟩ = some (.bool false) := rep_cell m1 hk; have gf' : w7.frozen? ⟨w6.heap.size, k, none⟩ = false := m1.frozen _)
    obtain ⟨bA, hbA⟩ : ∃ b, b = w6.heap.size := ⟨_, rfl⟩
    obtain ⟨n, hnn⟩ : ∃ n, n = s.l.length := ⟨_, rfl⟩
    have hs7 : IsSup w7 p (.slice (some ⟨g, 0, none⟩) s.l.length c) ev4 { s with la := tick, l := L2, ends := E } := hs6.frame m2 (NF.out _) (fun _ _ => NF.out _) (fun _ _ => NF.out _)
    have hc7 := hc6.trans m2 (fun n _ h => (NF.out n h).elim)
    have b14' := m2.at h14 (NF.out _)
    have q14 : b14 ≠ w6.heap.size := by have := lt_of_block h14; omega
    have qp : p ≠ w6.heap.size := by have := lt_of_block hs6.blk; omega
    have qg : ∀ g', (Value.slice (some ⟨g, 0, none⟩) s.l.length c).ownBlock = some g' → g' ≠ w6.heap.size := fun g' hg' e => by have := hs6.l.lt hg'; omega
    have qe : ∀ g', ev4.ownBlock = some g' → g' ≠ w6.heap.size := fun g' hg' e => by have := hs6.e.lt hg'; omega
    have hs8 : IsSup ((w7.setCell ⟨w6.heap.size, k, none⟩ (.bool true)).alloc (.cells #[.slice (some ⟨w6.heap.size, 0, none⟩) s.l.length s.l.length] 52)) p (.slice (some ⟨g, 0, none⟩) s.l.length c) ev4 { s with la := tick, l := L2, ends := E } :=
      (hs7.frame (chg_cell w7 w6.heap.size k (.bool true)) qp qg qe).below ((Below.refl _ _).alloc (Nat.le_refl _) _)
    have hE8 : ExS b14 w.heap.size (w.heap.size + 1) w7.heap.size p (38 + st) k (.slice (some ⟨w6.heap.size, 0, none⟩) s.l.length s.l.length)
        ((w7.setCell ⟨w6.heap.size, k, none⟩ (.bool true)).alloc (.cells #[.slice (some ⟨w6.heap.size, 0, none⟩) s.l.length s.l.length] 52)) ((List.replicate s.l.length false).set k true) := by
      refine ⟨blk_alloc (blk_set_ne b14' q14 _) _, blk_alloc (blk_set_ne b4' (by omega) _) _, blk_alloc (blk_set_ne b10' (by omega) _) _, blk_at (by simp), Own.alloc ?_ _⟩
      have h9 := m1.set (by simp) k 0 true (.bool true) (by simpa using hk) (by decide) rfl
      simpa [eBool] using h9
    have hc8 : Chg (FP p (.slice (some ⟨g, 0, none⟩) s.l.length c) ev) w ((w7.setCell ⟨w6.heap.size, k, none⟩ (.bool true)).alloc (.cells #[.slice (some ⟨w6.heap.size, 0, none⟩) s.l.length s.l.length] 52)) :=
      (hc7.set (p := ⟨w6.heap.size, k, none⟩) (.inr (by show w.heap.size ≤ w6.heap.size; omega)) _).alloc _
    refine (stop_exit _ p _ ev4 { s with la := tick, l := L2, ends := E } b14 w.heap.size (w.heap.size + 1) w7.heap.size (AG (.slice (some ⟨w6.heap.size, 0, none⟩) s.l.length s.l.length))
      (fun w' ag => ExS b14 w.heap.size (w.heap.size + 1) w7.heap.size p (38 + st) k (.slice (some ⟨w6.heap.size, 0, none⟩) s.l.length s.l.length) w' ag ∧ ag.length = s.l.length) (withF s.st k) goneF againF ((List.replicate s.l.length false).set k true)
      ?hEx ?hM ?hG (fun _ => ⟨rfl, rfl⟩) hs8 ⟨hE8, by simp⟩ (by show L2.length ≤ 1000; rw [KLN.out]; exact hn)).mono ?_
    case hEx =>
      intro wa wb ag F h hc hF
      exact ⟨h.1.frame hc (fun k' hk' hlt' => by
        obtain ⟨cur, T, h1, h2⟩ := hF k' hk' hlt'
        exact ⟨cur, T, h1, by rcases h2 with h2 | h2; exact .inl h2; exact .inr (.inl h2)⟩), h.2⟩
    case hM =>
      intro i wa l ag y hy hl hsa hea
      have hw9 : withF s.st k = withF (st : Int) k := by rw [HST.out]
      rw [hw9]
      refine (exit1_any wa b14 w.heap.size (w.heap.size + 1) w7.heap.size p _ ev4 _ st k { s with la := tick, l := L2, ends := E } i l ag y HST3.out hy hl hsa hea.1 (by show ag.length = L2.length; rw [hea.2, KLN.out])).mono ?_
      rintro e wb ⟨r1, r2, r3, r4⟩
      exact ⟨r1, r2, ⟨r3, by split; rw [List.length_set]; exact hea.2; exact hea.2⟩, r4⟩
    case hG =>
      intro wa ag k' h hk'
      obtain ⟨cur, hcur⟩ := h.1.a.blk' hk'
      exact ⟨cur, hcur⟩
    rintro e w9 ⟨v9, l9, ag9, rfl, o9, f9, s9, ⟨x9, n9⟩, pl9, pa9, c9⟩
    obtain ⟨mt, hmt⟩ : ∃ mt, mt = withF s.st k := ⟨_, rfl⟩
    obtain ⟨ag0, hag0⟩ : ∃ ag0, ag0 = (List.replicate s.l.length false).set k true := ⟨_, rfl⟩
    rw [← hmt] at o9 pl9 pa9 e2
    rw [← hag0] at pa9 e2
    have hll9 : l9.length = s.l.length := pl9.len.trans KLN.out
    have hc9 : Chg (FP p (.slice (some ⟨g, 0, none⟩) s.l.length c) ev) w w9 := hc8.trans c9 (fun m hm h => by
      rcases h with h | h
      · rcases h with h | h
        · exact .inl h
        · exact .inr (.inl h)
      · exfalso
        have : w6.heap.size = m := by simpa [AG, Value.ownBlock] using h
        omega)
    have f9' : Fresh w v9 := f9.up hc8.size
    have hd9 := dA_len L2 mt 0
    obtain ⟨D, hD⟩ : ∃ D, D = dA L2 mt 0 := ⟨_, rfl⟩
    rw [← hD] at o9 hd9 e2
    have KLL := Kp.mk hll9
    have K1 := Kp.mk pl9
    have K2 := Kp.mk pa9
    have K3 := Kp.mk hmt
    have K4 := Kp.mk hag0
    have K5 := Kp.mk hD
    have KN9 := Kp.mk n9
    have KBA := Kp.mk hbA
    have KNN := Kp.mk hnn
    clear pl9 pa9 hmt hag0 hD n9 hll9 hbA hnn hE8 hs8 hs7 hc7 hc8 c9 f9 qp qg qe q14 b14' b10' b4' m1 m2 m3 l4' l10' c4' c10' ga' gf' hs6 hb46 hb106 hc6 c4 c10 p3 h14
    have lA : w6.heap.size < w9.heap.size := x9.a.lt rfl
    have c4 : w9.cell? ⟨w.heap.size, 0, none⟩ = some (.pointer (some ⟨p, 0, none⟩)) := blk_c x9.c4 0
    have p3 : w9.cell? ⟨p, 3, none⟩ = some (.slice (some ⟨g, 0, none⟩) s.l.length c) := s9.c 3
    go_wp2_with fail
    go_loopw [16, 154] (fun v i wr => ∃ (j : Nat) (l' : List Ch), j ≤ s.l.length ∧ i = .int .i64 j ∧ PW l9 l' (fun i c => if i < j then (if ag9.getD i false then setR true c else c) else c) ∧ Own wr 43 eAM v (D ++ upAk l9 ag9 j) ∧ Fresh w v ∧
      IsSup wr p (.slice (some ⟨g, 0, none⟩) s.l.length c) ev4 { s with la := tick, ends := E, l := l' } ∧ ExS b14 w.heap.size (w.heap.size + 1) w7.heap.size p (38 + st) k (.slice (some ⟨w6.heap.size, 0, none⟩) s.l.length s.l.length) wr ag9 ∧
      Chg (FP p (.slice (some ⟨g, 0, none⟩) s.l.length c) ev) w wr) (fun _ i _ => s.l.length - (intOf i).toNat)
    case atStart => exact ⟨0, l9, Nat.zero_le _, rfl, ⟨rfl, fun i c h => by simpa using h⟩, by simpa [upAk] using o9, f9', s9, x9, hc9⟩
    case round =>
      clear c4 p3 o9 f9' s9 hc9 x9
      obtain ⟨j, l', hj, rfl, hpw, hown, hfr, hsr, hxr, hcr⟩ := hrel
      by_cases hlt : j < s.l.length
      · have hlt9 : j < l9.length := by have := KLL.out; omega
        have hlt' : j < l'.length := by rw [hpw.len]; exact hlt9
        have hltA : j < ag9.length := by have := KN9.out; omega
        have hll' := Kp.mk (hpw.len.trans KLL.out)
        have hx0 : l'[j] = l9[j] := by
          have := hpw.at_ j _ (List.getElem?_eq_getElem hlt9)
          rw [List.getElem?_eq_getElem hlt', if_neg (by omega)] at this
          simpa using this
        have c4 : wr.cell? ⟨w.heap.size, 0, none⟩ = some (.pointer (some ⟨p, 0, none⟩)) := blk_c hxr.c4 0
        have c15 : wr.cell? ⟨w7.heap.size, 0, none⟩ = some (.slice (some ⟨w6.heap.size, 0, none⟩) s.l.length s.l.length) := blk_c hxr.c15 0
        have p3 : wr.cell? ⟨p, 3, none⟩ = some (.slice (some ⟨g, 0, none⟩) s.l.length c) := hsr.c 3
        have qa : wr.cell? ⟨w6.heap.size, j, none⟩ = some (.bool ag9[j]) := by
          have := hxr.a.elem j 0 hltA (by decide)
          simpa [eBool] using this
        have q0 : wr.cell? ⟨g, j * 4, none⟩ = some (.string l9[j].name) := by rw [← hx0]; exact hsr.l.elem j 0 hlt' (by decide)
        have q2 : wr.cell? ⟨g, j * 4 + 2, none⟩ = some (.bool l9[j].runs) := by rw [← hx0]; exact hsr.l.elem j 2 hlt' (by decide)
        have f2 : wr.frozen? ⟨g, j * 4 + 2, none⟩ = false := hsr.l.frozen _
        have hgd : ag9.getD j false = ag9[j] := by simp [hltA]
        have hup := upAk_step l9 ag9 j hlt9
        have hul := upAk_len l9 ag9 j
        rw [KLL.out] at hul
        rw [hgd] at hup
        have hW := hsr.setRuns hll'.out.symm j hlt' l9[j] hx0.symm true
        have hpwN := hpw.set j hlt9 (setR true l9[j])
        obtain ⟨x1, hx1⟩ : ∃ x, x = l9[j] := ⟨_, rfl⟩
        obtain ⟨b1, hb1⟩ : ∃ b, b = ag9[j] := ⟨_, rfl⟩
        rw [← hx1] at q0 q2 hup hW hpwN
        rw [← hb1] at qa hup hgd
        have HX1 := Kp.mk hx1
        have HB1 := Kp.mk hgd
        have HUP := Kp.mk hup
        clear hx1 hb1 hup hgd hx0
        have hDl : (D ++ upAk l9 ag9 j).length ≤ 2000 := by rw [List.length_append]; have := KLN.out; omega
        have hag6 : g ≠ w6.heap.size := by
          intro e
          obtain ⟨cg, hcg⟩ := hsr.l.blk
          obtain ⟨ca, hca⟩ := hxr.a.blk
          rw [e, hca] at hcg
          cases hcg
        have hg4 : g ≠ w.heap.size := hgb4
        have hg7 : g ≠ w7.heap.size := by
          intro e
          obtain ⟨cg, hcg⟩ := hsr.l.blk
          have := hxr.c15
          rw [← e, hcg] at this
          cases this
        cases b1
        · go_wp2_with fail
          go_roundw
          case rel =>
            refine ⟨j + 1, l', by omega, by go_num, hpw.ext fun i c hc => ?_, by rw [HUP.out]; simpa using hown, hfr, hsr, hxr, hcr⟩
            by_cases e : i = j
            · subst e
              rw [if_neg (by omega), if_pos (by omega), HB1.out]; rfl
            · by_cases e2 : i < j
              · rw [if_pos e2, if_pos (show i < j + 1 by omega)]
              · rw [if_neg e2, if_neg (show ¬ i < j + 1 by omega)]
          case measure => simp only [intOf]; omega
        · have hownW : Own (wr.setCell ⟨g, j * 4 + 2, none⟩ (.bool true)) 43 eAM u16 (D ++ upAk l9 ag9 j) := by
            obtain ⟨cur, hcur⟩ := hsr.l.blk
            exact hown.set_ne (hown.ne hcur (by decide)) _
          have hxW : ExS b14 w.heap.size (w.heap.size + 1) w7.heap.size p (38 + st) k (.slice (some ⟨w6.heap.size, 0, none⟩) s.l.length s.l.length) (wr.setCell ⟨g, j * 4 + 2, none⟩ (.bool true)) ag9 :=
            hxr.frame (chg_cell wr g (j * 4 + 2) (.bool true)) (by
              rintro k' rfl _
              obtain ⟨cur, hcur⟩ := hsr.l.blk
              exact ⟨cur, 65, hcur, .inr (.inl rfl)⟩)
          go_wp2_with fail
          refine (acts_any _ true (some ⟨wr.heap.size, 0, none⟩) 1 [x1.name] (src_new _ eStr 9 _ x1.name rfl (by simp)) (by simp)).mono ?_
          rintro e wz ⟨v3, rfl, ho3, hf3, hb3⟩
          have hs3 := (hW.below ((Below.refl _ _).alloc (Nat.le_refl _) (.cells #[.string x1.name] 9))).below hb3
          have hown3 := (hownW.alloc (.cells #[.string x1.name] 9)).below hb3
          have hx3 := (hxW.frame ((Chg.refl NoF _).alloc (.cells #[.string x1.name] 9)) (fun k' h _ => (NF.out k' h).elim)).frame (Chg.of_below hb3 NoF) (fun k' h _ => (NF.out k' h).elim)
          have hc3 : Chg (FP p (.slice (some ⟨g, 0, none⟩) s.l.length c) ev) w wz := (((hcr.set (p := ⟨g, j * 4 + 2, none⟩) (.inl (.inr (.inl rfl))) (.bool true)).alloc _)).then (Chg.of_below hb3 _)
          obtain ⟨A3, c3, hv3, _⟩ := ho3.shape
          subst hv3
          go_wp2_with (at_builtin; refine app_ev T28 rfl _ _ rfl hown3 rfl (ho3.src rfl) rfl rfl (by simp only [List.length_map, List.length_cons, List.length_nil]; omega) (by simp only [List.length_map, List.length_cons, List.length_nil]; omega) ?_; intro A' n' c' wy a0 a1 a2 a3)
          go_roundw
          case rel =>
            refine ⟨j + 1, _, by omega, by go_num, hpwN.ext fun i c hc => ?_, by rw [HUP.out, ← List.append_assoc]; exact a1, hfr.app hc3.size a3, hs3.keep hown3 a2,
              hx3.frame a2 (fun k' hk' _ => by obtain ⟨cur, hcur⟩ := hown3.blk' hk'; exact ⟨cur, 43, hcur, .inl rfl⟩), hc3.fresh hfr a2⟩
            by_cases e : i = j
            · subst e
              rw [List.getElem?_eq_getElem hlt9, ← HX1.out] at hc
              cases hc
              rw [if_pos rfl, if_pos (by omega), HB1.out]; rfl
            · rw [if_neg e]
              by_cases e2 : i < j
              · rw [if_pos e2, if_pos (show i < j + 1 by omega)]
              · rw [if_neg e2, if_neg (show ¬ i < j + 1 by omega)]
          case measure => simp only [intOf]; omega
      · have hle : s.l.length ≤ j := by omega
        clear hlt
        go_wp2_with fail
        try rw [Exit.noGoto_ret]
        go_ret2
        have e8 : l9 = L2.mapIdx (stopF mt goneF) := K1.out.eq
        have e7 : ag9 = ag0.mapIdx (agF L2 mt againF 0) := K2.out.eq
        have e6 : l' = upL l9 ag9 := (hpw.ext (g := fun i c => if ag9.getD i false then setR true c else c) (fun i c hc => by
          have := (List.getElem?_eq_some_iff.1 hc).1
          rw [if_pos (by have := KLL.out; omega)])).eq
        refine ⟨k, HR.out, .inr ⟨E3.out, k, x, _, ev4, rfl, KX.out, rfl, ?_, hfr, ?_, hsame, hcr⟩⟩
        · rw [e2.out, ← e8, ← e7, ← upAk_all l9 ag9 j (by rw [KLL.out]; exact hle)]; exact hown
        · rw [e2.out, ← e8, ← e7, ← e6]; exact hsr
end Go.Proofs.Ytiedfckgkjcheaa
