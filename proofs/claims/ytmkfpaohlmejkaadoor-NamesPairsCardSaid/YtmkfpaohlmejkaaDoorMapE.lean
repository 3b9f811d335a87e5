/- A key's place in a map taken first, its value stored later; bounds stand in the statement. -/
import Derived.Test.YtmkfpaohlmejkaaDoorMapV
import Derived.WideKeyEntry
namespace Go.Proofs.YtmkfpaohlmejkaaDoor
open Go.RowKit Go.MapKept Go.ChangeMaps Go.WideMaps Go.WideElems Go.ChangeShapes Go.WideShapes
open Go.Maps (Keyed)

section
variable {H : Type} {P : Program} {w : World} {t k e : TypeId} {R : Value → Option (DataW H × List MemPlace)} {b : Nat} {es : Array MapEntry} {clock : Nat}
/-- At a key that is not there: a new place, then its value. -/
theorem place_new (ht : P.underlying t = some (.map k e)) {z : Value} (hz : ∀ u : World, (zeroValue e).run P u = .ok z u) (hb : w.heap[b]? = some (.map es clock)) (F : Fit P k R es clock)
    {key : Value} (hck : (Instr.checkKey false 10000 k key).run P w = .ok () w) (hf : (Instr.findKey k key es.toList).run P w = .ok none w) :
    (Instr.mapEntry t (.map (some b)) key).run P w = .ok (.tuple #[z, goInt clock]) (setBlock w b (.map (es.push ⟨key, z, clock⟩) (clock + 1))) ∧
      ∀ (w2 : World) (val : Value), w2.heap[b]? = some (.map (es.push ⟨key, z, clock⟩) (clock + 1)) →
        (Instr.entryStore t (.map (some b)) (goInt clock) val).run P w2 = .ok () (setBlock w2 b (.map (es.push ⟨key, val, clock⟩) (clock + 1))) ∧
        (Instr.mapUpdate t (.map (some b)) key val).run P w = .ok () (setBlock w b (.map (es.push ⟨key, val, clock⟩) (clock + 1))) := by
  obtain ⟨s1, s2, _⟩ := F.stamped
  refine ⟨by simp [Instr.mapEntry, run_underlying ht, MapKept.run_getObj_map hb, hck, hf, hz, MapKept.run_setObj_map _ hb, Result.andThen, setBlock], fun w2 val hw2 => ⟨?_, by simp [Instr.mapUpdate, run_underlying ht, MapKept.run_getObj_map hb, hck, hf, MapKept.run_setObj_map _ hb, Result.andThen, setBlock]⟩⟩
  have hidx : (es.push ⟨key, z, clock⟩).findIdx? (fun e => ((e.born : Nat) : Int) == ((clock : Nat) : Int)) = some es.size := by
    rw [findIdx_arr]
    have h1 := findIdx_born (l := (es.push ⟨key, z, clock⟩).toList) (j := es.size) (e0 := ⟨key, z, clock⟩) (by
      rw [Array.toList_push, List.map_append, List.nodup_append]
      refine ⟨s2, by simp, fun x hx y hy => ?_⟩
      obtain ⟨u, hu, rfl⟩ := List.mem_map.1 hx
      have h2 := s1 u hu
      simp only [List.map_cons, List.map_nil, List.mem_singleton] at hy
      omega) (by simp)
    exact h1
  have hmod : (es.push ⟨key, z, clock⟩).modify es.size (fun e => { e with val := val }) = es.push ⟨key, val, clock⟩ := by
    apply Array.ext'
    rw [Array.toList_modify, Array.toList_push, Array.toList_push, ← Array.length_toList, modify_last]
  simp [Instr.entryStore, MapKept.run_getObj_map hw2, asInt, asIntOf, goInt, hidx, hmod, MapKept.run_setObj_map _ hw2, Result.andThen, setBlock]
end
section
variable {κ : Type} [DecidableEq κ] {P : Program} {k : TypeId} {T : KeyT P k κ} {w : World} {b : Nat} {es : List (κ × Value)}
theorem chg_setBlock {o1 : Array MapEntry} {c1 : Nat} (hb : w.heap[b]? = some (.map o1 c1)) (o : Obj) : Chg (fun g => g = b) w (setBlock w b o) :=
  ⟨rfl, rfl, rfl, by simp [setBlock], fun i _ hi => heap_setBlock_other hb _ hi⟩
theorem IsMapV.entry {t e : TypeId} (ht : P.underlying t = some (.map k e)) (h : IsMapV T w b es) {z : Value} (hz : ∀ u : World, (zeroValue e).run P u = .ok z u) (hn : es.length < maxLen) (x : κ) (v : Value) (hx : T.ok x) (hl : look es x = none) :
    ∃ (v0 : Value) (st : Nat) (w1 : World), (Instr.mapEntry t (.map (some b)) (T.kf x)).run P w = .ok (.tuple #[v0, .int .i64 st]) w1 ∧ Chg (fun g => g = b) w w1 ∧ w1.heap.size = w.heap.size ∧
      ∀ w2 : World, w2.heap[b]? = w1.heap[b]? → ∃ w3, (Instr.entryStore t (.map (some b)) (.int .i64 st) v).run P w2 = .ok () w3 ∧ IsMapV T w3 b (putE es x v) ∧ Chg (fun g => g = b) w2 w3 ∧ w3.heap.size = w2.heap.size := by
  obtain ⟨w', e5, e6, e7⟩ := h.put ht hn x v hx
  obtain ⟨a0, hg⟩ : ∃ a0, (Instr.lookup t (.map (some b)) (T.kf x) true).run P w = .ok (.tuple #[a0, .bool false]) w := ⟨_, by have := h.get_ok ht (hz w) x hx; rw [hl] at this; exact this⟩
  obtain ⟨D, h1, h2, h3⟩ := h.own
  obtain ⟨es0, clock, hb, F, hs, hD⟩ := h1
  have hck := T.law.check w false (T.key x hx)
  rcases T.law.find w (T.key x hx) es0.toList F.keys with ⟨hf, _⟩ | ⟨j, e0, hf, hj, hk⟩
  · obtain ⟨p1, p2⟩ := place_new ht hz hb F hck hf
    refine ⟨z, clock, _, p1, chg_setBlock hb _, by simp [setBlock], fun w2 hw2 => ?_⟩
    have hw := hw2.trans (heap_setBlock_same hb _)
    obtain ⟨p3, p4⟩ := p2 w2 v hw
    rw [p4] at e5
    obtain rfl : setBlock w b _ = w' := by injection e5
    exact ⟨_, p3, e6.heap ((heap_setBlock_same hw _).trans (heap_setBlock_same hb _).symm), chg_setBlock hw _, by simp [setBlock]⟩
  · exfalso
    simp [Instr.lookup, run_underlying ht, MapKept.run_getObj_map hb, T.law.check w es0.isEmpty (T.key x hx), hf, Result.andThen] at hg
end
end Go.Proofs.YtmkfpaohlmejkaaDoor
