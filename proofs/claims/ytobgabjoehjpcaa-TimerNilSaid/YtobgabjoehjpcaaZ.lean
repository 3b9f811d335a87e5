/- The methods that package timer's queue hands to container/heap; no condition. -/
import Derived.Test.YtobgabjoehjpcaaW
namespace Go.Proofs.Ytobgabjoehjpcaa
open Go.RowKit
theorem nilchk (P : Program) (w : World) (t u : TypeId) (a : Addr) (x y : ByteArray) : (Builtin.ssaWrapNilChk_ #[t] u #[.pointer (some a), .string x, .string y]).run P w = .ok (.pointer (some a)) w := rfl
theorem meth_of {P : Program} {w : World} {p n T E f : Nat} {nm : String} {v : Value} {i : TypeInfo} (h : w.cell? ⟨p, 0, none⟩ = some v) (hi : P.info? T = some i) (hm : ((i.methods.find? (·.name == nm)).map fun m => (m.path, m.func)) = some (#[], some (f, false)))
    (hu : P.underlying T = some (.pointer E)) (he : (isAgg E).run P w = .ok false w) :
    Sem.run P (method (n + 1) T (.pointer (some ⟨p, 0, none⟩)) nm) w = .ok (f, v) w := by
  obtain ⟨m, hm1, hm2⟩ := Option.map_eq_some_iff.1 hm
  obtain ⟨h1, h2⟩ := Prod.mk.inj hm2
  simp only [method, typeInfo, Sem.run_bind, run_program, Result.andThen_ok, hi, Sem.run_pure, hm1, h1, h2, Array.toList_empty, follow, receiverAt, run_underlying hu, Array.isEmpty_empty, if_true, Place.get, strVal, nilchk, loadVar, asAddr, he]
  simp [h]
theorem methp_of {P : Program} {w : World} {p n T E f : Nat} {nm : String} {i : TypeInfo} (hi : P.info? T = some i) (hm : ((i.methods.find? (·.name == nm)).map fun m => (m.path, m.func)) = some (#[], some (f, true)))
    (hu : P.underlying T = some (.pointer E)) :
    Sem.run P (method (n + 1) T (.pointer (some ⟨p, 0, none⟩)) nm) w = .ok (f, .pointer (some ⟨p, 0, none⟩)) w := by
  obtain ⟨m, hm1, hm2⟩ := Option.map_eq_some_iff.1 hm
  obtain ⟨h1, h2⟩ := Prod.mk.inj hm2
  simp only [method, typeInfo, Sem.run_bind, run_program, Result.andThen_ok, hi, Sem.run_pure, hm1, h1, h2, Array.toList_empty, follow, receiverAt, run_underlying hu, Place.get]
theorem agg56 (w : World) : (isAgg 56).run Try.prog w = .ok false w := by kernel_rfl
theorem inf62 : ∃ i, Try.prog.info? 62 = some i ∧ ((i.methods.find? (·.name == "Less")).map fun m => (m.path, m.func)) = some (#[], some (85, false)) ∧ ((i.methods.find? (·.name == "Swap")).map fun m => (m.path, m.func)) = some (#[], some (86, false)) ∧
    ((i.methods.find? (·.name == "Len")).map fun m => (m.path, m.func)) = some (#[], some (84, false)) ∧ ((i.methods.find? (·.name == "Push")).map fun m => (m.path, m.func)) = some (#[], some (88, true)) ∧ ((i.methods.find? (·.name == "Pop")).map fun m => (m.path, m.func)) = some (#[], some (87, true)) := by
  have h : (Try.prog.info? 62).map (fun i => [(i.methods.find? (·.name == "Less")).map fun m => (m.path, m.func), (i.methods.find? (·.name == "Swap")).map fun m => (m.path, m.func), (i.methods.find? (·.name == "Len")).map fun m => (m.path, m.func), (i.methods.find? (·.name == "Push")).map fun m => (m.path, m.func), (i.methods.find? (·.name == "Pop")).map fun m => (m.path, m.func)]) =
      some [some (#[], some (85, false)), some (#[], some (86, false)), some (#[], some (84, false)), some (#[], some (88, true)), some (#[], some (87, true))] := by kernel_rfl
  obtain ⟨i, hi, hl⟩ := Option.map_eq_some_iff.1 h
  simp only [List.cons.injEq, and_true] at hl
  exact ⟨i, hi, hl.1, hl.2.1, hl.2.2.1, hl.2.2.2.1, hl.2.2.2.2⟩
theorem meth_less (w : World) (p : Nat) (v : Value) (h : w.cell? ⟨p, 0, none⟩ = some v) : Sem.run Try.prog (method 230 62 (.pointer (some ⟨p, 0, none⟩)) "Less") w = .ok (85, v) w := by
  obtain ⟨i, hi, h1, _⟩ := inf62
  exact meth_of h hi h1 Try.underlying62 (agg56 w)
theorem meth_swap (w : World) (p : Nat) (v : Value) (h : w.cell? ⟨p, 0, none⟩ = some v) : Sem.run Try.prog (method 230 62 (.pointer (some ⟨p, 0, none⟩)) "Swap") w = .ok (86, v) w := by
  obtain ⟨i, hi, _, h1, _⟩ := inf62
  exact meth_of h hi h1 Try.underlying62 (agg56 w)
theorem meth_len (w : World) (p : Nat) (v : Value) (h : w.cell? ⟨p, 0, none⟩ = some v) : Sem.run Try.prog (method 230 62 (.pointer (some ⟨p, 0, none⟩)) "Len") w = .ok (84, v) w := by
  obtain ⟨i, hi, _, _, h1, _⟩ := inf62
  exact meth_of h hi h1 Try.underlying62 (agg56 w)
theorem meth_push (w : World) (p : Nat) : Sem.run Try.prog (method 230 62 (.pointer (some ⟨p, 0, none⟩)) "Push") w = .ok (88, .pointer (some ⟨p, 0, none⟩)) w := by
  obtain ⟨i, hi, _, _, _, h1, _⟩ := inf62
  exact methp_of hi h1 Try.underlying62
theorem meth_pop (w : World) (p : Nat) : Sem.run Try.prog (method 230 62 (.pointer (some ⟨p, 0, none⟩)) "Pop") w = .ok (87, .pointer (some ⟨p, 0, none⟩)) w := by
  obtain ⟨i, hi, _, _, _, _, h1⟩ := inf62
  exact methp_of hi h1 Try.underlying62
end Go.Proofs.Ytobgabjoehjpcaa
