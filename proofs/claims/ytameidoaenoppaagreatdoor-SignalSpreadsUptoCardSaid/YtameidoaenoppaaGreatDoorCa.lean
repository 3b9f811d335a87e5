/- Plain: cells and terms, what is wrong of them; what exit signals are; no condition. -/
import Derived.Test.YtameidoaenoppaaGreatDoorLM
import Derived.Lib.ValidLaws
namespace Go.Proofs.YtameidoaenoppaaGreatDoor
open Go.RowKit

structure Ce where
  k : Int
  n : Int
  t : ByteArray
  deriving DecidableEq
def eCe : El Ce := ⟨3, fun x => [.int .i64 x.k, .int .i64 x.n, .string x.t], fun _ => rfl, fun _ u h => by simp at h; rcases h with rfl | rfl | rfl <;> rfl, by decide⟩
def vCe (x : Ce) : Value := .agg #[.int .i64 x.k, .int .i64 x.n, .string x.t]
def emp : ByteArray := { data := #[] }
theorem isEmp {s : ByteArray} : s = emp ↔ s.size = 0 := by
  constructor
  · rintro rfl; rfl
  · intro h
    unfold emp
    cases s with
    | mk d =>
      congr 1
      exact Array.eq_empty_of_size_eq_zero h
/-- What is wrong of a cell. -/
def cellE (c : Ce) : Int :=
  if c.k < 1 ∨ 8 < c.k then 3
  else if ¬ (c.k = 2 ∨ c.k = 8) ∧ c.t ≠ emp then 3
  else if (c.k = 2 ∨ c.k = 8 ∨ c.k = 6 ∨ c.k = 7) ∧ c.n ≠ 0 then 3
  else if c.k = 3 then (if c.n < 1 ∨ 281474976710656 < c.n then 1 else 0)
  else if c.k = 4 then (if c.n < 1 ∨ 1099511627776 < c.n then 1 else 0)
  else if c.k = 5 then (if c.n < 0 ∨ 255 < c.n then 1 else 0)
  else if c.k = 2 then (if 255 < c.t.size ∨ Lib.validD c.t.data.toList = false then 20 else 0)
  else if c.k = 8 then (if 1024 < c.t.size then 4 else 0)
  else 0
/-- How many terms follow it. -/
def kidsN (c : Ce) : Int := if c.k = 7 then 2 else if c.k = 5 ∧ 0 ≤ c.n ∧ c.n ≤ 255 then c.n else 0
theorem kidsN_le (c : Ce) : 0 ≤ kidsN c ∧ kidsN c ≤ 255 := by
  unfold kidsN
  split
  · omega
  · split <;> omega
/-- What is wrong of a term, and where, from a place on with so many terms open. -/
def rightFrom : List Ce → Nat → Int → Int × Int
  | [], i, o => if 0 < o then (62, i) else (0, 0)
  | c :: t, i, o => if cellE c ≠ 0 then (cellE c, i) else if o = 0 then (63, i) else rightFrom t (i + 1) (o - 1 + kidsN c)
def rightE (t : List Ce) : Int × Int := if t.length = 0 then (5, 0) else if 1024 < t.length then (7, 0) else rightFrom t 0 1
theorem rightE_len {t : List Ce} (h : (rightE t).1 = 0) : 1 ≤ t.length ∧ t.length ≤ 1024 := by
  unfold rightE at h
  by_cases h0 : t.length = 0
  · rw [if_pos h0] at h; exact absurd h (by decide)
  · rw [if_neg h0] at h
    by_cases h1 : 1024 < t.length
    · rw [if_pos h1] at h; exact absurd h (by decide)
    · omega
def atomC (s : ByteArray) : Ce := ⟨2, 0, s⟩
def isA (t : List Ce) (s : ByteArray) : Bool := decide (t = [atomC s])
def exitS : ByteArray := { data := #[69, 88, 73, 84] }
def downS : ByteArray := { data := #[68, 79, 87, 78] }
def processS : ByteArray := { data := #[112, 114, 111, 99, 101, 115, 115] }
def limitS : ByteArray := { data := #[115, 121, 115, 116, 101, 109, 95, 108, 105, 109, 105, 116] }
def killS : ByteArray := { data := #[107, 105, 108, 108] }
def killedS : ByteArray := { data := #[107, 105, 108, 108, 101, 100] }
def normalS : ByteArray := { data := #[110, 111, 114, 109, 97, 108] }
/-- A message: cells, and a reason behind them, or what stands in its place. -/
def msg (head r : List Ce) : List Ce := head ++ (if 1024 < head.length + r.length then [atomC limitS] else r)
def exitM (p : Int) (r : List Ce) : List Ce := msg [⟨5, 3, emp⟩, atomC exitS, ⟨4, p, emp⟩] r
def downM (ref p : Int) (r : List Ce) : List Ce := msg [⟨5, 5, emp⟩, atomC downS, ⟨3, ref, emp⟩, atomC processS, ⟨4, p, emp⟩] r
def exitE (p : Int) (r : List Ce) : Int := if IsPid p then (rightE r).1 else 1
def exitL (p : Int) (r : List Ce) : List Ce := if exitE p r = 0 then exitM p r else []
def downE (ref p : Int) (r : List Ce) : Int := if (1 ≤ ref ∧ ref ≤ 281474976710656) ∧ IsPid p then (rightE r).1 else 1
def downL (ref p : Int) (r : List Ce) : List Ce := if downE ref p r = 0 then downM ref p r else []
def sendE (a b : Int) (r : List Ce) : Int := if IsPid a ∧ IsPid b then (rightE r).1 else 1
def sendK (a b : Int) (r : List Ce) (trap : Bool) : Int :=
  if sendE a b r ≠ 0 then 0 else if isA r killS then 1 else if trap then 2 else if isA r normalS ∧ a ≠ b then 0 else 1
def sendL (a b : Int) (r : List Ce) (trap : Bool) : List Ce :=
  if sendE a b r ≠ 0 then [] else if isA r killS then [atomC killedS] else if trap then exitM a r else if isA r normalS ∧ a ≠ b then [] else r
theorem msg_len (h r : List Ce) (hh : h.length ≤ 5) : (msg h r).length ≤ 1030 := by
  unfold msg
  rw [List.length_append]
  split
  · simp; omega
  · omega
end Go.Proofs.YtameidoaenoppaaGreatDoor
