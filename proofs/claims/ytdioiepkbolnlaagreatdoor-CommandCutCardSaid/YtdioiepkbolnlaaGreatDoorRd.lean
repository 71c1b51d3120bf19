/- The readers of layer 7, and what is read: in plain Lean. -/
import Derived.Test.YtdioiepkbolnlaaGreatDoorChk
set_option linter.unusedSimpArgs false
set_option linter.unusedVariables false
namespace Go.Proofs.YtdioiepkbolnlaaGreatDoor
open Go.RowKit
def kAny (n : Nat) : Kind Unit := ⟨n, true, fun e => (by cases e), fun _ _ cs => cs.length = n ∧ ∀ u ∈ cs, u.oneCell' = true, fun e => e.1, fun e => e.2, fun _ e => e⟩
theorem zAny1 (h : PH) : (kAny 1).K h () [.pointer none] := ⟨rfl, fun u hu => by rw [List.mem_singleton.1 hu]; rfl⟩
structure Rd where
  left : List UInt8
  why : Int
deriving DecidableEq
def zRdV : Rd := ⟨[], 0⟩
def kRdF (x : Rd) : List FP := [(kSl kU8).fp x.left, (kI .i64).fp x.why]
def kRd : Kind Rd := kSt 2 kRdF (fun _ => rfl)
theorem zRd (h : PH) : RowF h (kRdF zRdV) (#[.slice none 0 0, .int .i64 0] : Array Value).toList := RowF.cons (c := [.slice none 0 0]) (znil _ h) (RowF.cons (c := [.int .i64 0]) rfl RowF.nil)
/-- A struct around a pointer to a reader: the pointer's block. -/
structure Rdr where
  rd : Nat
deriving DecidableEq
def zRdrV : Rdr := ⟨0⟩
def kRdrF (x : Rdr) : List FP := [kPb.fp x.rd]
def kRdr : Kind Rdr := kSt 1 kRdrF (fun _ => rfl)
theorem zRdr (h : PH) : RowF h [anyF 1] (#[.pointer none] : Array Value).toList := RowF.cons (c := [.pointer none]) ⟨rfl, fun u hu => by rw [List.mem_singleton.1 hu]; rfl⟩ RowF.nil
def stickS (r : Rd) (e : Int) : Rd := if r.why = 0 then ⟨[], e⟩ else r
def takeV (r : Rd) (n : Int) : List UInt8 := if (r.left.length : Int) < n then [] else r.left.take n.toNat
def takeS (r : Rd) (n : Int) : Rd := if (r.left.length : Int) < n then stickS r 4 else { r with left := r.left.drop n.toNat }
def beU (l : List UInt8) : Nat → Int
  | 0 => 0
  | k + 1 => bits .or .u64 (IntKind.u64.wrap (beU l k * 2 ^ 8)) (IntKind.u64.wrap ((l.getD k 0).toNat : Int))
theorem beU_zero (l : List UInt8) : (0 : Int) = beU l 0 := rfl
theorem beU_step (l : List UInt8) (k : Nat) : bits .or .u64 (IntKind.u64.wrap (beU l k * 2 ^ ((8 : Int)).toNat)) (IntKind.u64.wrap ((l.getD k 0).toNat : Int)) = beU l (k + 1) := by rw [beU]; rfl
attribute [irreducible] beU
def be8 (l : List UInt8) : Int := IntKind.i64.wrap (beU l l.length)
def intV (r : Rd) : Int := be8 (takeV r 8)
def intS (r : Rd) : Rd := takeS r 8
def badR (r : Rd) : Bool := decide (¬ r.why = 0)
def cntS (r : Rd) (most : Int) : Rd := if (decide ((intS r).why = 0) && (decide (intV r < 0) || decide (most < intV r))) = true then stickS (intS r) 3 else intS r
def cntV (r : Rd) (most : Int) : Int := if badR (cntS r most) = true then 0 else intV r
def blobV (r : Rd) (most : Int) : List UInt8 := if badR (cntS r most) = true then [] else takeV (cntS r most) (cntV r most)
def blobS (r : Rd) (most : Int) : Rd := if badR (cntS r most) = true then cntS r most else takeS (cntS r most) (cntV r most)
def textV (r : Rd) (most : Int) : ByteArray := strOf (blobV r most)
def endR (r : Rd) : Int := if decide (0 < (r.left.length : Int)) = true then 5 else r.why
def sumV (r : Rd) : List UInt8 := (takeV r 32).take 32 ++ (List.replicate 32 (0 : UInt8)).drop (takeV r 32).length
def sumS (r : Rd) : Rd := takeS r 32
theorem cntS_on {r : Rd} {most : Int} (h : (intS r).why = 0 ∧ (intV r < 0 ∨ most < intV r)) : stickS (intS r) 3 = cntS r most := by
  unfold cntS; rw [if_pos (by simpa using h)]
theorem cntS_off {r : Rd} {most : Int} (h : ¬ (intS r).why = 0 ∨ ¬ intV r < 0 ∧ ¬ most < intV r) : intS r = cntS r most := by
  unfold cntS
  rw [if_neg]
  simp only [Bool.and_eq_true, Bool.or_eq_true, decide_eq_true_eq]
  rintro ⟨h1, h2⟩
  rcases h with h | h
  · exact h h1
  · omega
theorem cntV_pos (r : Rd) (most : Int) (h : badR (cntS r most) = false) : 0 ≤ cntV r most := by
  unfold cntV
  rw [h]
  simp only [Bool.false_eq_true, if_false]
  unfold cntS at h
  split at h
  · rename_i hc
    exfalso
    simp only [Bool.and_eq_true, decide_eq_true_eq] at hc
    simp [badR, stickS, hc.1] at h
  · rename_i hc
    simp only [badR, decide_eq_false_iff_not, Decidable.not_not] at h
    simp only [Bool.and_eq_true, Bool.or_eq_true, decide_eq_true_eq, not_and] at hc
    have := hc h
    omega
end Go.Proofs.YtdioiepkbolnlaaGreatDoor
