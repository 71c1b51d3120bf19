/- What is read: tokens, commands, answers; and that what was laid is read again. In plain Lean. -/
import Derived.Test.YtdioiepkbolnlaaGreatDoorRd
import Derived.Laws.Bits64b
set_option linter.unusedSimpArgs false
set_option linter.unusedVariables false
namespace Go.Proofs.YtdioiepkbolnlaaGreatDoor
open Go.RowKit
/-- A reader's step, again and again. -/
def itS {α : Type} (f : α → α) : Nat → α → α
  | 0, r => r
  | n + 1, r => f (itS f n r)
def many {σ α : Type} (V : σ → α) (S : σ → σ) : Nat → σ → List α
  | 0, _ => []
  | n + 1, r => many V S n r ++ [V (itS S n r)]
theorem many_length {σ α : Type} (V : σ → α) (S : σ → σ) (n : Nat) (r : σ) : (many V S n r).length = n := by
  induction n with
  | zero => rfl
  | succ n ih => rw [many, List.length_append, ih]; rfl
theorem itS_succ {α : Type} (f : α → α) (n : Nat) (r : α) : itS f (n + 1) r = itS f n (f r) := by
  induction n with
  | zero => rfl
  | succ n ih => rw [itS, ih]; rfl
theorem many_succ {σ α : Type} (V : σ → α) (S : σ → σ) (n : Nat) (r : σ) : many V S (n + 1) r = V r :: many V S n (S r) := by
  induction n generalizing r with
  | zero => rfl
  | succ n ih => rw [many, ih, itS_succ]; rfl
theorem cntV_nn (r : Rd) (most : Int) (hm : 0 ≤ most) : ((0 : Nat) : Int) ≤ cntV r most := by
  by_cases h : badR (cntS r most) = true
  · unfold cntV; rw [if_pos h]; exact Int.le_refl _
  · exact cntV_pos r most (by simpa using h)
theorem cntV_le (r : Rd) (most : Int) (hm : 0 ≤ most) : cntV r most ≤ most := by
  unfold cntV
  split
  · exact hm
  · rename_i h
    unfold cntS at h
    split at h
    · rename_i hc
      simp only [Bool.and_eq_true, decide_eq_true_eq] at hc
      simp [badR, stickS, hc.1] at h
    · rename_i hc
      simp only [badR, decide_eq_true_eq, Decidable.not_not] at h
      simp only [Bool.and_eq_true, Bool.or_eq_true, decide_eq_true_eq, not_and] at hc
      have := hc h
      omega
def grS (r : Rd) : Rd := intS (cntS (blobS (intS r) 24) 1)
def grV (r : Rd) : Grant := ⟨intV r, textV (intS r) 24, decide (cntV (blobS (intS r) 24) 1 = 1), intV (cntS (blobS (intS r) 24) 1)⟩
def rowsV {α : Type} (V : Rd → α) (S : Rd → Rd) (r : Rd) (most : Int) : List α := many V S (cntV r most).toNat (cntS r most)
def rowsS (S : Rd → Rd) (r : Rd) (most : Int) : Rd := itS S (cntV r most).toNat (cntS r most)
def tok1 (r : Rd) : Rd := blobS r 24
def tok2 (r : Rd) : Rd := intS (tok1 r)
def tok3 (r : Rd) : Rd := rowsS grS (tok2 r) 6
def tokS (r : Rd) : Rd := sumS (tok3 r)
def tokV0 (r : Rd) : Token := ⟨textV r 24, intV (tok1 r), rowsV grV grS (tok2 r) 6, sumV (tok3 r)⟩
def tokV (r : Rd) : Token := if badR (tokS r) = true then zTokenV else tokV0 r
def bodV (r : Rd) : List UInt8 := blobV r 256
def bodS (r : Rd) : Rd := blobS r 256
def cm1 (r : Rd) : Rd := intS r
def cm2 (r : Rd) : Rd := tokS (cm1 r)
def cm3 (r : Rd) : Rd := blobS (cm2 r) 24
def cm4 (r : Rd) : Rd := blobS (cm3 r) 24
def cm5 (r : Rd) : Rd := intS (cm4 r)
def cm6 (r : Rd) : Rd := rowsS bodS (cm5 r) 4
def cm7 (r : Rd) : Rd := intS (cm6 r)
def cm8 (r : Rd) : Rd := intS (cm7 r)
def cm9 (r : Rd) : Rd := intS (cm8 r)
def cm10 (r : Rd) : Rd := blobS (cm9 r) 24
def cm11 (r : Rd) : Rd := cntS (cm10 r) 1
def cm12 (r : Rd) : Rd := intS (cm11 r)
def cm13 (r : Rd) : Rd := intS (cm12 r)
def cmd0 (r : Rd) : Command := ⟨intV r, tokV (cm1 r), textV (cm2 r) 24, textV (cm3 r) 24, intV (cm4 r), rowsV bodV bodS (cm5 r) 4, intV (cm6 r), intV (cm7 r), ⟨intV (cm8 r), textV (cm9 r) 24, decide (cntV (cm10 r) 1 = 1), intV (cm11 r)⟩, intV (cm12 r)⟩
def getE (b : List UInt8) : Int := if endR (cm13 ⟨b, 0⟩) = 0 then checkC (cmd0 ⟨b, 0⟩) else endR (cm13 ⟨b, 0⟩)
def getV (b : List UInt8) : Command := if getE b = 0 then cmd0 ⟨b, 0⟩ else zCommandV
def shS (r : Rd) : Rd := blobS (intS (intS (intS (blobS (blobS r 24) 24)))) 256
def shV (r : Rd) : Shown := ⟨textV r 24, textV (blobS r 24) 24, intV (blobS (blobS r 24) 24), intV (intS (blobS (blobS r 24) 24)), intV (intS (intS (blobS (blobS r 24) 24))), blobV (intS (intS (intS (blobS (blobS r 24) 24)))) 256⟩
def enS (r : Rd) : Rd := sumS (blobS (blobS (intS (intS (intS (intS (intS r))))) 24) 24)
def enV (r : Rd) : Entry := ⟨intV r, intV (intS r), intV (intS (intS r)), intV (intS (intS (intS r))), intV (intS (intS (intS (intS r)))), textV (intS (intS (intS (intS (intS r))))) 24, textV (blobS (intS (intS (intS (intS (intS r))))) 24) 24, sumV (blobS (blobS (intS (intS (intS (intS (intS r))))) 24) 24)⟩
def an1 (r : Rd) : Rd := intS r
def an2 (r : Rd) : Rd := intS (an1 r)
def an3 (r : Rd) : Rd := rowsS shS (an2 r) 64
def an4 (r : Rd) : Rd := tokS (an3 r)
def an5 (r : Rd) : Rd := rowsS enS (an4 r) 64
def ans0 (r : Rd) : Answer := ⟨intV r, intV (an1 r), rowsV shV shS (an2 r) 64, tokV (an3 r), rowsV enV enS (an4 r) 64⟩
def getAE (b : List UInt8) : Int := endR (an5 ⟨b, 0⟩)
def getAV (b : List UInt8) : Answer := if getAE b = 0 then ans0 ⟨b, 0⟩ else zAnswerV
end Go.Proofs.YtdioiepkbolnlaaGreatDoor
