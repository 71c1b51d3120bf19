/- What is too great to be gone through; answers that were read may be laid: in plain Lean. -/
import Derived.Test.YtdioiepkbolnlaaGreatDoorKl
set_option linter.unusedSimpArgs false
set_option linter.unusedVariables false
set_option maxRecDepth 100000
namespace Go.Proofs.YtdioiepkbolnlaaGreatDoor
open Go.RowKit
def putV (c : Command) : List UInt8 := if checkC c = 0 then cmdB c else []
def putAV (a : Answer) : List UInt8 := if checkA a = 0 then ansB a else []
theorem putV_no (c : Command) : ¬ checkC c = 0 → (putV c).length = 0 := fun h => by unfold putV; rw [if_neg h]; rfl
theorem putAV_no (a : Answer) : ¬ checkA a = 0 → (putAV a).length = 0 := fun h => by unfold putAV; rw [if_neg h]; rfl
theorem back_c {c : Command} (hi : CIn c) (h : checkC c = 0) : getE (putV c) = 0 ∧ getV (putV c) = c := by unfold putV; rw [if_pos h]; exact get_put h hi
theorem back_a {a : Answer} (hi : AIn a) (h : checkA a = 0) : getAE (putAV a) = 0 ∧ getAV (putAV a) = a := by unfold putAV; rw [if_pos h]; exact geta_put h hi
theorem forth_c {b : List UInt8} (h : getE b = 0) : checkC (getV b) = 0 ∧ putV (getV b) = b := by
  obtain ⟨h1, h2⟩ := put_get h
  exact ⟨h1, by unfold putV; rw [if_pos h1, h2]⟩
theorem getV_no {b : List UInt8} (h : ¬ getE b = 0) : getV b = zCommandV := by unfold getV; rw [if_neg h]
theorem getAV_no {b : List UInt8} (h : ¬ getAE b = 0) : getAV b = zAnswerV := by unfold getAV; rw [if_neg h]
theorem takeV_len (r : Rd) (n : Int) : (takeV r n).length ≤ n.toNat := by
  unfold takeV; split
  · exact Nat.zero_le _
  · rw [List.length_take]; omega
theorem blobV_len (r : Rd) (m : Int) (hm : 0 ≤ m) : ((blobV r m).length : Int) ≤ m := by
  unfold blobV; split
  · simpa using hm
  · have h1 := takeV_len (cntS r m) (cntV r m)
    have h2 := cntV_le r m hm
    have h3 := cntV_nn r m hm
    omega
theorem textV_len (r : Rd) (m : Int) (hm : 0 ≤ m) : ((textV r m).size : Int) ≤ m := by unfold textV; rw [strOf_size]; exact blobV_len r m hm
theorem rowsV_len {α : Type} (V : Rd → α) (S : Rd → Rd) (r : Rd) (m : Int) (hm : 0 ≤ m) : ((rowsV V S r m).length : Int) ≤ m := by
  unfold rowsV; rw [many_length]
  have h2 := cntV_le r m hm
  have h3 := cntV_nn r m hm
  omega
theorem many_mem {σ α : Type} {V : σ → α} {S : σ → σ} {x : α} : ∀ {n : Nat} {r : σ}, x ∈ many V S n r → ∃ s, x = V s
  | 0, _, h => by cases h
  | n + 1, r, h => by
    rw [many] at h
    rcases List.mem_append.1 h with h | h
    · exact many_mem h
    · exact ⟨_, List.mem_singleton.1 h⟩
theorem tokV_fit (r : Rd) : longT (tokV r) = false ∧ (tokV r).grs.length ≤ 6 := by
  unfold tokV; split
  · exact ⟨by decide, by decide⟩
  · have h1 := textV_len r 24 (by decide)
    have h2 := rowsV_len grV grS (tok2 r) 6 (by decide)
    refine ⟨?_, by show (rowsV grV grS (tok2 r) 6).length ≤ 6; omega⟩
    simp only [longT, Bool.or_eq_false_iff]
    refine ⟨by unfold longS tokV0; simp only [decide_eq_false_iff_not]; omega, List.any_eq_false.2 (fun g hg => ?_)⟩
    obtain ⟨s, rfl⟩ := many_mem (V := grV) (S := grS) (n := (cntV (tok2 r) 6).toNat) (r := cntS (tok2 r) 6) hg
    have := textV_len (intS s) 24 (by decide)
    have e : longG (grV s) = false := by unfold longG longS grV; simp only [decide_eq_false_iff_not]; omega
    rw [e]; exact Bool.false_ne_true
theorem rowsV_mem {α : Type} {V : Rd → α} {S : Rd → Rd} {r : Rd} {m : Int} {x : α} (h : x ∈ rowsV V S r m) : ∃ s, x = V s := many_mem h
attribute [local irreducible] tokV rowsV intV
theorem shown_eq (r : Rd) : (ans0 r).shown = rowsV shV shS (an2 r) 64 := rfl
theorem ents_eq (r : Rd) : (ans0 r).ents = rowsV enV enS (an4 r) 64 := rfl
theorem anstok_eq (r : Rd) : (ans0 r).tok = tokV (an3 r) := rfl
attribute [local irreducible] ans0
theorem ans0_ok (r : Rd) : checkA (ans0 r) = 0 := by
  have t := tokV_fit (an3 r)
  have h1 := rowsV_len shV shS (an2 r) 64 (by decide)
  have h2 := rowsV_len enV enS (an4 r) 64 (by decide)
  have e1 : (ans0 r).shown.any longShown = false := List.any_eq_false.2 (fun x hx => by
    rw [shown_eq] at hx
    obtain ⟨s, rfl⟩ := rowsV_mem hx
    have a1 := textV_len s 24 (by decide)
    have a2 := textV_len (blobS s 24) 24 (by decide)
    have a3 := blobV_len (intS (intS (intS (blobS (blobS s 24) 24)))) 256 (by decide)
    have e : longShown (shV s) = false := by unfold longShown longS great shV; simp only [Bool.or_eq_false_iff, decide_eq_false_iff_not]; omega
    rw [e]; exact Bool.false_ne_true)
  have e2 : (ans0 r).ents.any longEntry = false := List.any_eq_false.2 (fun x hx => by
    rw [ents_eq] at hx
    obtain ⟨s, rfl⟩ := rowsV_mem hx
    have a1 := textV_len (intS (intS (intS (intS (intS s))))) 24 (by decide)
    have a2 := textV_len (blobS (intS (intS (intS (intS (intS s))))) 24) 24 (by decide)
    have e : longEntry (enV s) = false := by unfold longEntry longS enV; simp only [Bool.or_eq_false_iff, decide_eq_false_iff_not]; omega
    rw [e]; exact Bool.false_ne_true)
  unfold checkA
  rw [e1, e2, anstok_eq, t.1, shown_eq, ents_eq, if_neg, if_neg]
  · decide
  · have g3 := t.2
    simp only [Bool.or_eq_true, decide_eq_true_eq]; omega
theorem forth_a {b : List UInt8} (h : getAE b = 0) : checkA (getAV b) = 0 ∧ putAV (getAV b) = b := by
  have h1 : checkA (getAV b) = 0 := by
    unfold getAV; rw [if_pos h]; exact ans0_ok _
  exact ⟨h1, by unfold putAV; rw [if_pos h1, puta_get0 h]⟩
/-! #### what is gone through -/
def allK (l : List (List UInt8)) : Nat → Int
  | 0 => 0
  | k + 1 => min (allK l k + ((l.getD k []).length : Int) + 1) 1099511627776
def allL (l : List (List UInt8)) : Int := allK l l.length
theorem allK_in (l : List (List UInt8)) (k : Nat) : 0 ≤ allK l k ∧ allK l k ≤ 1099511627776 := by
  induction k with
  | zero => unfold allK; omega
  | succ k ih => unfold allK; omega
def bigC (c : Command) (rows bytes : Int) : Bool := decide (rows < (c.tok.grs.length : Int)) || decide (rows < (c.bod.length : Int)) || decide (bytes < allL c.bod) || decide (bytes < (c.tok.ten.size : Int)) || decide (bytes < (c.str.size : Int)) || decide (bytes < (c.sub.size : Int)) || decide (bytes < (c.gra.pre.size : Int))
def bigL (c : Command) : Bool := bigC c 40 8192 || wideT c.tok
def greatS (s : Shown) : Bool := decide (2048 < max (max (s.str.size : Int) (s.sub.size : Int)) (s.body.length : Int))
def greatE (e : Entry) : Bool := decide (2048 < max (e.str.size : Int) (e.sub.size : Int))
def greatA (a : Answer) : Bool := wideT a.tok || decide (80 < (a.shown.length : Int)) || decide (80 < (a.ents.length : Int)) || a.shown.any greatS || a.ents.any greatE
theorem great_yes {a : Answer} (h : (wideT a.tok = true ∨ 80 < (a.shown.length : Int)) ∨ 80 < (a.ents.length : Int)) : true = greatA a := by
  unfold greatA; rcases h with (h | h) | h <;> simp [h]
theorem great_hit {a : Answer} {k : Nat} (hk : (k : Int) < a.shown.length) (h : greatS (a.shown.getD k zShownV) = true) : true = greatA a := by
  unfold greatA; rw [any_hit (p := greatS) (d := zShownV) hk h]; simp
theorem great_hit2 {a : Answer} {k : Nat} (hk : (k : Int) < a.ents.length) (h : greatE (a.ents.getD k zEntryV) = true) : true = greatA a := by
  unfold greatA; rw [any_hit (p := greatE) (d := zEntryV) hk h]; simp
theorem great_no {a : Answer} (h : (wideT a.tok = false ∧ ¬ 80 < (a.shown.length : Int)) ∧ ¬ 80 < (a.ents.length : Int)) (h1 : a.shown.any greatS = false) (h2 : a.ents.any greatE = false) : false = greatA a := by
  unfold greatA; rw [h1, h2, h.1.1]; simp; omega
/-! #### cut short, with bytes behind -/
def wantM (more : List UInt8) : Int := if (more.length : Int) = 0 then 0 else 5
theorem cut_c {c : Command} (hm : c.tok.mac.length = 32) (h : checkC c = 0) (n : Int) : getE ((putV c).take (pickF n (putV c).length).toNat) = 4 := by
  have hl : (cmdB c).length = (putV c).length := by unfold putV; rw [if_pos h]
  have hp : 0 < (putV c).length := by rw [← hl, cmdB_len]; omega
  have := pickF_in n (putV c).length (by omega)
  unfold putV at *
  rw [if_pos h] at *
  exact get_cut h hm (by omega)
theorem cut_a {a : Answer} (hm : a.tok.mac.length = 32) (hs : ∀ e ∈ a.ents, e.sum.length = 32) (h : checkA a = 0) (n : Int) : getAE ((putAV a).take (pickF n (putAV a).length).toNat) = 4 := by
  have hl : (ansB a).length = (putAV a).length := by unfold putAV; rw [if_pos h]
  have hp : 0 < (putAV a).length := by rw [← hl, ansB_len]; omega
  have := pickF_in n (putAV a).length (by omega)
  unfold putAV at *
  rw [if_pos h] at *
  exact geta_cut h hm hs (by omega)
theorem more_c {c : Command} (hi : CIn c) (h : checkC c = 0) (y : List UInt8) : getE (putV c ++ y) = wantM y := by
  unfold putV wantM; rw [if_pos h, get_more h hi]
  cases y with
  | nil => rfl
  | cons b y => rw [if_neg (by simp), if_neg (by simp; omega)]
theorem more_a {a : Answer} (hm : a.tok.mac.length = 32) (hs : ∀ e ∈ a.ents, e.sum.length = 32) (h : checkA a = 0) (y : List UInt8) : getAE (putAV a ++ y) = wantM y := by
  unfold putAV wantM; rw [if_pos h, geta_more h hm hs]
  cases y with
  | nil => rfl
  | cons b y => rw [if_neg (by simp), if_neg (by simp; omega)]
theorem putV_le {c : Command} (hm : c.tok.mac.length = 32) : (putV c).length ≤ 32768 := by
  unfold putV; split
  · rename_i h; exact put_le hm h
  · simp
theorem putAV_le {a : Answer} (hm : a.tok.mac.length = 32) (hs : ∀ e ∈ a.ents, e.sum.length = 32) : (putAV a).length ≤ 32768 := by
  unfold putAV; split
  · rename_i h; exact puta_le hm hs h
  · simp
theorem putV_pay {c : Command} (hm : c.tok.mac.length = 32) : (putV c).length ≤ 35184372088832 := by have := putV_le hm; omega
theorem putAV_pay {a : Answer} (hm : a.tok.mac.length = 32) (hs : ∀ e ∈ a.ents, e.sum.length = 32) : (putAV a).length ≤ 35184372088832 := by have := putAV_le hm hs; omega
theorem back_no {c : Command} {a : Answer} (g1 : checkC c = 0 → getE (putV c) = 0 ∧ getV (putV c) = c) (g2 : checkA a = 0 → getAE (putAV a) = 0 ∧ getAV (putAV a) = a) (h : (checkC c = 0 ∧ (¬ getE (putV c) = 0 ∨ ¬ getV (putV c) = c)) ∨ (checkA a = 0 ∧ (¬ getAE (putAV a) = 0 ∨ ¬ getAV (putAV a) = a))) : False := by
  rcases h with ⟨h, h2⟩ | ⟨h, h2⟩
  · obtain ⟨p, q⟩ := g1 h; exact h2.elim (fun e => e p) (fun e => e q)
  · obtain ⟨p, q⟩ := g2 h; exact h2.elim (fun e => e p) (fun e => e q)
theorem forth_no {c : Command} {b : List UInt8} (f : checkC c = 0 ∧ putV c = b) (h : ¬ checkC c = 0 ∨ ¬ putV c = b) : False := by
  rcases h with h | h
  · exact h f.1
  · exact h f.2
theorem pickF_le (v : Int) (n : Nat) : 0 ≤ pickF v n ∧ pickF v n ≤ n := by
  by_cases h : 0 < (n : Int)
  · have := pickF_in v n h; omega
  · unfold pickF; rw [if_pos (by omega)]; omega
theorem get_len {l : List (List UInt8)} (h : ∀ b ∈ l, b.length ≤ 140737488351232) (k : Nat) : (l.getD k []).length ≤ 140737488351232 := by
  by_cases hk : k < l.length
  · have := h l[k] (List.getElem_mem hk)
    simpa [List.getD, hk] using this
  · simp [List.getD, Nat.not_lt.1 hk]
end Go.Proofs.YtdioiepkbolnlaaGreatDoor
