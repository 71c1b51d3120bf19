/- What is wrong with grants, commands, answers: in plain Lean. -/
import Derived.Test.YtdioiepkbolnlaaGreatDoorEq
set_option linter.unusedSimpArgs false
set_option linter.unusedVariables false
namespace Go.Proofs.YtdioiepkbolnlaaGreatDoor
open Go.RowKit
def grantOk (g : Grant) : Int := if (decide (g.rts < 1) || decide (127 < g.rts) || (decide (g.unt < 0) || decide (1099511627776 < g.unt)) || (g.exa && decide (g.pre = ⟨#[]⟩))) = true then 1 else if preOk g.pre then 0 else 10
def longS (s : ByteArray) : Bool := decide (24 < (s.size : Int))
def great (b : List UInt8) : Bool := decide (256 < (b.length : Int))
def longG (g : Grant) : Bool := longS g.pre
def longT (t : Token) : Bool := longS t.ten || t.grs.any longG
def oddN (must : Bool) (n lo hi : Int) : Bool := must && (decide (n < lo) || decide (hi < n))
def unnamed (must : Bool) (s : ByteArray) : Bool := (must || decide (¬ s = ⟨#[]⟩)) && !nameOk s
def hasF (all f : Int) : Bool := decide (¬ bits .and .u64 all f = 0)
def givenK (l : List Bool) : Nat → Int
  | 0 => 0
  | k + 1 => if l.getD k false then bits .or .u64 (givenK l k) (IntKind.u64.wrap (1 * 2 ^ k)) else givenK l k
def flags (c : Command) : List Bool := [decide (¬ c.str = ⟨#[]⟩), decide (¬ c.sub = ⟨#[]⟩), decide (¬ c.exp = 0), decide (0 < (c.bod.length : Int)), decide (¬ c.fro = 0), decide (¬ c.cnt = 0), !decide (c.gra = zGrantV), decide (¬ c.cid = 0)]
def givenF (c : Command) : Int := givenK (flags c) 8
def allF (c : Command) : Int := ofTab.getD c.kind.toNat 0
def badArg (c : Command) : Bool := oddN (hasF (allF c) 4) c.exp (-1) 1000 || (oddN (hasF (allF c) 16) c.fro 1 1099511627776 || (oddN (hasF (allF c) 32) c.cnt 0 64 || (oddN (hasF (allF c) 128) c.cid 1 1099511627776 || (hasF (allF c) 8 && decide ((c.bod.length : Int) = 0)))))
def checkC (c : Command) : Int :=
  if (decide (c.kind < 1) || decide (8 < c.kind)) = true then 2
  else if (unnamed (hasF (allF c) 1) c.str || unnamed (hasF (allF c) 2) c.sub) = true then 10
  else if badArg c = true then 1
  else if (decide (4 < (c.bod.length : Int)) || decide (6 < (c.tok.grs.length : Int))) = true then 3
  else if (c.bod.any great || longT c.tok) = true then 5
  else if hasF (allF c) 64 = true ∧ ¬ grantOk c.gra = 0 then grantOk c.gra
  else if ¬ bits .andNot .u64 (givenF c) (allF c) = 0 then 11
  else 0
def longShown (s : Shown) : Bool := longS s.str || longS s.sub || great s.body
def longEntry (e : Entry) : Bool := longS e.str || longS e.sub
def checkA (a : Answer) : Int :=
  if (decide (64 < (a.shown.length : Int)) || decide (64 < (a.ents.length : Int)) || decide (6 < (a.tok.grs.length : Int))) = true then 3
  else if (longT a.tok || a.shown.any longShown || a.ents.any longEntry) = true then 5
  else 0
theorem given_on {l : List Bool} {k : Nat} (h : l.getD k false = true) : bits .or .u64 (givenK l k) (IntKind.u64.wrap (1 * 2 ^ ((k : Int)).toNat)) = givenK l (k + 1) := by
  rw [givenK, if_pos h]; rfl
theorem given_off {l : List Bool} {k : Nat} (h : l.getD k false = false) : givenK l k = givenK l (k + 1) := by
  rw [givenK, h]; rfl
theorem tok_mac {t : Token} {h : PH} {cs : List Value} (hk : kToken.K h t cs) : t.mac.length = 32 := by
  have hk : RowF h (kTokenF t) cs := hk
  obtain ⟨c, c1, c2, _, _, h2, _, _⟩ := hk.split 3 ((kArr 32 kU8).fp t.mac) rfl
  exact h2.1
theorem tok_mac_rep {t : Token} (h : PH) (v : Value) (e : (kToken.rep t).p h v) : t.mac.length = 32 := by
  obtain ⟨cs, _, hk⟩ := agg_of rfl e
  exact tok_mac hk
theorem cmd_mac (c : Command) (h : PH) (v : Value) (e : (kCommand.rep c).p h v) : c.tok.mac.length = 32 := by
  obtain ⟨cs, _, hk⟩ := agg_of rfl e
  have hk : RowF h (kCommandF c) cs.toList := hk
  obtain ⟨_, _, _, _, _, h2, _, _⟩ := hk.split 1 (kToken.fp c.tok) rfl
  exact tok_mac h2
theorem rows_all {α : Type} {K : α → List Value → Prop} {xs : List α} {cs : List Value} (r : Rows K xs cs) : ∀ x ∈ xs, ∃ c, K x c := by
  induction r with
  | nil => intro x hx; cases hx
  | cons hx _ ih =>
    intro y hy
    rcases List.mem_cons.1 hy with rfl | hy
    · exact ⟨_, hx⟩
    · exact ih y hy
theorem ans_mac (a : Answer) (h : PH) (v : Value) (e : (kAnswer.rep a).p h v) : a.tok.mac.length = 32 ∧ ∀ x ∈ a.ents, x.sum.length = 32 := by
  obtain ⟨cs, _, hk⟩ := agg_of rfl e
  have hk : RowF h (kAnswerF a) cs.toList := hk
  obtain ⟨_, _, _, _, _, h2, _, _⟩ := hk.split 3 (kToken.fp a.tok) rfl
  refine ⟨tok_mac h2, fun x hx => ?_⟩
  obtain ⟨_, _, _, _, _, h3, _, _⟩ := hk.split 4 ((kSl kEntry).fp a.ents) rfl
  obtain ⟨A, c, _, _, _, h4⟩ := h3
  obtain ⟨_, ds, _, _, hr, _⟩ := h4 (List.length_pos_of_mem hx)
  obtain ⟨c', hc⟩ := rows_all hr x hx
  have hc : RowF h (kEntryF x) c' := hc
  obtain ⟨_, _, _, _, _, h5, _, _⟩ := hc.split 7 ((kArr 32 kU8).fp x.sum) rfl
  exact h5.1
/-! #### how long what passes is -/
theorem name_size {s : ByteArray} (h : nameOk s = true) : s.size ≤ 24 := by
  simp only [nameOk, Bool.and_eq_true, decide_eq_true_eq] at h
  have := h.1.1.2; omega
theorem empty_size {s : ByteArray} (h : s = ⟨#[]⟩) : s.size = 0 := by subst h; rfl
theorem pre_size {s : ByteArray} (h : preOk s = true) : s.size ≤ 24 := by
  simp only [preOk, Bool.or_eq_true, decide_eq_true_eq] at h
  rcases h with h | h
  · rw [empty_size h]; omega
  · exact name_size h
theorem unnamed_size {m : Bool} {s : ByteArray} (h : unnamed m s = false) : s.size ≤ 24 := by
  simp only [unnamed, Bool.and_eq_false_iff, Bool.or_eq_false_iff, decide_eq_false_iff_not, Decidable.not_not, Bool.not_eq_false'] at h
  rcases h with ⟨_, h⟩ | h
  · rw [empty_size h]; omega
  · exact name_size h
theorem grantOk_size {g : Grant} (h : grantOk g = 0) : g.pre.size ≤ 24 := by
  unfold grantOk at h
  split at h
  · cases h
  · split at h
    · rename_i h2; exact pre_size h2
    · cases h
theorem flat_bound {α : Type} (f : α → List UInt8) (n : Nat) : ∀ l : List α, (∀ x ∈ l, (f x).length ≤ n) → (l.flatMap f).length ≤ l.length * n
  | [], _ => by simp
  | a :: l, h => by
    have h1 := h a List.mem_cons_self
    have h2 := flat_bound f n l (fun x hx => h x (List.mem_cons_of_mem _ hx))
    rw [List.flatMap_cons, List.length_append, List.length_cons, Nat.add_mul]; omega
theorem longT_size {t : Token} (h : longT t = false) : t.ten.size ≤ 24 ∧ ∀ g ∈ t.grs, g.pre.size ≤ 24 := by
  simp only [longT, longS, Bool.or_eq_false_iff, decide_eq_false_iff_not] at h
  refine ⟨by have := h.1; omega, fun g hg => ?_⟩
  have := List.any_eq_false.1 h.2 g hg
  simp only [longG, longS, decide_eq_true_eq] at this
  omega
theorem tok_bound {t : Token} (h : longT t = false) (hg : t.grs.length ≤ 6) : t.ten.size + (t.grs.flatMap grantB).length ≤ 360 := by
  obtain ⟨h1, h2⟩ := longT_size h
  have := flat_bound grantB 56 t.grs (fun g hg => by rw [grantB_length]; have := h2 g hg; omega)
  have h3 : t.grs.length * 56 ≤ 6 * 56 := Nat.mul_le_mul_right _ hg
  omega
theorem foreign_grant : ∀ f0 f1 f2 f3 f4 f5 f6 f7 : Bool, ∀ n : Fin 9, bits .andNot .u64 (givenK [f0, f1, f2, f3, f4, f5, f6, f7] 8) (ofTab.getD n.val 0) = 0 → hasF (ofTab.getD n.val 0) 64 = false → f6 = false := by
  intro f0 f1 f2 f3 f4 f5 f6 f7
  cases f6
  · intro _ _ _; rfl
  · cases f0 <;> cases f1 <;> cases f2 <;> cases f3 <;> cases f4 <;> cases f5 <;> cases f7 <;> decide
structure Fit (c : Command) : Prop where
  str : c.str.size ≤ 24
  sub : c.sub.size ≤ 24
  bod : c.bod.length ≤ 4
  bodB : (c.bod.flatMap blob).length ≤ 1056
  grs : c.tok.grs.length ≤ 6
  tok : c.tok.ten.size + (c.tok.grs.flatMap grantB).length ≤ 360
  pre : c.gra.pre.size ≤ 24
theorem checkC_fit {c : Command} (h : checkC c = 0) : Fit c := by
  unfold checkC at h
  split at h
  · cases h
  rename_i k1
  split at h
  · cases h
  rename_i k2
  split at h
  · cases h
  rename_i k3
  split at h
  · cases h
  rename_i k4
  split at h
  · cases h
  rename_i k5
  simp only [Bool.not_eq_true, Bool.or_eq_false_iff, decide_eq_false_iff_not] at k1 k2 k4 k5
  have hb : ∀ b ∈ c.bod, b.length ≤ 256 := fun b hb => by
    have := List.any_eq_false.1 k5.1 b hb
    simp only [great, decide_eq_true_eq] at this
    omega
  have hn : c.bod.length ≤ 4 := by omega
  have hg : c.tok.grs.length ≤ 6 := by omega
  have hbb := flat_bound blob 264 c.bod (fun b hb' => by rw [blob_length]; have := hb b hb'; omega)
  have h3 : c.bod.length * 264 ≤ 4 * 264 := Nat.mul_le_mul_right _ hn
  refine ⟨unnamed_size k2.1, unnamed_size k2.2, hn, by omega, hg, tok_bound k5.2 hg, ?_⟩
  split at h
  · rename_i k6; exact absurd h k6.2
  rename_i k6
  split at h
  · cases h
  rename_i k7
  by_cases hh : hasF (allF c) 64 = true
  · exact grantOk_size (Decidable.not_not.1 (fun e => k6 ⟨hh, e⟩))
  · have hk : c.kind.toNat < 9 := by omega
    have := foreign_grant (decide (¬ c.str = ⟨#[]⟩)) (decide (¬ c.sub = ⟨#[]⟩)) (decide (¬ c.exp = 0)) (decide (0 < (c.bod.length : Int))) (decide (¬ c.fro = 0)) (decide (¬ c.cnt = 0)) (!decide (c.gra = zGrantV)) (decide (¬ c.cid = 0)) ⟨c.kind.toNat, hk⟩ (Decidable.not_not.1 k7) (by simpa [allF] using hh)
    have hz : c.gra = zGrantV := by simpa using this
    rw [hz]; decide
structure FitA (a : Answer) : Prop where
  shown : a.shown.length ≤ 64
  ents : a.ents.length ≤ 64
  grs : a.tok.grs.length ≤ 6
  shownB : (a.shown.flatMap shownB).length ≤ 64 * 352
  entsB : (∀ x ∈ a.ents, x.sum.length = 32) → (a.ents.flatMap entryB).length ≤ 64 * 136
  tok : a.tok.ten.size + (a.tok.grs.flatMap grantB).length ≤ 360
theorem checkA_fit {a : Answer} (h : checkA a = 0) : FitA a := by
  unfold checkA at h
  split at h
  · cases h
  rename_i k1
  split at h
  · cases h
  rename_i k2
  simp only [Bool.not_eq_true, Bool.or_eq_false_iff, decide_eq_false_iff_not] at k1 k2
  have hs : a.shown.length ≤ 64 := by omega
  have he : a.ents.length ≤ 64 := by omega
  have hg : a.tok.grs.length ≤ 6 := by omega
  refine ⟨hs, he, hg, ?_, fun hsum => ?_, tok_bound k2.1.1 hg⟩
  · have := flat_bound shownB 352 a.shown (fun x hx => by
      have := List.any_eq_false.1 k2.1.2 x hx
      simp only [longShown, longS, great, Bool.or_eq_true, decide_eq_true_eq] at this
      rw [shownB_length]; omega)
    exact Nat.le_trans this (Nat.mul_le_mul_right 352 hs)
  · have := flat_bound entryB 136 a.ents (fun x hx => by
      have := List.any_eq_false.1 k2.2 x hx
      simp only [longEntry, longS, Bool.or_eq_true, decide_eq_true_eq] at this
      rw [entryB_length, hsum x hx]; omega)
    exact Nat.le_trans this (Nat.mul_le_mul_right 136 he)
theorem tokB_length (t : Token) : (tokB t).length = 24 + tokN t := by simp only [tokB, tokN, List.length_append, num8_length, txt_length]; omega
theorem rowsB_length {α : Type} (f : α → List UInt8) (l : List α) : (rowsB f l).length = 8 + (l.flatMap f).length := by simp only [rowsB, List.length_append, num8_length]
theorem tokN_le {t : Token} (h : t.ten.size + (t.grs.flatMap grantB).length ≤ 360) (hm : t.mac.length = 32) : tokN t ≤ 392 := by unfold tokN; omega
end Go.Proofs.YtdioiepkbolnlaaGreatDoor
