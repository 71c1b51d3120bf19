/- Which fields a kind has, and what tokens may be, as the statements ask it: in plain Lean. -/
import Derived.Test.YtdioiepkbolnlaaGreatDoorKt
set_option linter.unusedSimpArgs false
set_option linter.unusedVariables false
namespace Go.Proofs.YtdioiepkbolnlaaGreatDoor
open Go.RowKit
/-! #### fields -/
def suebTab : ByteArray := ⟨#[115, 117, 101, 98, 102, 99, 103, 105]⟩
def letterOf (field : Int) : UInt8 := suebTab.data.toList.getD (pickF field 8).toNat 0
def rowsTab : List ByteArray := [⟨#[]⟩, ⟨#[115, 117, 101, 98]⟩, ⟨#[115, 102, 99]⟩, ⟨#[102, 99]⟩, ⟨#[117]⟩, ⟨#[103]⟩, ⟨#[105]⟩, ⟨#[102, 99]⟩, ⟨#[102]⟩]
theorem rows_small (n : Nat) : (rowsTab.getD n ⟨#[]⟩).size ≤ 4 := by
  match n with
  | 0 | 1 | 2 | 3 | 4 | 5 | 6 | 7 | 8 => decide
  | n + 9 => simp [rowsTab]; decide
def isL (x : UInt8) (y : UInt8) : Bool := decide ((y.toNat : Int) = (x.toNat : Int))
def setF (c : Command) (x n : Int) : Command :=
  if x = 115 then { c with str := ⟨#[111, 112, 101, 110]⟩ } else if x = 117 then { c with sub := ⟨#[99, 105, 100]⟩ } else if x = 101 then { c with exp := n }
  else if x = 98 then { c with bod := [[1], []] } else if x = 102 then { c with fro := n } else if x = 99 then { c with cnt := n } else if x = 103 then { c with gra := ⟨n, ⟨#[]⟩, false, 0⟩ } else if x = 105 then { c with cid := n } else c
theorem getD_list {α : Type} {l : List α} {k : Nat} {d e : α} (h : k < l.length) : l.getD k d = l.getD k e := by simp [List.getD, h]
theorem getD_in {α : Type} {l : List α} {k : Nat} {d : α} (h : k < l.length) : l.getD k d = l[k] := by simp [List.getD, h]
theorem isL_step {s : ByteArray} {k : Nat} {x : UInt8} (hk : (k : Int) < s.size) : ((s.data.toList.take k).any (isL x) || decide (((s.data.toList.getD k 0).toNat : Int) = (x.toNat : Int))) = (s.data.toList.take (k + 1)).any (isL x) := by
  have h : k < s.data.toList.length := by rw [chars_length]; omega
  rw [List.take_succ_eq_append_getElem h, List.any_append]
  have : s.data.toList.getD k 0 = s.data.toList[k] := getD_in h
  rw [this]
  simp [isL]
theorem oddN_in {n lo hi a : Int} (h : lo ≤ n ∧ n ≤ hi) (ha : lo ≤ a ∧ a ≤ hi) (m : Bool) : oddN m n lo hi = oddN m a lo hi := by
  unfold oddN
  rw [decide_eq_false (by omega : ¬ n < lo), decide_eq_false (by omega : ¬ hi < n), decide_eq_false (by omega : ¬ a < lo), decide_eq_false (by omega : ¬ hi < a)]
theorem ne0 {n : Int} (h : 1 ≤ n) : decide (¬ n = 0) = decide (¬ (1 : Int) = 0) := by rw [decide_eq_true (by omega : ¬ n = 0)]; rfl
theorem check_exp (c : Command) (n : Int) (h : 1 ≤ n ∧ n ≤ 64) : checkC { c with exp := n } = checkC { c with exp := 1 } := by
  unfold checkC badArg givenF flags allF
  dsimp only
  rw [oddN_in (n := n) (lo := -1) (hi := 1000) (a := 1) (by omega) (by omega), ne0 h.1]
theorem check_fro (c : Command) (n : Int) (h : 1 ≤ n ∧ n ≤ 64) : checkC { c with fro := n } = checkC { c with fro := 1 } := by
  unfold checkC badArg givenF flags allF
  dsimp only
  rw [oddN_in (n := n) (lo := 1) (hi := 1099511627776) (a := 1) (by omega) (by omega), ne0 h.1]
theorem check_cnt (c : Command) (n : Int) (h : 1 ≤ n ∧ n ≤ 64) : checkC { c with cnt := n } = checkC { c with cnt := 1 } := by
  unfold checkC badArg givenF flags allF
  dsimp only
  rw [oddN_in (n := n) (lo := 0) (hi := 64) (a := 1) (by omega) (by omega), ne0 h.1]
theorem check_cid (c : Command) (n : Int) (h : 1 ≤ n ∧ n ≤ 64) : checkC { c with cid := n } = checkC { c with cid := 1 } := by
  unfold checkC badArg givenF flags allF
  dsimp only
  rw [oddN_in (n := n) (lo := 1) (hi := 1099511627776) (a := 1) (by omega) (by omega), ne0 h.1]
theorem check_gra (c : Command) (n : Int) (h : 1 ≤ n ∧ n ≤ 64) : checkC { c with gra := ⟨n, ⟨#[]⟩, false, 0⟩ } = checkC { c with gra := ⟨1, ⟨#[]⟩, false, 0⟩ } := by
  have e1 : grantOk ⟨n, ⟨#[]⟩, false, 0⟩ = grantOk ⟨1, ⟨#[]⟩, false, 0⟩ := by
    unfold grantOk
    rw [decide_eq_false (by show ¬ n < 1; omega : ¬ (⟨n, ⟨#[]⟩, false, 0⟩ : Grant).rts < 1), decide_eq_false (by show ¬ 127 < n; omega : ¬ 127 < (⟨n, ⟨#[]⟩, false, 0⟩ : Grant).rts)]
    rfl
  have e2 : decide ((⟨n, ⟨#[]⟩, false, 0⟩ : Grant) = zGrantV) = decide ((⟨1, ⟨#[]⟩, false, 0⟩ : Grant) = zGrantV) := by
    rw [decide_eq_false (by simp [zGrantV]; omega : ¬ (⟨n, ⟨#[]⟩, false, 0⟩ : Grant) = zGrantV)]; rfl
  unfold checkC badArg givenF flags allF
  dsimp only
  rw [e1, e2]
theorem setF_one (c : Command) (x n : Int) (h : 1 ≤ n ∧ n ≤ 64) : checkC (setF c x n) = checkC (setF c x 1) := by
  unfold setF
  repeat' split
  · rfl
  · rfl
  · exact check_exp c n h
  · rfl
  · exact check_fro c n h
  · exact check_cnt c n h
  · exact check_gra c n h
  · exact check_cid c n h
  · rfl
theorem asked_all : ∀ k : Fin 8, checkC (askF (1 + (k.val : Int))) = 0 := by decide +kernel
theorem fields_all : ∀ k : Fin 8, ∀ j : Fin 8, checkC (setF (askF (1 + (k.val : Int))) ((suebTab.data.toList.getD j.val 0).toNat : Int) 1) = if (rowsTab.getD (1 + (k.val : Int)).toNat ⟨#[]⟩).data.toList.any (isL (suebTab.data.toList.getD j.val 0)) = true then 0 else 11 := by decide +kernel
theorem pick_fin (v : Int) : ∃ k : Fin 8, pickF v 8 = (k.val : Int) := by
  have h := pickF_in v 8 (by decide)
  exact ⟨⟨(pickF v 8).toNat, by omega⟩, by show _ = (((pickF v 8).toNat : Nat) : Int); omega⟩
theorem asked_ok (v : Int) : checkC (askF (1 + pickF v 8)) = 0 := by
  obtain ⟨k, hk⟩ := pick_fin v
  rw [hk]; exact asked_all k
theorem fields_ok (v f n : Int) (h : 1 ≤ n ∧ n ≤ 64) : checkC (setF (askF (1 + pickF v 8)) ((letterOf f).toNat : Int) n) = if (rowsTab.getD (1 + pickF v 8).toNat ⟨#[]⟩).data.toList.any (isL (letterOf f)) = true then 0 else 11 := by
  obtain ⟨k, hk⟩ := pick_fin v
  obtain ⟨j, hj⟩ := pick_fin f
  unfold letterOf
  rw [setF_one _ _ _ h, hk, hj, Int.toNat_natCast]
  exact fields_all k j
theorem letterIn (f : Int) : ((letterOf f).toNat : Int) = 115 ∨ ((letterOf f).toNat : Int) = 117 ∨ ((letterOf f).toNat : Int) = 101 ∨ ((letterOf f).toNat : Int) = 98 ∨ ((letterOf f).toNat : Int) = 102 ∨ ((letterOf f).toNat : Int) = 99 ∨ ((letterOf f).toNat : Int) = 103 ∨ ((letterOf f).toNat : Int) = 105 := by
  obtain ⟨j, hj⟩ := pick_fin f
  unfold letterOf
  rw [hj, Int.toNat_natCast]
  exact (show ∀ j : Fin 8, ((suebTab.data.toList.getD j.val 0).toNat : Int) = 115 ∨ ((suebTab.data.toList.getD j.val 0).toNat : Int) = 117 ∨ ((suebTab.data.toList.getD j.val 0).toNat : Int) = 101 ∨ ((suebTab.data.toList.getD j.val 0).toNat : Int) = 98 ∨ ((suebTab.data.toList.getD j.val 0).toNat : Int) = 102 ∨ ((suebTab.data.toList.getD j.val 0).toNat : Int) = 99 ∨ ((suebTab.data.toList.getD j.val 0).toNat : Int) = 103 ∨ ((suebTab.data.toList.getD j.val 0).toNat : Int) = 105 from by decide +kernel) j
/-! #### tokens -/
def askT (kind : Int) (t : Token) : Command := { askF (1 + pickF kind 8) with tok := t }
def ansT (t : Token) : Answer := ⟨0, 0, [], t, []⟩
def wantL (t : Token) (k : Nat) : Int := if (decide (24 < (t.ten.size : Int)) || (t.grs.take k).any longG) = true then 5 else 0
def wantT (t : Token) : Int := if 6 < (t.grs.length : Int) then 3 else wantL t t.grs.length
theorem wantL_yes {t : Token} (h : 24 < (t.ten.size : Int)) (k : Nat) : (5 : Int) = wantL t k := by unfold wantL; rw [if_pos (by simp [h])]
theorem wantL_no {t : Token} (h : ¬ 24 < (t.ten.size : Int)) : (0 : Int) = wantL t 0 := by unfold wantL; rw [if_neg (by simp; omega)]
theorem wantL_hit {t : Token} {k : Nat} (hk : (k : Int) < t.grs.length) (h : 24 < ((t.grs.getD k zGrantV).pre.size : Int)) : (5 : Int) = wantL t (k + 1) := by
  have hk : k < t.grs.length := by omega
  have e : t.grs.getD k zGrantV = t.grs[k] := by simp [List.getD, hk]
  rw [e] at h
  unfold wantL
  rw [List.take_succ_eq_append_getElem hk, List.any_append, if_pos]
  simp [longG, longS, h]
theorem wantL_step {t : Token} {k : Nat} (hk : (k : Int) < t.grs.length) (h : ¬ 24 < ((t.grs.getD k zGrantV).pre.size : Int)) : wantL t k = wantL t (k + 1) := by
  have hk : k < t.grs.length := by omega
  have e : t.grs.getD k zGrantV = t.grs[k] := by simp [List.getD, hk]
  rw [e] at h
  unfold wantL
  rw [List.take_succ_eq_append_getElem hk, List.any_append]
  have : longG t.grs[k] = false := by simp only [longG, longS, decide_eq_false_iff_not]; exact h
  simp [this]
theorem wantT_many {t : Token} (h : 6 < (t.grs.length : Int)) : (3 : Int) = wantT t := (if_pos h).symm
theorem wantT_rest {t : Token} {k : Nat} (h : ¬ 6 < (t.grs.length : Int)) (hk : k = t.grs.length) : wantL t k = wantT t := by rw [hk]; exact (if_neg h).symm
theorem wantL_all (t : Token) : wantL t t.grs.length = if longT t = true then 5 else 0 := by unfold wantL; rw [List.take_length]; rfl
/-- What a check of the rest of a command says with some other token. -/
theorem check_tok (c : Command) (t : Token) (h : checkC c = 0) (hb : c.tok.grs.length ≤ 6) : checkC { c with tok := t } = wantT t := by
  have e : checkC { c with tok := t } = if (decide (c.kind < 1) || decide (8 < c.kind)) = true then 2
    else if (unnamed (hasF (allF c) 1) c.str || unnamed (hasF (allF c) 2) c.sub) = true then 10
    else if badArg c = true then 1
    else if (decide (4 < (c.bod.length : Int)) || decide (6 < (t.grs.length : Int))) = true then 3
    else if (c.bod.any great || longT t) = true then 5
    else if hasF (allF c) 64 = true ∧ ¬ grantOk c.gra = 0 then grantOk c.gra
    else if ¬ bits .andNot .u64 (givenF c) (allF c) = 0 then 11
    else 0 := rfl
  unfold wantT
  rw [wantL_all, e]
  unfold checkC at h
  split at h
  · cases h
  rename_i k1
  split at h
  · cases h
  rename_i k2
  split at h
  · cases h
  rename_i k3
  split at h
  · cases h
  rename_i k4
  split at h
  · cases h
  rename_i k5
  split at h
  · rename_i k6; exact absurd h k6.2
  rename_i k6
  split at h
  · cases h
  rename_i k7
  rw [if_neg k1, if_neg k2, if_neg k3]
  simp only [Bool.not_eq_true, Bool.or_eq_false_iff] at k4 k5
  rw [k4.1, k5.1]
  by_cases g1 : 6 < (t.grs.length : Int)
  · rw [if_pos g1, if_pos (by simp; omega)]
  · rw [if_neg g1, if_neg (by simp; omega)]
    by_cases g2 : longT t = true
    · rw [if_pos g2, if_pos (by simp [g2])]
    · rw [if_neg g2, if_neg (by simpa using g2), if_neg k6, if_neg k7]
theorem ask_tok (k : Int) : (askF k).tok = zTokenV := by
  unfold askF ask5 ask4 ask3 ask2 ask1 ask0
  cases hasK k 0 <;> cases hasK k 1 <;> cases hasK k 3 <;> cases hasK k 4 <;> cases hasK k 6 <;> cases hasK k 7 <;> rfl
theorem askT_want (kind : Int) (t : Token) : checkC (askT kind t) = wantT t := check_tok _ t (asked_ok kind) (by rw [ask_tok]; decide)
theorem ansT_want (t : Token) : checkA (ansT t) = wantT t := by
  unfold wantT
  rw [wantL_all]
  unfold checkA ansT
  by_cases g1 : 6 < (t.grs.length : Int)
  · rw [if_pos g1, if_pos (by simp; omega)]
  · rw [if_neg g1, if_neg (by simp; omega)]
    by_cases g2 : longT t = true
    · rw [if_pos g2, if_pos (by simp [g2])]
    · rw [if_neg g2, if_neg (by simpa using g2)]
structure CIn0 (c : Command) : Prop where
  kind : In64 c.kind
  exp : In64 c.exp
  fro : In64 c.fro
  cnt : In64 c.cnt
  gra : GIn c.gra
  cid : In64 c.cid
theorem ask_bod (k : Int) : ∀ b ∈ (askF k).bod, b.length ≤ 140737488351232 := by
  have e : (askF k).bod = [] ∨ (askF k).bod = [rowK 3] := by
    unfold askF ask5 ask4 ask3 ask2 ask1 ask0
    cases hasK k 0 <;> cases hasK k 1 <;> cases hasK k 3 <;> cases hasK k 4 <;> cases hasK k 6 <;> cases hasK k 7 <;> first | exact .inl rfl | exact .inr rfl
  intro b hb
  rcases e with e | e <;> rw [e] at hb
  · cases hb
  · rw [List.mem_singleton.1 hb, rowK_length]; decide
theorem ask_in (k : Int) (hk : In64 k) : CIn0 (askF k) := by
  have z : In64 0 := ⟨by decide, by decide⟩
  have o : In64 1 := ⟨by decide, by decide⟩
  have w : In64 2 := ⟨by decide, by decide⟩
  unfold askF ask5 ask4 ask3 ask2 ask1 ask0
  cases hasK k 0 <;> cases hasK k 1 <;> cases hasK k 3 <;> cases hasK k 4 <;> cases hasK k 6 <;> cases hasK k 7 <;> exact ⟨hk, z, by first | exact z | exact o, z, by first | exact ⟨z, z⟩ | exact ⟨w, z⟩, by first | exact z | exact w⟩
theorem askT_in (kind : Int) {t : Token} (h : TIn t) : CIn (askT kind t) := by
  have hp := pickF_in kind 8 (by decide)
  have hc := ask_in (1 + pickF kind 8) ⟨by omega, by omega⟩
  exact ⟨hc.kind, h, hc.exp, hc.fro, hc.cnt, hc.gra, hc.cid, ask_bod _⟩
theorem token_back (kind : Int) {t : Token} (h : TIn t) (h0 : wantT t = 0) : getE (if checkC (askT kind t) = 0 then cmdB (askT kind t) else []) = 0 ∧ (getV (if checkC (askT kind t) = 0 then cmdB (askT kind t) else [])).tok = t := by
  have h1 : checkC (askT kind t) = 0 := (askT_want kind t).trans h0
  rw [if_pos h1, (get_put h1 (askT_in kind h)).1, (get_put h1 (askT_in kind h)).2]
  exact ⟨rfl, rfl⟩
theorem token_fin (kind : Int) {t : Token} (h : TIn t) : (((decide (checkC (askT kind t) = wantT t)) && ((decide (¬ wantT t = 0)) || ((decide (getE (if checkC (askT kind t) = 0 then cmdB (askT kind t) else []) = 0)) && (decide ((getV (if checkC (askT kind t) = 0 then cmdB (askT kind t) else [])).tok = t))))) && true) = true := by
  rw [decide_eq_true (askT_want kind t)]
  by_cases h0 : wantT t = 0
  · obtain ⟨h1, h2⟩ := token_back kind h h0
    rw [decide_eq_true h1, decide_eq_true h2, decide_eq_false (by simp [h0])]; rfl
  · rw [decide_eq_true h0]; rfl
theorem isL_end {s : ByteArray} {k : Nat} {x : UInt8} (hk : ¬ (k : Int) < s.size) : (s.data.toList.take k).any (isL x) = s.data.toList.any (isL x) := by
  rw [List.take_of_length_le (by rw [chars_length]; omega)]
end Go.Proofs.YtdioiepkbolnlaaGreatDoor
