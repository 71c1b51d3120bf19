/- What the statements' own helpers compute: things held against each other, numbers picked, the first command of each kind. In plain Lean. -/
import Derived.Test.YtdioiepkbolnlaaGreatDoorGc
import Derived.Test.YtdioiepkbolnlaaGreatDoorOb
set_option linter.unusedSimpArgs false
set_option linter.unusedVariables false
namespace Go.Proofs.YtdioiepkbolnlaaGreatDoor
open Go.RowKit
theorem tok_dec (a b : Token) : (((decide (a.ten = b.ten) && decide (a.id_ = b.id_)) && decide (a.mac = b.mac)) && decide (a.grs = b.grs)) = decide (a = b) := by
  cases a; cases b
  rw [Bool.eq_iff_iff]
  simp only [Bool.and_eq_true, decide_eq_true_eq, Token.mk.injEq]
  exact ⟨fun ⟨⟨⟨a, b⟩, c⟩, d⟩ => ⟨a, b, d, c⟩, fun ⟨a, b, d, c⟩ => ⟨⟨⟨a, b⟩, c⟩, d⟩⟩
theorem cmd_dec (a b : Command) : (((((((((decide (a.kind = b.kind) && decide (a.tok = b.tok)) && decide (a.str = b.str)) && decide (a.sub = b.sub)) && decide (a.exp = b.exp)) && decide (a.bod = b.bod)) && decide (a.fro = b.fro)) && decide (a.cnt = b.cnt)) && decide (a.gra = b.gra)) && decide (a.cid = b.cid)) = decide (a = b) := by
  cases a; cases b
  rw [Bool.eq_iff_iff]
  simp only [Bool.and_eq_true, decide_eq_true_eq, Command.mk.injEq]
  exact ⟨fun ⟨⟨⟨⟨⟨⟨⟨⟨⟨a, b⟩, c⟩, d⟩, e⟩, f⟩, g⟩, h⟩, i⟩, j⟩ => ⟨a, b, c, d, e, f, g, h, i, j⟩, fun ⟨a, b, c, d, e, f, g, h, i, j⟩ => ⟨⟨⟨⟨⟨⟨⟨⟨⟨a, b⟩, c⟩, d⟩, e⟩, f⟩, g⟩, h⟩, i⟩, j⟩⟩
theorem shown_dec (a b : Shown) : (((((decide (a.str = b.str) && decide (a.sub = b.sub)) && decide (a.ver = b.ver)) && decide (a.pos = b.pos)) && decide (a.code = b.code)) && decide (a.body = b.body)) = decide (a = b) := by
  cases a; cases b
  rw [Bool.eq_iff_iff]
  simp only [Bool.and_eq_true, decide_eq_true_eq, Shown.mk.injEq]
  exact ⟨fun ⟨⟨⟨⟨⟨a, b⟩, c⟩, d⟩, e⟩, f⟩ => ⟨a, b, c, d, e, f⟩, fun ⟨a, b, c, d, e, f⟩ => ⟨⟨⟨⟨⟨a, b⟩, c⟩, d⟩, e⟩, f⟩⟩
theorem ans_dec (a b : Answer) : ((((decide (a.code = b.code) && decide (a.num = b.num)) && decide (a.shown = b.shown)) && decide (a.tok = b.tok)) && decide (a.ents = b.ents)) = decide (a = b) := by
  cases a; cases b
  rw [Bool.eq_iff_iff]
  simp only [Bool.and_eq_true, decide_eq_true_eq, Answer.mk.injEq]
  exact ⟨fun ⟨⟨⟨⟨a, b⟩, c⟩, d⟩, e⟩ => ⟨a, b, c, d, e⟩, fun ⟨a, b, c, d, e⟩ => ⟨⟨⟨⟨a, b⟩, c⟩, d⟩, e⟩⟩
/-! #### numbers picked -/
def pickR (v n : Int) : Int := if Int.tmod v n < 0 then Int.tmod v n + n else Int.tmod v n
def pickF (v n : Int) : Int := if n < 1 then 0 else pickR v n
theorem tmod_in (v n : Int) (h : 0 < n) : -n < Int.tmod v n ∧ Int.tmod v n < n := by
  refine ⟨?_, Int.tmod_lt_of_pos v h⟩
  have h1 : Int.tmod (-v) n < n := Int.tmod_lt_of_pos (-v) h
  rw [Int.neg_tmod] at h1
  omega
theorem pickF_in (v n : Int) (h : 0 < n) : 0 ≤ pickF v n ∧ pickF v n < n := by
  have := tmod_in v n h
  unfold pickF pickR
  rw [if_neg (by omega)]
  split <;> omega
/-! #### rows of bytes -/
def rowOne (k : Nat) : UInt8 := u8w (IntKind.u8.wrap (Int.tmod (7 + (k : Int)) 251))
def rowK (n : Nat) : List UInt8 := (List.range n).map rowOne
theorem rowK_step (k : Nat) : rowK k ++ [rowOne k] = rowK (k + 1) := by unfold rowK; rw [List.range_succ, List.map_append]; rfl
theorem rowK_length (n : Nat) : (rowK n).length = n := by simp [rowK]
/-! #### the fields of kinds, as the document has them -/
def hasTab : List (List Int) := [[], [0, 1, 2, 3], [0, 4, 5], [4, 5], [1], [6], [7], [4, 5], [4]]
def hasK (kind field : Int) : Bool := (hasTab.getD kind.toNat []).any fun x => decide (x = field)
theorem hasK_hit {l : List Int} {k : Nat} {f : Int} (hk : (k : Int) < l.length) (h : l.getD k 0 = f) : true = l.any fun x => decide (x = f) := by
  have hk : k < l.length := by omega
  refine (List.any_eq_true.2 ⟨l[k], List.getElem_mem hk, ?_⟩).symm
  have : l.getD k 0 = l[k] := by simp [List.getD, hk]
  rw [← this, h]; simp
theorem hasK_none {l : List Int} {k : Nat} {f : Int} (h : (l.take k).any (fun x => decide (x = f)) = false) (hk : ¬ (k : Int) < l.length) : false = l.any fun x => decide (x = f) := by
  rw [List.take_of_length_le (by omega)] at h; exact h.symm
def sLog : ByteArray := ⟨#[108, 111, 103]⟩
def sBob : ByteArray := ⟨#[98, 111, 98]⟩
def ask0 (k : Int) : Command := { zCommandV with kind := k }
def ask1 (k : Int) : Command := cond (hasK k 0) { ask0 k with str := sLog } (ask0 k)
def ask2 (k : Int) : Command := cond (hasK k 1) { ask1 k with sub := sBob } (ask1 k)
def ask3 (k : Int) : Command := cond (hasK k 3) { ask2 k with bod := [rowK 3] } (ask2 k)
def ask4 (k : Int) : Command := cond (hasK k 4) { ask3 k with fro := 1 } (ask3 k)
def ask5 (k : Int) : Command := cond (hasK k 6) { ask4 k with gra := ⟨2, sLog, false, 0⟩ } (ask4 k)
def askF (k : Int) : Command := cond (hasK k 7) { ask5 k with cid := 2 } (ask5 k)
/-! #### the chapter's append -/
def app1 : Command := ⟨1, zTokenV, sLog, sBob, -1, [[7]], 0, 0, zGrantV, 0⟩
def fol1 : Command := ⟨8, zTokenV, ⟨#[]⟩, ⟨#[]⟩, 0, [], 1, 0, zGrantV, 0⟩
def kind9 : Command := ⟨9, zTokenV, ⟨#[]⟩, ⟨#[]⟩, 0, [], 0, 0, zGrantV, 0⟩
theorem cmdB_len (c : Command) : (cmdB c).length = 120 + tokN c.tok + c.str.size + c.sub.size + (c.bod.flatMap blob).length + c.gra.pre.size := by
  simp only [cmdB, List.length_append, num8_length, txt_length, rowsB_length, tokB_length]; omega
theorem put_len {c : Command} (hm : c.tok.mac.length = 32) : (if checkC c = 0 then cmdB c else []).length ≤ 35184372088832 := by
  split
  · rename_i h
    have hf := checkC_fit h
    have h1 := tokN_le hf.tok hm
    have := hf.str; have := hf.sub; have := hf.bodB; have := hf.pre
    rw [cmdB_len]; omega
  · simp
theorem put_le {c : Command} (hm : c.tok.mac.length = 32) (h : checkC c = 0) : (cmdB c).length ≤ 32768 := by
  have hf := checkC_fit h
  have h1 := tokN_le hf.tok hm
  have := hf.str; have := hf.sub; have := hf.bodB; have := hf.pre
  rw [cmdB_len]; omega
theorem ansB_len (a : Answer) : (ansB a).length = 56 + tokN a.tok + (a.shown.flatMap shownB).length + (a.ents.flatMap entryB).length := by
  simp only [ansB, List.length_append, num8_length, rowsB_length, tokB_length]; omega
theorem puta_le {a : Answer} (hm : a.tok.mac.length = 32) (hs : ∀ e ∈ a.ents, e.sum.length = 32) (h : checkA a = 0) : (ansB a).length ≤ 32768 := by
  have hf := checkA_fit h
  have h1 := tokN_le hf.tok hm
  have := hf.shownB; have := hf.entsB hs
  rw [ansB_len]; omega
theorem puta_len {a : Answer} (hm : a.tok.mac.length = 32) (hs : ∀ e ∈ a.ents, e.sum.length = 32) : (if checkA a = 0 then ansB a else []).length ≤ 35184372088832 := by
  split
  · rename_i h
    have := puta_le hm hs h; omega
  · simp
theorem app1_ok : checkC app1 = 0 := by decide +kernel
theorem fol1_ok : checkC fol1 = 0 := by decide +kernel
theorem kind9_no : checkC kind9 = 2 := by decide +kernel
theorem zAns_ok : checkA zAnswerV = 0 := by decide +kernel
theorem zTok_in : TIn zTokenV := ⟨⟨by decide, by decide⟩, fun g hg => (by cases hg), rfl⟩
theorem zGr_in : GIn zGrantV := ⟨⟨by decide, by decide⟩, ⟨by decide, by decide⟩⟩
theorem app1_in : CIn app1 := ⟨⟨by decide, by decide⟩, zTok_in, ⟨by decide, by decide⟩, ⟨by decide, by decide⟩, ⟨by decide, by decide⟩, zGr_in, ⟨by decide, by decide⟩, fun b hb => by rw [List.mem_singleton.1 (show b ∈ [[7]] from hb)]; decide⟩
theorem works_ok : (((((((decide (checkC app1 = 0) && decide (getE (if checkC app1 = 0 then cmdB app1 else []) = 0)) && decide (getV (if checkC app1 = 0 then cmdB app1 else []) = app1)) && decide (checkC fol1 = 0)) && decide (((if checkC fol1 = 0 then cmdB fol1 else []).length : Int) = 152)) && decide (checkA zAnswerV = 0)) && decide (((if checkA zAnswerV = 0 then ansB zAnswerV else []).length : Int) = 88)) && decide (checkC kind9 = 2)) = true := by
  rw [if_pos app1_ok, if_pos fol1_ok, if_pos zAns_ok, (get_put app1_ok app1_in).1, (get_put app1_ok app1_in).2, app1_ok, fol1_ok, zAns_ok, kind9_no, cmdB_len, ansB_len]
  decide +kernel
/-! #### what is too great to be gone through -/
theorem any_hit {α : Type} {p : α → Bool} {l : List α} {k : Nat} {d : α} (hk : (k : Int) < l.length) (hp : p (l.getD k d) = true) : l.any p = true := by
  have hk : k < l.length := by omega
  refine List.any_eq_true.2 ⟨l[k], List.getElem_mem hk, ?_⟩
  have : l.getD k d = l[k] := by simp [List.getD, hk]
  rw [← this]; exact hp
theorem any_none {α : Type} {p : α → Bool} {l : List α} {k : Nat} (h : (l.take k).any p = false) (hk : ¬ (k : Int) < l.length) : l.any p = false := by
  rw [List.take_of_length_le (by omega)] at h; exact h
def wideG (g : Grant) : Bool := decide (4096 < (g.pre.size : Int))
def wideT (t : Token) : Bool := decide (40 < (t.grs.length : Int)) || decide (4096 < (t.ten.size : Int)) || t.grs.any wideG
theorem wide_yes {t : Token} (h : 40 < (t.grs.length : Int) ∨ 4096 < (t.ten.size : Int)) : true = wideT t := by
  unfold wideT; rcases h with h | h <;> simp [h]
theorem wide_hit {t : Token} {k : Nat} (hk : (k : Int) < t.grs.length) (h : 4096 < ((t.grs.getD k zGrantV).pre.size : Int)) : true = wideT t := by
  unfold wideT; rw [any_hit (p := wideG) (d := zGrantV) hk (by simpa [wideG] using h)]; simp
theorem wide_no {t : Token} {k : Nat} (h : ¬ 40 < (t.grs.length : Int) ∧ ¬ 4096 < (t.ten.size : Int)) (ht : (t.grs.take k).any wideG = false) (hk : ¬ (k : Int) < t.grs.length) : false = wideT t := by
  unfold wideT; rw [any_none ht hk]; simp; omega
theorem wideG_step {t : Token} {k : Nat} (h : (t.grs.take k).any wideG = false) (hk : (k : Int) < t.grs.length) (hp : ¬ 4096 < ((t.grs.getD k zGrantV).pre.size : Int)) : (t.grs.take (k + 1)).any wideG = false := any_take_step (d := zGrantV) h (by omega) (by simpa [wideG] using hp)
end Go.Proofs.YtdioiepkbolnlaaGreatDoor
