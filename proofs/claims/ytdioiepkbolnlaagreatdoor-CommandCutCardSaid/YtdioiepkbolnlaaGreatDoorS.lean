/- What the program's functions compute, in plain Lean. -/
import Derived.Test.YtdioiepkbolnlaaGreatDoorNb
set_option linter.unusedSimpArgs false
set_option linter.unusedVariables false
namespace Go.Proofs.YtdioiepkbolnlaaGreatDoor
open Go.RowKit
/-! #### numbers as bytes -/
def num8 (v : Int) : List UInt8 := [u8w (v / 2 ^ 56), u8w (v / 2 ^ 48), u8w (v / 2 ^ 40), u8w (v / 2 ^ 32), u8w (v / 2 ^ 24), u8w (v / 2 ^ 16), u8w (v / 2 ^ 8), u8w v]
theorem num8_length (v : Int) : (num8 v).length = 8 := rfl
theorem u8w_wrap (n : Int) : u8w (IntKind.u8.wrap n) = u8w n := by
  unfold u8w
  rw [wrap_u8, Int.emod_emod_of_dvd _ (Int.dvd_refl _)]
def nums (k : Nat) (v : Int) : List UInt8 := List.replicate (8 - k) 0 ++ (num8 v).drop (8 - k)
theorem nums_step (k : Nat) (v : Int) (h : k < 8) : (nums k v).set (7 - k) (u8w (v / 2 ^ (8 * k))) = nums (k + 1) v := by
  match k, h with
  | 0, _ => simp [nums, num8]
  | 1, _ => simp [nums, num8]
  | 2, _ => simp [nums, num8]
  | 3, _ => simp [nums, num8]
  | 4, _ => simp [nums, num8]
  | 5, _ => simp [nums, num8]
  | 6, _ => simp [nums, num8]
  | 7, _ => simp [nums, num8]
theorem nums_all (v : Int) : nums 8 v = num8 v := by simp [nums]
abbrev chars (s : ByteArray) : List UInt8 := s.data.toList
theorem chars_length (s : ByteArray) : s.data.toList.length = s.size := by rw [Array.length_toList]; rfl
def txt (s : ByteArray) : List UInt8 := num8 s.size ++ s.data.toList
def blob (p : List UInt8) : List UInt8 := num8 p.length ++ p
theorem txt_length (s : ByteArray) : (txt s).length = 8 + s.size := by unfold txt; rw [List.length_append, num8_length, chars_length]
theorem blob_length (p : List UInt8) : (blob p).length = 8 + p.length := by unfold blob; rw [List.length_append, num8_length]
/-! #### lists that are gone through -/
theorem flat_step {α : Type} (f : α → List UInt8) (l : List α) (k : Nat) (d : α) (h : k < l.length) : (l.take (k + 1)).flatMap f = (l.take k).flatMap f ++ f (l.getD k d) := by
  rw [List.take_succ_eq_append_getElem h, List.flatMap_append]
  simp [List.getD, h]
theorem flat_le {α : Type} (f : α → List UInt8) (l : List α) (k : Nat) (d : α) (h : k < l.length) : ((l.take k).flatMap f).length + (f (l.getD k d)).length ≤ (l.flatMap f).length := by
  conv => rhs; rw [← List.take_append_drop (k + 1) l, List.flatMap_append]
  rw [List.length_append, flat_step f l k d h, List.length_append]; omega
theorem flat_take_le {α : Type} (f : α → List UInt8) (l : List α) (k : Nat) : ((l.take k).flatMap f).length ≤ (l.flatMap f).length := by
  conv => rhs; rw [← List.take_append_drop k l, List.flatMap_append]
  rw [List.length_append]; omega
theorem flat_num8 (l : List Int) : (l.flatMap num8).length = 8 * l.length := by
  induction l with
  | nil => rfl
  | cons a l ih => rw [List.flatMap_cons, List.length_append, ih, num8_length, List.length_cons]; omega
theorem size_of_chars (s : ByteArray) : s.data.size = s.size := rfl
/-! #### grants, tokens, commands, answers as bytes -/
def bit (b : Bool) : Int := if b then 1 else 0
def grantB (g : Grant) : List UInt8 := num8 g.rts ++ (txt g.pre ++ (num8 (bit g.exa) ++ num8 g.unt))
theorem grantB_length (g : Grant) : (grantB g).length = 32 + g.pre.size := by simp only [grantB, List.length_append, num8_length, txt_length]; omega
def tokB (t : Token) : List UInt8 := txt t.ten ++ (num8 t.id_ ++ (num8 t.grs.length ++ (t.grs.flatMap grantB ++ t.mac)))
def rowsB {α : Type} (f : α → List UInt8) (l : List α) : List UInt8 := num8 l.length ++ l.flatMap f
def cmdB (c : Command) : List UInt8 := num8 c.kind ++ (tokB c.tok ++ (txt c.str ++ (txt c.sub ++ (num8 c.exp ++ (rowsB blob c.bod ++ (num8 c.fro ++ (num8 c.cnt ++ (num8 c.gra.rts ++ (txt c.gra.pre ++ (num8 (bit c.gra.exa) ++ (num8 c.gra.unt ++ num8 c.cid)))))))))))
def shownB (s : Shown) : List UInt8 := txt s.str ++ (txt s.sub ++ (num8 s.ver ++ (num8 s.pos ++ (num8 s.code ++ blob s.body))))
def entryB (e : Entry) : List UInt8 := num8 e.no ++ (num8 e.clock ++ (num8 e.kind ++ (num8 e.code ++ (num8 e.eid ++ (txt e.str ++ (txt e.sub ++ e.sum))))))
def ansB (a : Answer) : List UInt8 := num8 a.code ++ (num8 a.num ++ (rowsB shownB a.shown ++ (tokB a.tok ++ rowsB entryB a.ents)))
theorem shownB_length (s : Shown) : (shownB s).length = 48 + s.str.size + s.sub.size + s.body.length := by simp only [shownB, List.length_append, num8_length, txt_length, blob_length]; omega
theorem entryB_length (e : Entry) : (entryB e).length = 56 + e.str.size + e.sub.size + e.sum.length := by simp only [entryB, List.length_append, num8_length, txt_length]; omega
theorem sumOk : True := trivial
/-- How long the parts of a token are. -/
def tokN (t : Token) : Nat := t.ten.size + (t.grs.flatMap grantB).length + t.mac.length
/-! #### what side conditions are simplified by -/
theorem vs0 : (∀ (α : Type) (a b : List α), (a ++ b).length = a.length + b.length) ∧ (∀ (α : Type) (a : α) (l : List α), (a :: l).length = l.length + 1) ∧ (∀ α : Type, ([] : List α).length = 0) ∧ (∀ (α : Type) (n : Nat) (l : List α), (l.take n).length = min n l.length) ∧ (∀ (α : Type) (n : Nat) (l : List α), (l.drop n).length = l.length - n)
    ∧ (∀ (α β : Type) (f : α → β) (l : List α), (l.map f).length = l.length) ∧ (∀ (α : Type) (n : Nat) (a : α), (List.replicate n a).length = n) ∧ (∀ (α : Type) (l : List α) (n : Nat) (a : α), (l.set n a).length = l.length) ∧ (∀ m n : Nat, ((m + n : Nat) : Int) = (m : Int) + (n : Int)) ∧ (∀ n : Nat, ((n : Nat) : Int).toNat = n)
    ∧ (∀ a b : Bool, ((a && b) = true) = (a = true ∧ b = true)) ∧ (∀ a b : Bool, ((a || b) = true) = (a = true ∨ b = true)) ∧ (∀ b : Bool, ((!b) = true) = (b = false)) ∧ (∀ b : Bool, ((!b) = false) = (b = true)) ∧ (∀ a b : Bool, ((a && b) = false) = (a = false ∨ b = false)) ∧ (∀ a b : Bool, ((a || b) = false) = (a = false ∧ b = false)) :=
  ⟨fun _ _ _ => List.length_append, fun _ _ _ => List.length_cons, fun _ => List.length_nil, fun _ _ _ => List.length_take, fun _ _ _ => List.length_drop, fun _ _ _ _ => List.length_map _, fun _ _ _ => List.length_replicate, fun _ _ _ _ => List.length_set, fun m n => Int.natCast_add m n, fun n => Int.toNat_natCast n,
   fun a b => by simp, fun a b => by simp, fun b => by simp, fun b => by simp, fun a b => by cases a <;> cases b <;> simp, fun a b => by cases a <;> cases b <;> simp⟩
theorem vb0 : (∀ a b : Bool, ((a && b) = true) = (a = true ∧ b = true)) ∧ (∀ a b : Bool, ((a || b) = true) = (a = true ∨ b = true)) ∧ (∀ b : Bool, ((!b) = true) = (b = false)) ∧ (∀ b : Bool, ((!b) = false) = (b = true)) ∧ (∀ a b : Bool, ((a && b) = false) = (a = false ∨ b = false)) ∧ (∀ a b : Bool, ((a || b) = false) = (a = false ∧ b = false)) :=
  ⟨fun a b => by simp, fun a b => by simp, fun b => by simp, fun b => by simp, fun a b => by cases a <;> cases b <;> simp, fun a b => by cases a <;> cases b <;> simp⟩
theorem vs1 : (∀ v : Int, (num8 v).length = 8) ∧ (∀ s : ByteArray, (txt s).length = 8 + s.size) ∧ (∀ p : List UInt8, (blob p).length = 8 + p.length) ∧ (∀ s : ByteArray, s.data.toList.length = s.size) ∧ (∀ l : List Int, (l.flatMap num8).length = 8 * l.length) ∧ (∀ g : Grant, (grantB g).length = 32 + g.pre.size) ∧ (∀ s : Shown, (shownB s).length = 48 + s.str.size + s.sub.size + s.body.length) ∧ (∀ e : Entry, (entryB e).length = 56 + e.str.size + e.sub.size + e.sum.length) :=
  ⟨num8_length, txt_length, blob_length, chars_length, flat_num8, grantB_length, shownB_length, entryB_length⟩
end Go.Proofs.YtdioiepkbolnlaaGreatDoor
