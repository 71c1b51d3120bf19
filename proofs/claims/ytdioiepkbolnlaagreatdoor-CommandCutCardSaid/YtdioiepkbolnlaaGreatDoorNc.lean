/- Calls of functions that the model stands in for; parts of strings. Nothing of the program is in it. -/
import Derived.Test.YtdioiepkbolnlaaGreatDoorS
import Derived.Lib.Bytealg
set_option linter.unusedSimpArgs false
set_option linter.unusedVariables false
namespace Go.Proofs.YtdioiepkbolnlaaGreatDoor
open Go.RowKit
section
variable {P : Program} {V : World → PH → Prop} {Γ : Nat → Rep} {o : Oper} {t t' e : TypeId} {x y : Operand}
theorem clo_of (f : FuncId) : Ent (Rep.is (.func (.func f) #[] #[])) (clo f []) := fun h v e => ⟨[], e, .nil⟩
theorem J.fact {C : Cx} {Γ : Nat → Rep} {l : List OI} {c : Code} {Q : Exit → Act → World → Prop} {s : Nat} {R : Rep} {p : Prop} (hs : Ent (Γ s) R) (hf : ∀ h v, R.p h v → p) (k : p → J C Γ l c Q) : J C Γ l c Q := fun a w h ss => k (hf _ _ (hs _ _ (ss.sat s))) a w h ss
def EntsV (Γ : Nat → Rep) : List Operand → List Value → Prop
  | [], [] => True
  | x :: xs, v :: vs => Ent (opd Γ x) (Rep.is v) ∧ EntsV Γ xs vs
  | _, _ => False
theorem EntsV.all {Γ : Nat → Rep} {h : PH} {a : Act} : ∀ (xs : List Operand) (vs : List Value), EntsV Γ xs vs → (∀ x ∈ xs, (opd Γ x).p h (a.eval x)) → xs.map a.eval = vs
  | [], [], _, _ => rfl
  | x :: xs, v :: vs, e, hx => by
    rw [List.map_cons, EntsV.all xs vs e.2 fun y hy => hx y (List.mem_cons_of_mem _ hy)]
    have : a.eval x = v := e.1 _ _ (hx x List.mem_cons_self)
    rw [this]
  | [], _ :: _, e, _ => e.elim
  | _ :: _, [], e, _ => e.elim
def ExtT (P : Program) (f : FuncId) (vs : List Value) (r : Value) : Prop := ∀ w, (callFunc f vs.toArray).run P w = .ok (.value r) w
theorem op_callx {f : FuncId} {args : Array Operand} {ts : Array TypeId} (vs : List Value) {r : Value} (ho : o.op = .call ⟨.value (.func f), args, ts⟩) (ha : EntsV Γ args.toList vs) (hrun : ExtT P f vs r) : OpC P V o Γ (plain (Rep.is r)) := OpC.pure fun A w h hp hop => by
  have hargs := EntsV.all args.toList vs ha (fun x hx => hop x (by simp only [ho, Op.operands, Call.operands]; simp at hx; simp [hx]))
  refine ⟨r, ?_, rfl⟩
  have e : (args.map A.eval) = vs.toArray := by
    apply Array.toList_inj.1; simpa using hargs
  have hg : A.eval (.func f) = .func (.func f) #[] #[] := rfl
  simp only [execOp, ho, resolve, hg, Deferred.ofValue, Sem.run_bind, Sem.run_pure, Result.andThen_ok, invoke, Array.empty_append, Array.append_empty]
  rw [e, hrun]
theorem strOf_size (l : List UInt8) : (strOf l).size = l.length := by simp [strOf, ByteArray.size]
theorem strOf_chars (l : List UInt8) : (strOf l).data.toList = l := by simp [strOf]
theorem chars_strOf (s : ByteArray) : strOf s.data.toList = s := by cases s; simp [strOf]
theorem strOf_nil (l : List UInt8) : (strOf l = ⟨#[]⟩) ↔ l = [] := by
  constructor
  · intro h
    have := congrArg (fun s => s.data.toList) h
    simpa [strOf] using this
  · rintro rfl; rfl
theorem ba_size (s : ByteArray) : s.data.size = s.size := rfl
theorem op_cutS {s : ByteArray} {lo hi : Option Operand} {i j : Nat} (ho : o.op = .slice t x lo hi none) (ht : P.underlying t = some .string) (hx : Ent (opd Γ x) (Rep.is (.string s)))
    (hlo : match lo with | none => i = 0 | some y => ∃ ik, Ent (opd Γ y) (Rep.is (.int ik i))) (hhi : match hi with | none => j = s.size | some y => ∃ ik, Ent (opd Γ y) (Rep.is (.int ik j))) (hij : i ≤ j ∧ j ≤ s.size) : OpC P V o Γ (plain (Rep.is (.string (strOf ((s.data.toList.take j).drop i))))) := OpC.pure fun A w h hp hop => by
  have he : A.eval x = _ := hx _ _ (hop x (by simp [ho, Op.operands]))
  refine ⟨_, ?_, rfl⟩
  simp only [execOp, ho]
  rw [he]
  refine run_v ?_
  have hext : s.extract i j = strOf ((s.data.toList.take j).drop i) := by
    apply ByteArray.ext
    apply Array.toList_inj.1
    simp [strOf, ByteArray.data_extract, List.extract_eq_take_drop, List.drop_take]
  obtain ⟨hij, hjs⟩ := hij
  cases lo with
  | none =>
    subst hlo
    cases hi with
    | none =>
      subst hhi
      simp [Instr.sliceAt, run_underlying ht, Instr.slice, Instr.sliceBounds]
      rw [List.take_of_length_le (by rw [Array.length_toList]; exact Nat.le_refl _), chars_strOf]
    | some y =>
      obtain ⟨ik, hy⟩ := hhi
      have hi : A.eval y = _ := hy _ _ (hop y (by simp [ho, Op.operands]))
      simp [Instr.sliceAt, run_underlying ht, Instr.slice, Instr.sliceBounds, hi, Instr.sliceBound, asIntOf, hjs]
      rw [hext, List.drop_zero]
  | some z =>
    obtain ⟨ik', hz⟩ := hlo
    have hlo : A.eval z = _ := hz _ _ (hop z (by simp [ho, Op.operands]))
    cases hi with
    | none =>
      subst hhi
      simp [Instr.sliceAt, run_underlying ht, Instr.slice, Instr.sliceBounds, hlo, Instr.sliceBound, asIntOf, hij]
      rw [← hext]
    | some y =>
      obtain ⟨ik, hy⟩ := hhi
      have hi : A.eval y = _ := hy _ _ (hop y (by simp [ho, Op.operands]))
      simp [Instr.sliceAt, run_underlying ht, Instr.slice, Instr.sliceBounds, hi, hlo, Instr.sliceBound, asIntOf, hjs, hij]
      rw [← hext]
end
theorem getD_mem {α : Type} {l : List α} {k : Nat} {d : α} (h : k < l.length) : l.getD k d ∈ l := by
  have : l.getD k d = l[k] := by simp [List.getD, h]
  rw [this]; exact List.getElem_mem h
theorem zarrG {α : Type} (k : Kind α) (x0 : α) (z : Value) (hz : ∀ h, k.K h x0 [z]) (n : Nat) (h : PH) : (kArr n k).K h (List.replicate n x0) (List.replicate n z) := by
  refine ⟨by simp, ?_⟩
  induction n with
  | zero => exact .nil
  | succ n ih => exact Rows.cons (c := [z]) (hz h) ih
@[irreducible] def ixB (s : ByteArray) (c : UInt8) : Int := Lib.indexByte s.data.toList c
/-! #### trimming -/
def inSet (a : List Bool) (b : UInt8) : Bool := a.getD b.toNat false
def ascSet (cs : List UInt8) : List Bool := cs.foldl (fun a c => a.set c.toNat true) (List.replicate 256 false)
theorem ascSet_snoc (cs : List UInt8) (k : Nat) (h : k < cs.length) : (ascSet (cs.take k)).set (cs.getD k 0).toNat true = ascSet (cs.take (k + 1)) := by
  unfold ascSet
  rw [List.take_succ_eq_append_getElem h, List.foldl_append]
  have : cs.getD k 0 = cs[k] := by simp [List.getD, h]
  rw [this]; rfl
theorem ascSet_length (cs : List UInt8) : (ascSet cs).length = 256 := by
  unfold ascSet
  have : ∀ (cs : List UInt8) (a : List Bool), (cs.foldl (fun a c => a.set c.toNat true) a).length = a.length := by
    intro cs
    induction cs with
    | nil => intro a; rfl
    | cons c cs ih => intro a; rw [List.foldl_cons, ih, List.length_set]
  rw [this, List.length_replicate]
def trimR (p : UInt8 → Bool) (l : List UInt8) : Nat → List UInt8
  | 0 => []
  | k + 1 => if p (l.getD k 0) then trimR p l k else l.take (k + 1)
def trimB (a : List Bool) (s : ByteArray) : ByteArray := strOf ((trimR (inSet a) s.data.toList s.size).dropWhile (inSet a))
theorem dropW_step {p : UInt8 → Bool} {l : List UInt8} {k : Nat} (h : k < l.length) (hp : p (l.getD k 0) = true) : (l.drop k).dropWhile p = (l.drop (k + 1)).dropWhile p := by
  rw [List.drop_eq_getElem_cons h, List.dropWhile_cons]
  have : l.getD k 0 = l[k] := by simp [List.getD, h]
  rw [this] at hp
  simp [hp]
theorem dropW_stop {p : UInt8 → Bool} {l : List UInt8} {k : Nat} (h : k < l.length) (hp : p (l.getD k 0) = false) : (l.drop k).dropWhile p = l.drop k := by
  rw [List.drop_eq_getElem_cons h, List.dropWhile_cons]
  have : l.getD k 0 = l[k] := by simp [List.getD, h]
  rw [this] at hp
  simp [hp]
theorem dropW_nil {p : UInt8 → Bool} {l : List UInt8} {k : Nat} (h : l.length ≤ k) : (l.drop k).dropWhile p = l.drop k := by
  rw [List.drop_of_length_le h]; rfl
theorem strTake_size (s : ByteArray) (k : Nat) (h : k ≤ s.size) : (strOf (s.data.toList.take k)).size = k := by
  rw [strOf_size, List.length_take, chars_length]; omega
theorem strDrop_size (s : ByteArray) (k : Nat) : (strOf (s.data.toList.drop k)).size = s.size - k := by
  rw [strOf_size, List.length_drop, chars_length]
theorem last_at (s : ByteArray) (k : Nat) (h : k ≤ s.size) (h0 : 0 < k) : (strOf (s.data.toList.take k)).data.toList.getD ((((strOf (s.data.toList.take k)).size : Int) - 1).toNat) 0 = s.data.toList.getD (k - 1) 0 := by
  rw [strTake_size s k h, strOf_chars, show ((k : Int) - 1).toNat = k - 1 by omega]
  simp only [List.getD]
  rw [List.getElem?_take, if_pos (by omega)]
theorem first_at (s : ByteArray) (k : Nat) : (strOf (s.data.toList.drop k)).data.toList.getD 0 0 = s.data.toList.getD k 0 := by
  rw [strOf_chars]
  simp only [List.getD]
  rw [List.getElem?_drop, Nat.add_zero]
theorem take_cut (s : ByteArray) (k : Nat) (h : k ≤ s.size) (h0 : 0 < k) : strOf (((strOf (s.data.toList.take k)).data.toList.take ((((strOf (s.data.toList.take k)).size : Int) - 1).toNat)).drop 0) = strOf (s.data.toList.take (k - 1)) := by
  rw [strTake_size s k h, strOf_chars, show ((k : Int) - 1).toNat = k - 1 by omega, List.drop_zero, List.take_take, Nat.min_eq_left (by omega)]
theorem drop_cut (s : ByteArray) (k : Nat) : strOf (((strOf (s.data.toList.drop k)).data.toList.take (strOf (s.data.toList.drop k)).size).drop 1) = strOf (s.data.toList.drop (k + 1)) := by
  rw [strOf_chars, List.take_of_length_le (by rw [strOf_size]; exact Nat.le_refl _), List.drop_drop]
theorem trimR_stop {p : UInt8 → Bool} {l : List UInt8} {n k : Nat} (h : trimR p l n = trimR p l k) (h0 : 0 < k) (hp : p (l.getD (k - 1) 0) = false) : trimR p l n = l.take k := by
  obtain ⟨j, rfl⟩ : ∃ j, k = j + 1 := ⟨k - 1, by omega⟩
  rw [h]
  simp only [Nat.add_sub_cancel] at hp
  rw [trimR, hp]; rfl
theorem trimR_go {p : UInt8 → Bool} {l : List UInt8} {n k : Nat} (h : trimR p l n = trimR p l k) (h0 : 0 < k) (hp : p (l.getD (k - 1) 0) = true) : trimR p l n = trimR p l (k - 1) := by
  obtain ⟨j, rfl⟩ : ∃ j, k = j + 1 := ⟨k - 1, by omega⟩
  rw [h]
  simp only [Nat.add_sub_cancel] at hp ⊢
  rw [trimR, hp]; rfl
theorem trimR_zero {p : UInt8 → Bool} {l : List UInt8} {n k : Nat} (h : trimR p l n = trimR p l k) (h0 : k = 0) : trimR p l n = l.take k := by
  subst h0; rw [h]; simp [trimR]
theorem trim_none {s cs : ByteArray} {a : List Bool} (h : s = ⟨#[]⟩ ∨ cs = ⟨#[]⟩) (hs : 2 ≤ cs.size ∧ cs.size ≤ 1000) : s = trimB a s := by
  rcases h with rfl | rfl
  · rfl
  · exact absurd hs.1 (by decide)
/-! #### names -/
abbrev signs : ByteArray := ⟨#[97, 98, 99, 100, 101, 102, 103, 104, 105, 106, 107, 108, 109, 110, 111, 112, 113, 114, 115, 116, 117, 118, 119, 120, 121, 122, 48, 49, 50, 51, 52, 53, 54, 55, 56, 57, 45, 46]⟩
abbrev letters : ByteArray := ⟨#[97, 98, 99, 100, 101, 102, 103, 104, 105, 106, 107, 108, 109, 110, 111, 112, 113, 114, 115, 116, 117, 118, 119, 120, 121, 122]⟩
theorem signs_ascii : ∀ c ∈ signs.data.toList, c.toNat < 128 := by decide
theorem ascSet_nil : ascSet [] = List.replicate 256 false := rfl
attribute [irreducible] trimB ascSet
def nameOk (s : ByteArray) : Bool := decide ((1 : Int) ≤ (s.size : Int)) && decide ((s.size : Int) ≤ 24) && decide (0 ≤ ixB letters (s.data.toList.getD 0 0)) && decide (trimB (ascSet signs.data.toList) s = ⟨#[]⟩)
def preOk (s : ByteArray) : Bool := decide (s = ⟨#[]⟩) || nameOk s
end Go.Proofs.YtdioiepkbolnlaaGreatDoor
