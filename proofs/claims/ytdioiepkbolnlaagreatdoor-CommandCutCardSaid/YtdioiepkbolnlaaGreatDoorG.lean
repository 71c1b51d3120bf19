/- The rules in the form in which the generator of this claim's texts uses them. Nothing of the program is in it. -/
import Derived.Test.YtdioiepkbolnlaaGreatDoorBd
set_option linter.unusedSimpArgs false
set_option linter.unusedVariables false
namespace Go.Proofs.YtdioiepkbolnlaaGreatDoor
open Go.RowKit
def LdT (P : Program) (t : TypeId) (agg : Bool) (n : Nat) : Prop := (P.underlying t).map aggD = some agg ∧ (P.info? t).map (·.size) = some n
def SlT (P : Program) (t e : TypeId) (n : Nat) : Prop := P.underlying t = some (.slice e) ∧ (P.info? e).map (·.size) = some n
def FaT (P : Program) (t i off n : Nat) : Prop := P.underlying t = some (.struct (P.fieldsOf t)) ∧ ((P.fieldsOf t)[i]?).map (fun f => (f.offset, (P.info? f.type).map (·.size))) = some (off, some (n + 1))
def ApT (P : Program) (t e : TypeId) (z : Value) (n b : Nat) : Prop := P.underlying t = some (.slice e) ∧ (P.info? e).map (fun i => (i.zero, i.size, i.bytes)) = some (some z, n, b)
theorem FaT.get {P : Program} {t i off n : Nat} (h : FaT P t i off n) : ∃ fd, P.underlying t = some (.struct (P.fieldsOf t)) ∧ (P.fieldsOf t)[i]? = some fd ∧ fd.offset = off ∧ (P.info? fd.type).map (·.size) = some (n + 1) := by
  obtain ⟨h1, h2⟩ := h
  obtain ⟨fd, h3, h4⟩ := Option.map_eq_some_iff.1 h2
  simp only [Prod.mk.injEq] at h4
  exact ⟨fd, h1, h3, h4.1, h4.2⟩
theorem LdT.get {P : Program} {t : TypeId} {agg : Bool} {n : Nat} (h : LdT P t agg n) : ∃ d, P.underlying t = some d ∧ aggD d = agg ∧ (P.info? t).map (·.size) = some n := by
  obtain ⟨h1, h2⟩ := h
  obtain ⟨d, h3, h4⟩ := Option.map_eq_some_iff.1 h1
  exact ⟨d, h3, h4, h2⟩
section
variable {P : Program} {V : World → PH → Prop} {Γ : Nat → Rep} {o : Oper} {t t' e : TypeId} {x y : Operand}
theorem g_load {f : FP} (ho : o.op = .load t x) (ht : LdT P t f.agg f.n) (hx : Ent (opd Γ x) (ptr f)) : OpC P V o Γ (plain f.rep) := by
  obtain ⟨d, h1, h2, h3⟩ := ht.get
  exact op_load ho hx h1 h2 h3
theorem g_loadI {k : IntKind} {n : Int} (ho : o.op = .load t x) (ht : LdT P t false 1) (hx : Ent (opd Γ x) (ptr ((kI k).fp n))) : OpC P V o Γ (plain (Rep.is (.int k n))) := (g_load ho ht hx).weak (rep_int k n)
theorem g_loadB {b : Bool} (ho : o.op = .load t x) (ht : LdT P t false 1) (hx : Ent (opd Γ x) (ptr (kB.fp b))) : OpC P V o Γ (plain (Rep.is (.bool b))) := (g_load ho ht hx).weak (rep_bool b)
theorem g_loadS {s : ByteArray} (ho : o.op = .load t x) (ht : LdT P t false 1) (hx : Ent (opd Γ x) (ptr (kS.fp s))) : OpC P V o Γ (plain (Rep.is (.string s))) := (g_load ho ht hx).weak (rep_str s)
theorem g_loadU {b : UInt8} (ho : o.op = .load t x) (ht : LdT P t false 1) (hx : Ent (opd Γ x) (ptr (kU8.fp b))) : OpC P V o Γ (plain (Rep.is (bv b))) := (g_load ho ht hx).weak (rep_u8 b)
theorem g_field {f g : FP} {l : List FP} {i n off : Nat} (ho : o.op = .fieldAddr t x i) (ht : FaT P t i off n) (hl : ∀ h cs, f.K h cs → RowF h l cs) (hi : l[i]? = some g) (hoff : off = fsum (l.take i)) (hx : Ent (opd Γ x) (ptr f)) : OpC P V o Γ (plain (ptr g)) := by
  obtain ⟨fd, h1, h2, h3, h4⟩ := ht.get
  exact op_field ho hx hl hi h1 h2 h4 (by rw [h3, hoff])
theorem g_fieldP {i n off b q : Nat} (ho : o.op = .fieldAddr t x i) (ht : FaT P t i off n) (hx : Ent (opd Γ x) (Rep.is (pb b q))) : OpC P V o Γ (plain (Rep.is (pb b (q + off)))) := by
  obtain ⟨fd, h1, h2, h3, h4⟩ := ht.get
  have := op_fieldP (V := V) ho hx h1 h2 h4
  rw [h3] at this; exact this
theorem g_loadP {C : Cx} {l : List OI} {f g : FP} {b q : Nat} (ho : o.op = .load t x) (ht : LdT P t g.agg g.n) (hm : blkI b f ∈ l) (hp : Part f q g) (hx : Ent (opd Γ x) (Rep.is (pb b q))) : OpC P (Vo C l) o Γ (plain g.rep) := by
  obtain ⟨d, h1, h2, h3⟩ := ht.get
  exact op_loadB ho hx hm hp h1 h2 h3
theorem g_index {α : Type} {k : Kind α} {l : List α} {ik : IntKind} {i : Int} {d : α} (ho : o.op = .indexAddr t x y) (ht : SlT P t e k.sz) (hx : Ent (opd Γ x) ((kSl k).rep l)) (hy : Ent (opd Γ y) (Rep.is (.int ik i))) (h01 : 0 ≤ i ∧ i < l.length) : OpC P V o Γ (plain (ptr (k.fp (l.getD i.toNat d)))) := op_index d ho hx hy ht.1 ht.2 h01.1 h01.2
theorem g_sidx {s : ByteArray} {ik : IntKind} {i : Int} (ho : o.op = .index t x y) (ht : P.underlying t = some .string) (hx : Ent (opd Γ x) (Rep.is (.string s))) (hy : Ent (opd Γ y) (Rep.is (.int ik i))) (h01 : 0 ≤ i ∧ i < s.size) : OpC P V o Γ (plain (Rep.is (bv (s.data.toList.getD i.toNat 0)))) := op_sidx ho hx hy ht h01.1 h01.2
theorem g_len {α : Type} {k : Kind α} {l : List α} {n : Nat} (ho : o.op = .call ⟨.builtin .len, #[x], #[t]⟩) (ht : SlT P t e n) (hx : Ent (opd Γ x) ((kSl k).rep l)) : OpC P V o Γ (plain (Rep.is (.int .i64 l.length))) := op_len ho hx ht.1
theorem g_cut {α : Type} {k : Kind α} {l : List α} {lo hi : Option Operand} {i j : Nat} (ho : o.op = .slice t x lo hi none) (ht : SlT P t e k.sz) (hx : Ent (opd Γ x) ((kSl k).rep l))
    (hlo : match lo with | none => i = 0 | some y => ∃ ik, Ent (opd Γ y) (Rep.is (.int ik i))) (hhi : match hi with | none => j = l.length | some y => ∃ ik, Ent (opd Γ y) (Rep.is (.int ik j))) (hij : i ≤ j ∧ j ≤ l.length) : OpC P V o Γ (plain ((kSl k).rep ((l.take j).drop i))) := op_cut ho hx ht.1 ht.2 hlo hhi hij.1 hij.2
section
variable {k : IntKind} {m n : Int}
theorem wrap_in_i64 {n : Int} (h : -9223372036854775808 ≤ n ∧ n ≤ 9223372036854775807) : IntKind.i64.wrap n = n := by
  rw [IntKind.wrap_i64]; omega
theorem g_add (ho : o.op = .binOp .add t x y t') (hx : Ent (opd Γ x) (Rep.is (.int .i64 m))) (hy : Ent (opd Γ y) (Rep.is (.int .i64 n))) (hb : -9223372036854775808 ≤ m + n ∧ m + n ≤ 9223372036854775807) : OpC P V o Γ (plain (Rep.is (.int .i64 (m + n)))) := by
  have := op_add (P := P) (V := V) ho hx hy
  rw [wrap_in_i64 hb] at this; exact this
theorem g_sub (ho : o.op = .binOp .sub t x y t') (hx : Ent (opd Γ x) (Rep.is (.int .i64 m))) (hy : Ent (opd Γ y) (Rep.is (.int .i64 n))) (hb : -9223372036854775808 ≤ m - n ∧ m - n ≤ 9223372036854775807) : OpC P V o Γ (plain (Rep.is (.int .i64 (m - n)))) := by
  have := op_sub (P := P) (V := V) ho hx hy
  rw [wrap_in_i64 hb] at this; exact this
theorem g_mul (ho : o.op = .binOp .mul t x y t') (hx : Ent (opd Γ x) (Rep.is (.int .i64 m))) (hy : Ent (opd Γ y) (Rep.is (.int .i64 n))) (hb : -9223372036854775808 ≤ m * n ∧ m * n ≤ 9223372036854775807) : OpC P V o Γ (plain (Rep.is (.int .i64 (m * n)))) := by
  have := op_mul (P := P) (V := V) ho hx hy
  rw [wrap_in_i64 hb] at this; exact this
end
theorem g_call {f : FuncId} {args : Array Operand} {ts : Array TypeId} {Rs : List Rep} {R : Rep} (ho : o.op = .call ⟨.value (.func f), args, ts⟩) (en : Enters P f) (hc : Ct P f Rs R) (ha : EntsO Γ args.toList Rs) : OpC P V o Γ (plain R) := op_call ho en ha hc
theorem g_callg {f : FuncId} {g : Operand} {args : Array Operand} {ts : Array TypeId} {Rs Cs : List Rep} {R : Rep} (ho : o.op = .call ⟨.value g, args, ts⟩) (en : Enters P f) (hc : Ct P f (Rs ++ Cs) R) (hg : Ent (opd Γ g) (clo f Cs)) (ha : EntsO Γ args.toList Rs) : OpC P V o Γ (plain R) := op_callg ho hg en ha hc
theorem g_callO {f : FuncId} {args : Array Operand} {ts : Array TypeId} {Rs : List Rep} {R : Rep} {I : Value → List OI} (ho : o.op = .call ⟨.value (.func f), args, ts⟩) (en : Enters P f) (hc : CtO P f Rs R I) (ha : EntsO Γ args.toList Rs) : OpC P V o Γ ⟨R, true, I⟩ := op_callO ho en ha hc
theorem op_mkf {g : FuncId} {caps : Array Operand} {Rs : List Rep} (ho : o.op = .makeFunc (.func g) #[] caps) (ha : EntsO Γ caps.toList Rs) : OpC P V o Γ (plain (clo g Rs)) := OpC.pure fun A w h hp hop => by
  have hargs := EntsO.all caps.toList Rs ha (fun x hx => hop x (by simp only [ho, Op.operands]; simpa using hx))
  refine ⟨_, ?_, _, rfl, hargs⟩
  simp only [execOp, ho]
  refine run_v ?_
  simp [Instr.makeFunc]
  apply Array.toList_inj.1
  simp
/-! entailments -/
theorem ent_i {k : IntKind} {m n : Int} (h : m = n) : Ent (Rep.is (.int k m)) (Rep.is (.int k n)) := by subst h; exact Ent.refl _
theorem ent_b {a b : Bool} (h : a = b) : Ent (Rep.is (.bool a)) (Rep.is (.bool b)) := by subst h; exact Ent.refl _
theorem ent_s {a b : ByteArray} (h : a = b) : Ent (Rep.is (.string a)) (Rep.is (.string b)) := by subst h; exact Ent.refl _
theorem ent_v {α : Type} {k : Kind α} {a b : α} (h : a = b) : Ent (k.rep a) (k.rep b) := by subst h; exact Ent.refl _
end
/-! a place where ways meet -/
def Mid (C : Cx) {ι : Type} (Γi : ι → Nat → Rep) (li : ι → List OI) (pi : ι → Prop) : Act → World → Prop := fun a w => ∃ h i, SS C (Γi i) (li i) a w h ∧ pi i
theorem J.cut {C : Cx} {Γ : Nat → Rep} {l : List OI} {Q : Exit → Act → World → Prop} {ι : Type} (Γi : ι → Nat → Rep) (li : ι → List OI) (pi : ι → Prop) {x y : Code} (hx : J C Γ l x (Exit.then (Mid C Γi li pi) Q)) (hy : ∀ i, pi i → J C (Γi i) (li i) y Q) : J C Γ l (.seq x y) Q := fun a w h s =>
  wp_seq (wp_mono (hx a w h s) fun e a' w' hq => by
    cases e with
    | normal =>
      obtain ⟨h', i, s', hp⟩ := hq
      exact hy i hp a' w' h' s'
    | _ => exact hq)
theorem E.meet {C : Cx} {Γ : Nat → Rep} {l : List OI} {Q : Exit → Act → World → Prop} {ι : Type} {Γi : ι → Nat → Rep} {li : ι → List OI} {pi : ι → Prop} (i : ι) (hl : l = li i) (hp : pi i) (hs : Sub Γ (Γi i)) : E C .normal Γ l (Exit.then (Mid C Γi li pi) Q) := fun a w h s => ⟨h, i, hl ▸ s.sub hs, hp⟩
theorem hok {p : Prop} (h : p) : p := h
end Go.Proofs.YtdioiepkbolnlaaGreatDoor
