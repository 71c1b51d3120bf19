/- Kinds: how plain data lie in published cells; the operations that read them. Nothing of the program is in it. -/
import Derived.Test.YtdioiepkbolnlaaGreatDoorVr
set_option linter.unusedSimpArgs false
set_option linter.unusedVariables false
namespace Go.Proofs.YtdioiepkbolnlaaGreatDoor
open Go.RowKit

/-! ### Kinds -/
abbrev bv (b : UInt8) : Value := .int .u8 b.toNat
structure Kind (α : Type) where
  sz : Nat
  agg : Bool
  flat : agg = false → sz = 1
  K : PH → α → List Value → Prop
  len : ∀ {h x cs}, K h x cs → cs.length = sz
  one : ∀ {h x cs}, K h x cs → ∀ u ∈ cs, u.oneCell' = true
  mono : ∀ {h h' x cs}, PLe h h' → K h x cs → K h' x cs
structure FP where
  n : Nat
  agg : Bool
  flat : agg = false → n = 1
  K : PH → List Value → Prop
  len : ∀ {h cs}, K h cs → cs.length = n
  one : ∀ {h cs}, K h cs → ∀ u ∈ cs, u.oneCell' = true
  mono : ∀ {h h' cs}, PLe h h' → K h cs → K h' cs
def Kind.fp {α : Type} (k : Kind α) (x : α) : FP := ⟨k.sz, k.agg, k.flat, fun h cs => k.K h x cs, k.len, k.one, k.mono⟩
/-- A value of it. -/
def FP.V (f : FP) (h : PH) (v : Value) : Prop := (f.agg = true ∧ ∃ cs, v = .agg cs ∧ f.K h cs.toList) ∨ (f.agg = false ∧ f.K h [v])
def FP.rep (f : FP) : Rep := ⟨fun h v => f.V h v, fun l e => by
  rcases e with ⟨ha, cs, rfl, e⟩ | ⟨ha, e⟩
  · exact .inl ⟨ha, cs, rfl, f.mono l e⟩
  · exact .inr ⟨ha, f.mono l e⟩⟩
abbrev Kind.rep {α : Type} (k : Kind α) (x : α) : Rep := (k.fp x).rep
theorem FP.V.cells {f : FP} {h : PH} {v : Value} (e : f.V h v) : f.K h v.cells.toList := by
  rcases e with ⟨_, cs, rfl, e⟩ | ⟨_, e⟩
  · exact e
  · have h1 := f.one e v (by simp)
    cases v <;> first | exact e | simp [Value.oneCell'] at h1

def At (h : PH) (a : Addr) (cs : List Value) : Prop := ∀ j u, cs[j]? = some u → h (a.add j) = some u
theorem At.mono {h h' : PH} {a : Addr} {cs : List Value} (l : PLe h h') (e : At h a cs) : At h' a cs := fun j u hu => l _ _ (e j u hu)
theorem At.left {h : PH} {a : Addr} {c d : List Value} (e : At h a (c ++ d)) : At h a c := fun j u hu => e j u (by
  have := (List.getElem?_eq_some_iff.1 hu).1
  rw [List.getElem?_append_left this]; exact hu)
theorem Addr.add_add' (a : Addr) (m n : Nat) (hs : a.spot = none) : (a.add m).add n = a.add (m + n) := by
  unfold Addr.add
  by_cases h1 : m = 0 <;> by_cases h2 : n = 0 <;> simp [h1, h2] <;> (try omega)
theorem At.right {h : PH} {a : Addr} {c d : List Value} (hs : a.spot = none) (e : At h a (c ++ d)) : At h (a.add c.length) d := fun j u hu => by
  rw [Addr.add_add' _ _ _ hs]
  exact e (c.length + j) u (by rw [List.getElem?_append_right (by omega)]; simpa using hu)
theorem spot_add (a : Addr) (n : Nat) (hs : a.spot = none) : (a.add n).spot = none := by
  unfold Addr.add; split
  · exact hs
  · rfl

/-- A pointer to published cells. -/
def ptr (f : FP) : Rep := ⟨fun h v => ∃ a cs, v = .pointer (some a) ∧ a.spot = none ∧ f.K h cs ∧ At h a cs, fun l ⟨a, cs, e, hs, hk, ha⟩ => ⟨a, cs, e, hs, f.mono l hk, ha.mono l⟩⟩

/-! #### rows -/
inductive Rows {α : Type} (K : α → List Value → Prop) : List α → List Value → Prop
  | nil : Rows K [] []
  | cons {x : α} {l : List α} {c cs : List Value} : K x c → Rows K l cs → Rows K (x :: l) (c ++ cs)
section
variable {α : Type} {K K' : α → List Value → Prop} {l m : List α} {cs ds : List Value} {n : Nat}
theorem Rows.imp (hk : ∀ x c, K x c → K' x c) (h : Rows K l cs) : Rows K' l cs := by
  induction h with
  | nil => exact .nil
  | cons hx _ ih => exact .cons (hk _ _ hx) ih
theorem Rows.length (hk : ∀ x c, K x c → c.length = n) (h : Rows K l cs) : cs.length = l.length * n := by
  induction h with
  | nil => simp
  | cons hx _ ih => rw [List.length_append, hk _ _ hx, ih, List.length_cons, Nat.add_mul]; omega
theorem Rows.all {p : Value → Prop} (hk : ∀ x c, K x c → ∀ u ∈ c, p u) (h : Rows K l cs) : ∀ u ∈ cs, p u := by
  induction h with
  | nil => intro u hu; cases hu
  | cons hx _ ih =>
    intro u hu
    rcases List.mem_append.1 hu with hu | hu
    · exact hk _ _ hx u hu
    · exact ih u hu
theorem Rows.append (h : Rows K l cs) (h' : Rows K m ds) : Rows K (l ++ m) (cs ++ ds) := by
  induction h with
  | nil => exact h'
  | cons hx _ ih => rw [List.cons_append, List.append_assoc]; exact .cons hx ih
theorem Rows.one_ {x : α} {c : List Value} (h : K x c) : Rows K [x] c := by
  have := Rows.cons h (Rows.nil (K := K)); simpa using this
theorem Rows.split (hk : ∀ x c, K x c → c.length = n) (i : Nat) (h : Rows K l cs) (hi : i < l.length) : ∃ c c1 c2, cs = c1 ++ (c ++ c2) ∧ c1.length = i * n ∧ K (l[i]) c ∧ Rows K (l.take i) c1 ∧ Rows K (l.drop (i + 1)) c2 := by
  induction h generalizing i with
  | nil => simp at hi
  | @cons x l c cs hx hr ih =>
    cases i with
    | zero => exact ⟨c, [], cs, by simp, by simp, by simpa using hx, .nil, by simpa using hr⟩
    | succ i =>
      obtain ⟨c', c1, c2, rfl, h1, h2, h3, h4⟩ := ih i (by simpa using hi)
      exact ⟨c', c ++ c1, c2, by simp, by rw [List.length_append, hk _ _ hx, h1, Nat.add_mul]; omega, by simpa using h2, by simpa using Rows.cons hx h3, by simpa using h4⟩
theorem Rows.take_ (hk : ∀ x c, K x c → c.length = n) (i : Nat) (h : Rows K l cs) : Rows K (l.take i) (cs.take (i * n)) := by
  induction h generalizing i with
  | nil => simpa using Rows.nil
  | @cons x l c cs hx hr ih =>
    cases i with
    | zero => simpa using Rows.nil
    | succ i =>
      rw [List.take_succ_cons, List.take_append]
      have hl := hk _ _ hx
      rw [List.take_of_length_le (l := c) (by rw [hl, Nat.add_mul]; omega), show (i + 1) * n - c.length = i * n by rw [hl, Nat.add_mul]; omega]
      exact .cons hx (ih i)
theorem Rows.drop_ (hk : ∀ x c, K x c → c.length = n) (i : Nat) (h : Rows K l cs) : Rows K (l.drop i) (cs.drop (i * n)) := by
  induction h generalizing i with
  | nil => simpa using Rows.nil
  | @cons x l c cs hx hr ih =>
    cases i with
    | zero => simpa using Rows.cons hx hr
    | succ i =>
      have hl := hk _ _ hx
      rw [List.drop_succ_cons, List.drop_append, List.drop_of_length_le (l := c) (by rw [hl, Nat.add_mul]; omega), show (i + 1) * n - c.length = i * n by rw [hl, Nat.add_mul]; omega]
      exact ih i
end
inductive RowF (h : PH) : List FP → List Value → Prop
  | nil : RowF h [] []
  | cons {f : FP} {l : List FP} {c cs : List Value} : f.K h c → RowF h l cs → RowF h (f :: l) (c ++ cs)
def fsum (l : List FP) : Nat := l.foldr (fun f n => f.n + n) 0
theorem RowF.length {h : PH} {l : List FP} {cs : List Value} (e : RowF h l cs) : cs.length = fsum l := by
  induction e with
  | nil => rfl
  | @cons f l c cs hx _ ih => rw [List.length_append, f.len hx, ih]; rfl
theorem RowF.one {h : PH} {l : List FP} {cs : List Value} (e : RowF h l cs) : ∀ u ∈ cs, u.oneCell' = true := by
  induction e with
  | nil => intro u hu; cases hu
  | @cons f l c cs hx _ ih =>
    intro u hu
    rcases List.mem_append.1 hu with hu | hu
    · exact f.one hx u hu
    · exact ih u hu
theorem RowF.mono {h h' : PH} (hl : PLe h h') {l : List FP} {cs : List Value} (e : RowF h l cs) : RowF h' l cs := by
  induction e with
  | nil => exact .nil
  | @cons f l c cs hx _ ih => exact .cons (f.mono hl hx) ih
theorem RowF.split {h : PH} {l : List FP} {cs : List Value} (e : RowF h l cs) (i : Nat) (f : FP) (hi : l[i]? = some f) : ∃ c c1 c2, cs = c1 ++ (c ++ c2) ∧ c1.length = fsum (l.take i) ∧ f.K h c ∧ RowF h (l.take i) c1 ∧ RowF h (l.drop (i + 1)) c2 := by
  induction e generalizing i with
  | nil => simp at hi
  | @cons g l c cs hx hr ih =>
    cases i with
    | zero =>
      have : g = f := by simpa using hi
      subst this
      exact ⟨c, [], cs, by simp, rfl, hx, .nil, by simpa using hr⟩
    | succ i =>
      obtain ⟨c', c1, c2, rfl, h1, h2, h3, h4⟩ := ih i (by simpa using hi)
      exact ⟨c', c ++ c1, c2, by simp, by rw [List.length_append, g.len hx, h1]; rfl, h2, by simpa using RowF.cons hx h3, by simpa using h4⟩

/-! #### the kinds -/
def kScalar {α : Type} (enc : α → Value) (h1 : ∀ x, (enc x).oneCell' = true) : Kind α :=
  ⟨1, false, fun _ => rfl, fun _ x cs => cs = [enc x], fun e => by rw [e]; rfl, fun e u hu => by rw [e] at hu; rw [List.mem_singleton.1 hu]; exact h1 _, fun _ e => e⟩
def kI (k : IntKind) : Kind Int := kScalar (Value.int k) fun _ => rfl
def kB : Kind Bool := kScalar Value.bool fun _ => rfl
def kS : Kind ByteArray := kScalar Value.string fun _ => rfl
def kU8 : Kind UInt8 := kScalar bv fun _ => rfl
def kSl {α : Type} (k : Kind α) : Kind (List α) where
  sz := 1
  agg := false
  flat := fun _ => rfl
  K := fun h l cs => ∃ A c, cs = [.slice A l.length c] ∧ l.length ≤ c ∧ l.length ≤ 9223372036854775807 ∧ (0 < l.length → ∃ a ds, A = some a ∧ a.spot = none ∧ Rows (k.K h) l ds ∧ At h a ds)
  len := by rintro h x cs ⟨A, c, rfl, _⟩; rfl
  one := by
    rintro h x cs ⟨A, c, rfl, _⟩ u hu
    rw [List.mem_singleton.1 hu]; rfl
  mono := by
    rintro h h' x cs hl ⟨A, c, rfl, h1, h2, h3⟩
    refine ⟨A, c, rfl, h1, h2, fun hp => ?_⟩
    obtain ⟨a, ds, e, hs, hr, ha⟩ := h3 hp
    exact ⟨a, ds, e, hs, hr.imp (fun x c hx => k.mono hl hx), ha.mono hl⟩
def kArr {α : Type} (n : Nat) (k : Kind α) : Kind (List α) where
  sz := n * k.sz
  agg := true
  flat := fun e => by cases e
  K := fun h l cs => l.length = n ∧ Rows (k.K h) l cs
  len := by
    rintro h x cs ⟨rfl, hr⟩
    exact hr.length (fun x c hx => k.len hx)
  one := by
    rintro h x cs ⟨rfl, hr⟩
    exact hr.all (fun x c hx => k.one hx)
  mono := by
    rintro h h' x cs hl ⟨e, hr⟩
    exact ⟨e, hr.imp (fun x c hx => k.mono hl hx)⟩
def kSt {α : Type} (n : Nat) (fl : α → List FP) (hn : ∀ x, fsum (fl x) = n) : Kind α where
  sz := n
  agg := true
  flat := fun e => by cases e
  K := fun h x cs => RowF h (fl x) cs
  len := fun {h x cs} e => by rw [e.length, hn]
  one := fun e => e.one
  mono := fun l e => e.mono l

theorem rep_int (k : IntKind) (n : Int) : Ent ((kI k).rep n) (Rep.is (.int k n)) := fun h v e => by
  rcases e with ⟨e, _⟩ | ⟨_, e⟩
  · cases e
  · injection e
theorem int_rep (k : IntKind) (n : Int) : Ent (Rep.is (.int k n)) ((kI k).rep n) := fun h v e => by cases e; exact .inr ⟨rfl, rfl⟩
theorem rep_bool (b : Bool) : Ent (kB.rep b) (Rep.is (.bool b)) := fun h v e => by
  rcases e with ⟨e, _⟩ | ⟨_, e⟩
  · cases e
  · injection e
theorem bool_rep (b : Bool) : Ent (Rep.is (.bool b)) (kB.rep b) := fun h v e => by cases e; exact .inr ⟨rfl, rfl⟩
theorem rep_str (s : ByteArray) : Ent (kS.rep s) (Rep.is (.string s)) := fun h v e => by
  rcases e with ⟨e, _⟩ | ⟨_, e⟩
  · cases e
  · injection e
theorem str_rep (s : ByteArray) : Ent (Rep.is (.string s)) (kS.rep s) := fun h v e => by cases e; exact .inr ⟨rfl, rfl⟩
theorem rep_u8 (b : UInt8) : Ent (kU8.rep b) (Rep.is (.int .u8 b.toNat)) := fun h v e => by
  rcases e with ⟨e, _⟩ | ⟨_, e⟩
  · cases e
  · injection e
theorem u8_rep (b : UInt8) : Ent (Rep.is (.int .u8 b.toNat)) (kU8.rep b) := fun h v e => by cases e; exact .inr ⟨rfl, rfl⟩
theorem Ent.trans {R R' R'' : Rep} (a : Ent R R') (b : Ent R' R'') : Ent R R'' := fun h v e => b h v (a h v e)
/-- A slice's value. -/
theorem sl_form {α : Type} {k : Kind α} {l : List α} {h : PH} {v : Value} (e : ((kSl k).rep l).p h v) : ∃ A c, v = .slice A l.length c ∧ l.length ≤ c ∧ l.length ≤ 9223372036854775807 ∧ (0 < l.length → ∃ a ds, A = some a ∧ a.spot = none ∧ Rows (k.K h) l ds ∧ At h a ds) := by
  rcases e with ⟨e, _⟩ | ⟨_, A, c, e, r⟩
  · cases e
  · exact ⟨A, c, by injection e, r⟩
theorem sl_mk {α : Type} {k : Kind α} {l : List α} {h : PH} {A : Option Addr} {c : Nat} (h1 : l.length ≤ c) (h2 : l.length ≤ 9223372036854775807) (h3 : 0 < l.length → ∃ a ds, A = some a ∧ a.spot = none ∧ Rows (k.K h) l ds ∧ At h a ds) : ((kSl k).rep l).p h (.slice A l.length c) :=
  .inr ⟨rfl, A, c, rfl, h1, h2, h3⟩
theorem nil_sl {α : Type} (k : Kind α) : Ent (Rep.is (.slice none 0 0)) ((kSl k).rep []) := fun h v e => by
  cases e
  exact .inr ⟨rfl, none, 0, rfl, by simp, by simp, fun hp => absurd hp (by simp)⟩

/-! ### Operations -/
section
variable {P : Program} {V : World → PH → Prop} {Γ : Nat → Rep} {o : Oper}
theorem OpC.of {R : Rep} (hk : ∀ (a : Act) (w : World) (h : PH), Pub h w → V w h → (∀ x, x ∈ o.op.operands.toList → (opd Γ x).p h (a.eval x)) → ∃ v w' h', (execOp a.eval o).run P w = .ok (.value v) w' ∧ Step w h w' h' ∧ R.p h' v) : OpC P V o Γ (plain R) := by
  intro a w h hp hv ho K Q k
  obtain ⟨v, w', h', hr, hs, hR⟩ := hk a w h hp hv ho
  unfold Oper.wp
  rw [hr]
  exact k v w' h' hs hR (Owns.nil _ _ _)
theorem OpC.pure {R : Rep} (hk : ∀ (a : Act) (w : World) (h : PH), Pub h w → (∀ x, x ∈ o.op.operands.toList → (opd Γ x).p h (a.eval x)) → ∃ v, (execOp a.eval o).run P w = .ok (.value v) w ∧ R.p h v) : OpC P V o Γ (plain R) :=
  OpC.of fun a w h hp _ ho => by
    obtain ⟨v, hr, hR⟩ := hk a w h hp ho
    exact ⟨v, w, h, hr, Step.refl hp, hR⟩
theorem OpC.weak {R R' : Rep} (hk : OpC P V o Γ (plain R)) (e : Ent R R') : OpC P V o Γ (plain R') := fun a w h hp hv ho K Q k => hk a w h hp hv ho K Q fun v w' h' hs hR how => k v w' h' hs (e _ _ hR) how
theorem run_v {s : Sem Value} {w w' : World} {v : Value} (h : s.run P w = .ok v w') : (do Pure.pure (Next.value (← s)) : Sem Next).run P w = .ok (.value v) w' := by
  simp [Sem.run_bind, h, Result.andThen]

theorem op_move {x : Operand} {R : Rep} (ho : o.op = .move x) (hx : Ent (opd Γ x) R) : OpC P V o Γ (plain R) := OpC.pure fun a w h hp hop =>
  ⟨_, by simp only [execOp, ho]; rfl, hx _ _ (hop x (by simp [ho, Op.operands]))⟩
theorem op_assign {x : Operand} {R : Rep} (ho : o.op = .assign x) (hx : Ent (opd Γ x) R) : OpC P V o Γ (plain R) := OpC.pure fun a w h hp hop =>
  ⟨_, by simp only [execOp, ho]; rfl, hx _ _ (hop x (by simp [ho, Op.operands]))⟩
theorem op_and {c x y : Operand} {B C : Bool} (ho : o.op = .pick c x y) (hc : Ent (opd Γ c) (Rep.is (.bool B))) (hx : B = true → Ent (opd Γ x) (Rep.is (.bool C))) (hy : opd Γ y = Rep.is (.bool false)) : OpC P V o Γ (plain <| Rep.is (.bool (B && C))) := OpC.pure fun a w h hp hop => by
  have h1 := hc _ _ (hop c (by simp [ho, Op.operands]))
  have h3 := hop y (by simp [ho, Op.operands])
  rw [hy] at h3
  refine ⟨if B then a.eval x else a.eval y, ?_, ?_⟩
  · simp only [execOp, ho]; rw [h1]; simp [asBool, Sem.run_bind, Result.andThen]
  · cases B with
    | true => exact (hx rfl) _ _ (hop x (by simp [ho, Op.operands]))
    | false => exact h3
theorem op_or {c x y : Operand} {B C : Bool} (ho : o.op = .pick c x y) (hc : Ent (opd Γ c) (Rep.is (.bool B))) (hx : opd Γ x = Rep.is (.bool true)) (hy : B = false → Ent (opd Γ y) (Rep.is (.bool C))) : OpC P V o Γ (plain <| Rep.is (.bool (B || C))) := OpC.pure fun a w h hp hop => by
  have h1 := hc _ _ (hop c (by simp [ho, Op.operands]))
  have h3 := hop x (by simp [ho, Op.operands])
  rw [hx] at h3
  refine ⟨if B then a.eval x else a.eval y, ?_, ?_⟩
  · simp only [execOp, ho]; rw [h1]; simp [asBool, Sem.run_bind, Result.andThen]
  · cases B with
    | false => exact (hy rfl) _ _ (hop y (by simp [ho, Op.operands]))
    | true => exact h3

theorem beq_dec {α : Type} [BEq α] [LawfulBEq α] [DecidableEq α] (m n : α) : (m == n) = decide (m = n) := by rw [Bool.eq_iff_iff]; simp
/-- A binary operation of known outcome. -/
theorem op_bin {b : BinOp} {t t' : TypeId} {x y : Operand} {u v r : Value} (ho : o.op = .binOp b t x y t') (hx : Ent (opd Γ x) (Rep.is u)) (hy : Ent (opd Γ y) (Rep.is v))
    (hg : eqGuard b t x y u v = Pure.pure ()) (hb : ∀ w, (binOp b t u v).run P w = .ok r w) : OpC P V o Γ (plain <| Rep.is r) := OpC.pure fun a w h hp hop => by
  have h1 := hx _ _ (hop x (by simp [ho, Op.operands]))
  have h2 := hy _ _ (hop y (by simp [ho, Op.operands]))
  refine ⟨r, ?_, rfl⟩
  simp only [execOp, ho]
  rw [show a.eval x = u from h1, show a.eval y = v from h2, hg]
  exact run_v (by simp [Sem.run_bind, Result.andThen, hb])
section
variable {t t' : TypeId} {x y : Operand} {k : IntKind} {m n : Int}
theorem op_add (ho : o.op = .binOp .add t x y t') (hx : Ent (opd Γ x) (Rep.is (.int k m))) (hy : Ent (opd Γ y) (Rep.is (.int k n))) : OpC P V o Γ (plain <| Rep.is (.int k (k.wrap (m + n)))) := op_bin ho hx hy (by simp [go_sem]) (fun w => by simp [go_sem, Op.intArith])
theorem op_sub (ho : o.op = .binOp .sub t x y t') (hx : Ent (opd Γ x) (Rep.is (.int k m))) (hy : Ent (opd Γ y) (Rep.is (.int k n))) : OpC P V o Γ (plain <| Rep.is (.int k (k.wrap (m - n)))) := op_bin ho hx hy (by simp [go_sem]) (fun w => by simp [go_sem, Op.intArith])
theorem op_mul (ho : o.op = .binOp .mul t x y t') (hx : Ent (opd Γ x) (Rep.is (.int k m))) (hy : Ent (opd Γ y) (Rep.is (.int k n))) : OpC P V o Γ (plain <| Rep.is (.int k (k.wrap (m * n)))) := op_bin ho hx hy (by simp [go_sem]) (fun w => by simp [go_sem, Op.intArith])
theorem op_eql (ho : o.op = .binOp .eql t x y t') (hx : Ent (opd Γ x) (Rep.is (.int k m))) (hy : Ent (opd Γ y) (Rep.is (.int k n))) : OpC P V o Γ (plain <| Rep.is (.bool (decide (m = n)))) := op_bin ho hx hy (by simp [go_sem]) (fun w => by simp [go_sem, beq_dec])
theorem op_neq (ho : o.op = .binOp .neq t x y t') (hx : Ent (opd Γ x) (Rep.is (.int k m))) (hy : Ent (opd Γ y) (Rep.is (.int k n))) : OpC P V o Γ (plain <| Rep.is (.bool (decide (¬ m = n)))) := op_bin ho hx hy (by simp [go_sem]) (fun w => by simp [go_sem, bne, beq_dec])
theorem op_lss (ho : o.op = .binOp .lss t x y t') (hx : Ent (opd Γ x) (Rep.is (.int k m))) (hy : Ent (opd Γ y) (Rep.is (.int k n))) : OpC P V o Γ (plain <| Rep.is (.bool (decide (m < n)))) := op_bin ho hx hy (by simp [go_sem]) (fun w => by simp [go_sem])
theorem op_leq (ho : o.op = .binOp .leq t x y t') (hx : Ent (opd Γ x) (Rep.is (.int k m))) (hy : Ent (opd Γ y) (Rep.is (.int k n))) : OpC P V o Γ (plain <| Rep.is (.bool (decide (m ≤ n)))) := op_bin ho hx hy (by simp [go_sem]) (fun w => by simp [go_sem])
theorem op_gtr (ho : o.op = .binOp .gtr t x y t') (hx : Ent (opd Γ x) (Rep.is (.int k m))) (hy : Ent (opd Γ y) (Rep.is (.int k n))) : OpC P V o Γ (plain <| Rep.is (.bool (decide (n < m)))) := op_bin ho hx hy (by simp [go_sem]) (fun w => by simp [go_sem])
theorem op_geq (ho : o.op = .binOp .geq t x y t') (hx : Ent (opd Γ x) (Rep.is (.int k m))) (hy : Ent (opd Γ y) (Rep.is (.int k n))) : OpC P V o Γ (plain <| Rep.is (.bool (decide (n ≤ m)))) := op_bin ho hx hy (by simp [go_sem]) (fun w => by simp [go_sem])
theorem op_and_bits (ho : o.op = .binOp .and t x y t') (hx : Ent (opd Γ x) (Rep.is (.int k m))) (hy : Ent (opd Γ y) (Rep.is (.int k n))) : OpC P V o Γ (plain <| Rep.is (.int k (bits .and k m n))) := op_bin ho hx hy (by simp [go_sem]) (fun w => by simp [go_sem])
theorem op_or_bits (ho : o.op = .binOp .or t x y t') (hx : Ent (opd Γ x) (Rep.is (.int k m))) (hy : Ent (opd Γ y) (Rep.is (.int k n))) : OpC P V o Γ (plain <| Rep.is (.int k (bits .or k m n))) := op_bin ho hx hy (by simp [go_sem]) (fun w => by simp [go_sem])
theorem op_xor_bits (ho : o.op = .binOp .xor t x y t') (hx : Ent (opd Γ x) (Rep.is (.int k m))) (hy : Ent (opd Γ y) (Rep.is (.int k n))) : OpC P V o Γ (plain <| Rep.is (.int k (bits .xor k m n))) := op_bin ho hx hy (by simp [go_sem]) (fun w => by simp [go_sem])
theorem op_andNot_bits (ho : o.op = .binOp .andNot t x y t') (hx : Ent (opd Γ x) (Rep.is (.int k m))) (hy : Ent (opd Γ y) (Rep.is (.int k n))) : OpC P V o Γ (plain <| Rep.is (.int k (bits .andNot k m n))) := op_bin ho hx hy (by simp [go_sem]) (fun w => by simp [go_sem])
end
section
variable {t t' : TypeId} {x y : Operand}
theorem toList_dec (a b : ByteArray) : (a.toList == b.toList) = decide (a = b) := by
  rw [Bool.eq_iff_iff, decide_eq_true_iff, beq_iff_eq]
  constructor
  · intro h
    rw [ByteArray.toList_eq, ByteArray.toList_eq] at h
    exact ByteArray.ext (Array.toList_inj.1 h)
  · rintro rfl; rfl
theorem op_seq {a b : ByteArray} (ho : o.op = .binOp .eql t x y t') (hx : Ent (opd Γ x) (Rep.is (.string a))) (hy : Ent (opd Γ y) (Rep.is (.string b))) : OpC P V o Γ (plain <| Rep.is (.bool (decide (a = b)))) := op_bin ho hx hy (by simp [go_sem]) (fun w => by rw [binOp_string_eql, toList_dec]; rfl)
theorem op_sne {a b : ByteArray} (ho : o.op = .binOp .neq t x y t') (hx : Ent (opd Γ x) (Rep.is (.string a))) (hy : Ent (opd Γ y) (Rep.is (.string b))) : OpC P V o Γ (plain <| Rep.is (.bool (decide (¬ a = b)))) := op_bin ho hx hy (by simp [go_sem]) (fun w => by rw [binOp_string_neq, toList_dec]; simp)
theorem op_beq {a b : Bool} (ho : o.op = .binOp .eql t x y t') (ht : P.underlying t = some .bool) (hx : Ent (opd Γ x) (Rep.is (.bool a))) (hy : Ent (opd Γ y) (Rep.is (.bool b))) : OpC P V o Γ (plain <| Rep.is (.bool (decide (a = b)))) := op_bin ho hx hy (by simp [go_sem]) (fun w => by simp [binOp, go_sem, beq_dec, Op.equal, show Op.maxDepth = 9999 + 1 from rfl, run_equalIn_bool' w 9999 t a b ht])
theorem op_not {a : Bool} (ho : o.op = .unOp .not t x) (hx : Ent (opd Γ x) (Rep.is (.bool a))) : OpC P V o Γ (plain <| Rep.is (.bool (!a))) := OpC.pure fun A w h hp hop => by
  have h1 := hx _ _ (hop x (by simp [ho, Op.operands]))
  refine ⟨_, ?_, rfl⟩
  simp only [execOp, ho]
  rw [show A.eval x = _ from h1]
  exact run_v rfl
theorem op_conv {k k' : IntKind} {n : Int} (ho : o.op = .convert t t' x) (hx : Ent (opd Γ x) (Rep.is (.int k n))) (hs : (P.underlying t).isSome = true) (hd : P.underlying t' = some (.int k')) : OpC P V o Γ (plain <| Rep.is (.int k' (k'.wrap n))) := OpC.pure fun A w h hp hop => by
  have h1 := hx _ _ (hop x (by simp [ho, Op.operands]))
  refine ⟨_, ?_, rfl⟩
  simp only [execOp, ho]
  rw [show A.eval x = _ from h1]
  refine run_v ?_
  obtain ⟨d, hd'⟩ := Option.isSome_iff_exists.1 hs
  cases d <;> simp [convert, hd', hd, run_underlying hd', run_underlying hd, go_sem]
/-! #### memory -/

def aggD : TypeDesc → Bool | .struct _ | .array _ _ => true | _ => false
theorem run_isAgg {d : TypeDesc} (ht : P.underlying t = some d) (w : World) : (isAgg t).run P w = .ok (aggD d) w := by
  unfold isAgg
  rw [Sem.run_bind, run_underlying ht w]
  cases d <;> rfl
theorem run_sizeOf' {t : TypeId} {n : Nat} (hs : (P.info? t).map (·.size) = some n) (w : World) : (sizeOf t).run P w = .ok n w := by
  cases hq : P.info? t with
  | none => simp [hq] at hs
  | some i =>
    have : i.size = n := by simpa [hq] using hs
    simp [sizeOf, typeInfo, hq, this]
theorem loaded {f : FP} {d : TypeDesc} (ht : P.underlying t = some d) (hd : aggD d = f.agg) (hs : (P.info? t).map (·.size) = some f.n) {a : Addr} {cs : List Value} {h : PH} {w : World} (hp : Pub h w) (hk : f.K h cs) (hat : At h a cs) :
    ∃ v, (loadVar t a).run P w = .ok v w ∧ f.V h v := by
  have hl := f.len hk
  cases ha : f.agg with
  | true =>
    refine ⟨.agg cs.toArray, ?_, .inl ⟨ha, cs.toArray, rfl, by simpa using hk⟩⟩
    have h1 := run_loadCells_list (P := P) w a cs (fun j v hv => hp _ _ (hat j v hv))
    simp [loadVar, Sem.run_bind, run_isAgg ht, hd, ha, run_sizeOf' hs, ← hl, h1]
  | false =>
    have h1 := f.flat ha
    rw [h1] at hl
    match cs, hl with
    | [v], _ =>
      refine ⟨v, ?_, .inr ⟨ha, hk⟩⟩
      have := hp _ _ (hat 0 v rfl)
      rw [Addr.add_zero'] at this
      simp [loadVar, Sem.run_bind, run_isAgg ht, hd, ha, this]
theorem op_load {f : FP} {d : TypeDesc} (ho : o.op = .load t x) (hx : Ent (opd Γ x) (ptr f)) (ht : P.underlying t = some d) (hd : aggD d = f.agg) (hs : (P.info? t).map (·.size) = some f.n) : OpC P V o Γ (plain f.rep) := OpC.pure fun A w h hp hop => by
  obtain ⟨ad, cs, he, _, hk, hat⟩ := hx _ _ (hop x (by simp [ho, Op.operands]))
  obtain ⟨v, hr, hv⟩ := loaded ht hd hs hp hk hat
  refine ⟨v, ?_, hv⟩
  simp only [execOp, ho]
  rw [he]
  exact run_v (by simp [Instr.loadAt, Instr.sureAddr, hr])

theorem run_fieldAt {fs : Array Field} {fd : Field} {i n : Nat} (ht : P.underlying t = some (.struct fs)) (hf : fs[i]? = some fd) (hs : (P.info? fd.type).map (·.size) = some (n + 1)) (a : Addr) (w : World) :
    (Instr.fieldAt t (.pointer (some a)) i).run P w = .ok (.pointer (some (a.add fd.offset))) w := by
  simp [Instr.fieldAt, run_underlying ht, hf, Instr.sureAddr, fieldPlace, run_sizeOf' hs]
/-- The address of a struct's field. -/
theorem op_field {f g : FP} {l : List FP} {fs : Array Field} {fd : Field} {i n : Nat} (ho : o.op = .fieldAddr t x i) (hx : Ent (opd Γ x) (ptr f)) (hl : ∀ h cs, f.K h cs → RowF h l cs) (hi : l[i]? = some g)
    (ht : P.underlying t = some (.struct fs)) (hf : fs[i]? = some fd) (hs : (P.info? fd.type).map (·.size) = some (n + 1)) (hoff : fd.offset = fsum (l.take i)) : OpC P V o Γ (plain <| ptr g) := OpC.pure fun A w h hp hop => by
  obtain ⟨ad, cs, he, hsp, hk, hat⟩ := hx _ _ (hop x (by simp [ho, Op.operands]))
  obtain ⟨c, c1, c2, rfl, h1, h2, _, _⟩ := (hl h cs hk).split i g hi
  refine ⟨.pointer (some (ad.add fd.offset)), ?_, ad.add fd.offset, c, rfl, spot_add _ _ hsp, h2, ?_⟩
  · simp only [execOp, ho]
    rw [he]
    exact run_v (run_fieldAt ht hf hs ad w)
  · rw [hoff, ← h1]
    exact (hat.right hsp).left

/-- What a new block publishes. -/
def pubRow (h : PH) (g : Nat) (cs : Array Value) : PH := fun a => if a.block = g then (if a.spot.isSome then none else cs[a.off]?) else h a
theorem Step.pubRow {w : World} {h : PH} (hp : Pub h w) (cs : Array Value) (e : TypeId) : Step w h (w.alloc (.cells cs e)) (pubRow h w.heap.size cs) := by
  have hle : PLe h (Go.Proofs.YtdioiepkbolnlaaGreatDoor.pubRow h w.heap.size cs) := fun a v hv => by
    have := hp.lt hv
    unfold Go.Proofs.YtdioiepkbolnlaaGreatDoor.pubRow
    rw [if_neg (by omega)]; exact hv
  refine ⟨(Below.refl _ _).alloc (Nat.le_refl _) _, hle, fun a v hb hv => ?_, ⟨fun a v hv => ?_, hp.tab.trans hle⟩⟩
  · unfold Go.Proofs.YtdioiepkbolnlaaGreatDoor.pubRow at hv
    rw [if_neg (by omega)] at hv; exact hv
  · unfold Go.Proofs.YtdioiepkbolnlaaGreatDoor.pubRow at hv
    by_cases hb : a.block = w.heap.size
    · rw [if_pos hb] at hv
      have := heap_alloc_new w (.cells cs e)
      simp only [World.cell?, hb, this]
      exact hv
    · rw [if_neg hb] at hv
      have := hp a v hv
      rw [World.cell?_of_block (w := w)]
      · exact this
      · exact Below.heap_alloc w _ _ (hp.lt hv)
theorem At.pubRow (h : PH) (g : Nat) (cs : Array Value) : At (pubRow h g cs) ⟨g, 0, none⟩ cs.toList := by
  intro j u hu
  have : (⟨g, 0, none⟩ : Addr).add j = ⟨g, j, none⟩ := by unfold Addr.add; split <;> simp_all
  rw [this]
  simpa [Go.Proofs.YtdioiepkbolnlaaGreatDoor.pubRow] using hu
/-- A variable that is not written again. -/
theorem op_box {f : FP} (ho : o.op = .box t x) (hx : Ent (opd Γ x) f.rep) : OpC P V o Γ (plain <| ptr f) := OpC.of fun A w h hp _ hop => by
  have h1 : f.V h (A.eval x) := hx _ _ (hop x (by simp [ho, Op.operands]))
  have hst := Step.pubRow hp (A.eval x).cells t
  refine ⟨.pointer (some ⟨w.heap.size, 0, none⟩), _, _, ?_, hst, _, _, rfl, rfl, f.mono hst.le h1.cells, At.pubRow _ _ _⟩
  simp only [execOp, ho]
  exact run_v (by simp [Instr.box, newVar, newRow])

end
end
end Go.Proofs.YtdioiepkbolnlaaGreatDoor
