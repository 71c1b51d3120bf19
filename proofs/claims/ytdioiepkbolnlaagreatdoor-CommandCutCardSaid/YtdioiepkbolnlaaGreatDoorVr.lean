/- The walk's own small logic: what slots hold is told by predicates on published cells; a region in whatever order. Nothing of the program is in it. -/
import Derived.WalkKit
import Derived.WalkSpells
import Derived.WalkLawsBesides
import Derived.Orders
import Derived.Test.YtdioiepkbolnlaaGreatDoorTab
set_option linter.unusedSimpArgs false
set_option linter.unusedVariables false
set_option linter.unnecessarySimpa false
namespace Go.Proofs.YtdioiepkbolnlaaGreatDoor
open Go.RowKit

/-- Published cells. -/
abbrev PH := Addr → Option Value
def PLe (h h' : PH) : Prop := ∀ a v, h a = some v → h' a = some v
structure Pub (h : PH) (w : World) : Prop where
  get : ∀ a v, h a = some v → w.cell? a = some v
  tab : PLe tab h
instance (h : PH) (w : World) : CoeFun (Pub h w) (fun _ => ∀ a v, h a = some v → w.cell? a = some v) := ⟨Pub.get⟩
theorem PLe.refl (h : PH) : PLe h h := fun _ _ e => e
theorem PLe.trans {a b c : PH} (x : PLe a b) (y : PLe b c) : PLe a c := fun p v e => y p v (x p v e)

/-- The world has grown, and so has what is published; nothing old has turned. -/
structure Step (w : World) (h : PH) (w' : World) (h' : PH) : Prop where
  ext : Below w.heap.size w w'
  le : PLe h h'
  new : ∀ a v, a.block < w.heap.size → h' a = some v → h a = some v
  pub : Pub h' w'
theorem Step.refl {w : World} {h : PH} (p : Pub h w) : Step w h w h := ⟨Below.refl _ _, PLe.refl h, fun _ _ _ e => e, p⟩
theorem Step.trans {w w1 w2 : World} {h h1 h2 : PH} (x : Step w h w1 h1) (y : Step w1 h1 w2 h2) : Step w h w2 h2 :=
  ⟨x.ext.trans (y.ext.mono x.ext.size), x.le.trans y.le, fun a v hb e => x.new a v hb (y.new a v (Nat.lt_of_lt_of_le hb x.ext.size) e), y.pub⟩
theorem Pub.below {w w' : World} {h : PH} (p : Pub h w) (b : Below w.heap.size w w') : Pub h w' :=
  ⟨fun a v e => (b.cell (World.block_lt_of_cell? w a (p a v e))).trans (p a v e), p.tab⟩
theorem Step.same {w w' : World} {h : PH} (p : Pub h w) (b : Below w.heap.size w w') : Step w h w' h := ⟨b, PLe.refl h, fun _ _ _ e => e, p.below b⟩
theorem Pub.lt {w : World} {h : PH} (p : Pub h w) {a : Addr} {v : Value} (e : h a = some v) : a.block < w.heap.size := World.block_lt_of_cell? w a (p a v e)

/-- What a slot holds. -/
structure Rep where
  p : PH → Value → Prop
  mono : ∀ {h h' v}, PLe h h' → p h v → p h' v
def Rep.any : Rep := ⟨fun _ _ => True, fun _ _ => trivial⟩
def Rep.is (u : Value) : Rep := ⟨fun _ v => v = u, fun _ e => e⟩
def Rep.cond (q : Prop) (R : Rep) : Rep := ⟨fun h v => (q → R.p h v) ∧ (¬ q → v = undef), fun l e => ⟨fun hq => R.mono l (e.1 hq), e.2⟩⟩
def Ent (R R' : Rep) : Prop := ∀ h v, R.p h v → R'.p h v
theorem Ent.refl (R : Rep) : Ent R R := fun _ _ e => e
theorem Ent.cond {q : Prop} {R R' : Rep} (hq : q) (e : Ent R R') : Ent (Rep.cond q R) R' := fun h v x => e h v (x.1 hq)
theorem Ent.any (R : Rep) : Ent R Rep.any := fun _ _ _ => trivial

def upd (Γ : Nat → Rep) (d : Nat) (R : Rep) : Nat → Rep := fun s => if s = d then R else Γ s
def updO (Γ : Nat → Rep) : Option Nat → Rep → Nat → Rep
  | some d, R => upd Γ d R
  | none, _ => Γ
def opd (Γ : Nat → Rep) : Operand → Rep
  | .tmp s => Γ s
  | .const v => Rep.is v
  | .global g => Rep.is (.pointer (some ⟨g, 0, none⟩))
  | .func f => Rep.is (.func (.func f) #[] #[])
def tv (a : Act) (s : Nat) : Value := a.tmps.getD s undef
def Sat (Γ : Nat → Rep) (h : PH) (a : Act) : Prop := ∀ s, (Γ s).p h (tv a s)
theorem Sat.opd {Γ : Nat → Rep} {h : PH} {a : Act} (e : Sat Γ h a) (x : Operand) : (opd Γ x).p h (a.eval x) := by
  cases x with
  | tmp s => exact e s
  | const v => rfl
  | global g => rfl
  | func f => rfl
theorem Sat.mono {Γ : Nat → Rep} {h h' : PH} {a : Act} (e : Sat Γ h a) (l : PLe h h') : Sat Γ h' a := fun s => (Γ s).mono l (e s)
theorem tv_put (a : Act) (d s : Nat) (v : Value) (hd : d < a.tmps.size) : tv (a.put (some d) v) s = if s = d then v else tv a s := by
  unfold tv Act.put
  by_cases e : s = d
  · subst e; simp [hd, Array.getD_eq_getD_getElem?]
  · simp [e, Ne.symm e, Array.getD_eq_getD_getElem?]
theorem size_put (a : Act) (d : Option Nat) (v : Value) : (a.put d v).tmps.size = a.tmps.size := by cases d <;> simp [Act.put]
theorem defers_put (a : Act) (d : Option Nat) (v : Value) : (a.put d v).defers = a.defers := by cases d <;> simp [Act.put]

/-- Something that the call owns: it stands as long as its blocks, and what is published of them, stay. -/
structure OI where
  B : Nat → Prop
  p : World → PH → Prop
  fr : ∀ {w w' : World} {h h' : PH}, p w h → w.heap.size ≤ w'.heap.size → (∀ b, B b → w'.heap[b]? = w.heap[b]?) → PLe h h' → (∀ a v, B a.block → h' a = some v → h a = some v) → p w' h'
  lt : ∀ {w : World} {h : PH}, p w h → ∀ b, B b → b < w.heap.size
def Owns (lo : Nat → Prop) (l : List OI) (w : World) (h : PH) : Prop := (∀ I ∈ l, I.p w h ∧ ∀ b, I.B b → lo b) ∧ l.Pairwise (fun I J => ∀ b, I.B b → J.B b → False)
theorem Owns.nil (lo : Nat → Prop) (w : World) (h : PH) : Owns lo [] w h := ⟨fun I hI => (by cases hI), List.Pairwise.nil⟩
theorem Owns.step {lo : Nat → Prop} {l : List OI} {w w' : World} {h h' : PH} (o : Owns lo l w h) (s : Step w h w' h') : Owns lo l w' h' :=
  ⟨fun I hI => ⟨I.fr (o.1 I hI).1 s.ext.size (fun b hb => s.ext.block b (I.lt (o.1 I hI).1 b hb)) s.le (fun a v hb e => s.new a v (I.lt (o.1 I hI).1 _ hb) e), (o.1 I hI).2⟩, o.2⟩
theorem Owns.cons {lo : Nat → Prop} {l : List OI} {I : OI} {w : World} {h : PH} (o : Owns lo l w h) (hp : I.p w h) (hlo : ∀ b, I.B b → lo b) (hd : ∀ J ∈ l, ∀ b, I.B b → J.B b → False) : Owns lo (I :: l) w h :=
  ⟨fun J hJ => (by
    rcases List.mem_cons.1 hJ with rfl | hJ
    · exact ⟨hp, hlo⟩
    · exact o.1 J hJ), List.pairwise_cons.2 ⟨hd, o.2⟩⟩
theorem Owns.tail {lo : Nat → Prop} {l : List OI} {I : OI} {w : World} {h : PH} (o : Owns lo (I :: l) w h) : Owns lo l w h := ⟨fun J hJ => o.1 J (List.mem_cons_of_mem _ hJ), (List.pairwise_cons.1 o.2).2⟩
theorem Owns.perm {lo : Nat → Prop} {l l' : List OI} {w : World} {h : PH} (o : Owns lo l w h) (p : l.Perm l') : Owns lo l' w h :=
  ⟨fun I hI => o.1 I (p.mem_iff.2 hI), (p.pairwise_iff (fun {I J} f b hj hi => f b hi hj)).1 o.2⟩

/-- What a result is, and what of it is the caller's to turn. -/
structure Out where
  R : Rep
  own : Bool
  I : Value → List OI
def Out.it (u : Out) (v : Value) : List OI := if u.own then u.I v else []
def plain (R : Rep) : Out := ⟨R, false, fun _ => []⟩
theorem Owns.app {lo : Nat → Prop} {n : Nat} {l m : List OI} {w : World} {h : PH} (o : Owns lo l w h) (o' : Owns (n ≤ ·) m w h) (hl : ∀ b, n ≤ b → lo b) (hd : ∀ I ∈ l, ∀ b, I.B b → b < n) : Owns lo (m ++ l) w h :=
  ⟨fun I hI => by
    rcases List.mem_append.1 hI with hI | hI
    · exact ⟨(o'.1 I hI).1, fun b hb => hl b ((o'.1 I hI).2 b hb)⟩
    · exact o.1 I hI, List.pairwise_append.2 ⟨o'.2, o.2, fun I hI J hJ b hb hb' => by
    have h1 := (o'.1 I hI).2 b hb
    have h2 := hd J hJ b hb'
    omega⟩⟩
/-- One operation, whatever else has been done: from what its operands hold to what its result is. V: what holds of the world all the time. -/
def OpC (P : Program) (V : World → PH → Prop) (o : Oper) (Γ : Nat → Rep) (u : Out) : Prop :=
  ∀ (a : Act) (w : World) (h : PH), Pub h w → V w h → (∀ x, x ∈ o.op.operands.toList → (opd Γ x).p h (a.eval x)) →
    ∀ (K : Act → World → Prop) (Q : Exit → Act → World → Prop), (∀ v w' h', Step w h w' h' → u.R.p h' v → Owns (w.heap.size ≤ ·) (u.it v) w' h' → K (a.put o.dst v) w') → o.wp P a w K Q
def gslot (ops : Array Oper) (g : Nat) : Option Nat := (ops[g]?).bind (·.dst)
def OpG (P : Program) (V : World → PH → Prop) (ops : Array Oper) (o : Oper) (Γ : Nat → Rep) (u : Out) : Prop :=
  match o.guard with
  | none => OpC P V o Γ u
  | some (g, want) => ∃ (d : Nat) (q : Prop) (B : Bool) (R' : Rep), gslot ops g = some d ∧ (∀ h v, (Γ d).p h v → (q → v = .bool B) ∧ (¬ q → v = undef)) ∧ u = plain (Rep.cond (q ∧ B = want) R') ∧ (q → B = want → OpC P V o Γ (plain R'))
section
variable {P : Program} {V : World → PH → Prop} {ops : Array Oper} {o : Oper} {Γ : Nat → Rep}
theorem OpG.none_ {u : Out} (hg : o.guard = none) (h : OpC P V o Γ u) : OpG P V ops o Γ u := by
  unfold OpG; rw [hg]; exact h
theorem OpG.one_ {R' : Rep} {g d : Nat} {want B : Bool} (hg : o.guard = some (g, want)) (hd : gslot ops g = some d) (hb : Γ d = Rep.is (.bool B))
    (h : B = want → OpC P V o Γ (plain R')) : OpG P V ops o Γ (plain (Rep.cond (True ∧ B = want) R')) := by
  unfold OpG; rw [hg]
  refine ⟨d, True, B, R', hd, fun h v e => ⟨fun _ => ?_, fun e => (e trivial).elim⟩, rfl, fun _ => h⟩
  rw [hb] at e; exact e
theorem OpG.two_ {R' : Rep} {g d : Nat} {want B : Bool} {q : Prop} (hg : o.guard = some (g, want)) (hd : gslot ops g = some d) (hb : Γ d = Rep.cond q (Rep.is (.bool B)))
    (h : q → B = want → OpC P V o Γ (plain R')) : OpG P V ops o Γ (plain (Rep.cond (q ∧ B = want) R')) := by
  unfold OpG; rw [hg]
  refine ⟨d, q, B, R', hd, fun h v e => ?_, rfl, h⟩
  rw [hb] at e; exact e
end
def OpsG (P : Program) (V : World → PH → Prop) (ops : Array Oper) : List Oper → (Nat → Rep) → List Out → Prop
  | _, _, [] => True
  | o :: os, Γ, u :: us => OpG P V ops o Γ u ∧ OpsG P V ops os (updO Γ o.dst u.R) us
  | [], _, _ :: _ => False
def envs : (Nat → Rep) → List Oper → List Out → Nat → Rep
  | Γ, o :: os, u :: us => envs (updO Γ o.dst u.R) os us
  | Γ, _, _ => Γ

/-! ### The look over a region's text -/
def oprs (o : Oper) : List Nat := (o.after.toList.filter (fun e => Region.binds .any e)).map (·.on)
def prs (ops : Array Oper) (i : Nat) : List Nat := match ops[i]? with | some o => oprs o | none => []
def bfs (ops : Array Oper) : Nat → List Nat → List Nat → List Nat
  | 0, _, seen => seen
  | _ + 1, [], seen => seen
  | f + 1, i :: todo, seen => if seen.contains i then bfs ops f todo seen else bfs ops f (prs ops i ++ todo) (i :: seen)
def ancs (ops : Array Oper) (i : Nat) : List Nat := bfs ops (ops.size * 6) (prs ops i) []
def wr (ops : Array Oper) (s j : Nat) : Bool := gslot ops j == some s
def slots (ops : Array Oper) (o : Oper) : List Nat := o.looksAt ops ++ o.dst.toList
/-- The first m operations in whatever order their edges leave, what is behind them in the text's. F: whose result is the caller's to turn. -/
def regOk (nt m : Nat) (F : List Bool) (ops : Array Oper) : Bool :=
  let A := (List.range ops.size).map (ancs ops)
  decide (m ≤ ops.size) &&
  ((List.range m).all fun i => match ops[i]? with
    | none => false
    | some o => (match o.dst with | some d => decide (d < nt) | none => true) && (match o.guard with | some (g, _) => decide (g < i) | none => true) &&
        ((slots ops o).all fun s => (List.range m).all fun j => !wr ops s j || j == i || (if j < i then (A.getD i []).contains j else (A.getD j []).contains i)) &&
        (!F.getD i false || (o.dst.isSome && (List.range m).all fun j => j == i || !(gslot ops j == o.dst)))) &&
  ((List.range ops.size).all fun i => (prs ops i).all (· < i) && (decide (i < m) || (List.range i).all fun j => (A.getD i []).contains j))

def Cl (ops : Array Oper) (L : Nat → Prop) : Prop := ∀ i, L i → ∀ j ∈ prs ops i, L j
theorem bfs_in {ops : Array Oper} {L : Nat → Prop} (hc : Cl ops L) : ∀ (f : Nat) (todo seen : List Nat), (∀ j ∈ todo, L j) → (∀ j ∈ seen, L j) → ∀ j ∈ bfs ops f todo seen, L j
  | 0, _, _, _, hs => by simpa [bfs] using hs
  | f + 1, [], seen, _, hs => by simpa [bfs] using hs
  | f + 1, i :: todo, seen, ht, hs => by
    unfold bfs
    split
    · exact bfs_in hc f todo seen (fun j hj => ht j (List.mem_cons_of_mem _ hj)) hs
    · refine bfs_in hc f _ _ (fun j hj => ?_) (fun j hj => ?_)
      · rcases List.mem_append.1 hj with hj | hj
        · exact hc i (ht i List.mem_cons_self) j hj
        · exact ht j (List.mem_cons_of_mem _ hj)
      · rcases List.mem_cons.1 hj with rfl | hj
        · exact ht _ List.mem_cons_self
        · exact hs j hj
theorem ancs_in {ops : Array Oper} {L : Nat → Prop} (hc : Cl ops L) {i : Nat} (hp : ∀ j ∈ prs ops i, L j) : ∀ j ∈ ancs ops i, L j :=
  bfs_in hc _ _ _ hp (by simp)

/-- What the text's first n operations, those of them in L, have left. -/
def env (ops : Array Oper) (Γ : Nat → Rep) (Rs : Nat → Rep) (L : Nat → Bool) : Nat → Nat → Rep
  | 0 => Γ
  | n + 1 => if L n then updO (env ops Γ Rs L n) (gslot ops n) (Rs n) else env ops Γ Rs L n
theorem updO_ne {Γ : Nat → Rep} {d : Option Nat} {R : Rep} {s : Nat} (h : d ≠ some s) : updO Γ d R s = Γ s := by
  cases d with
  | none => rfl
  | some d => have : s ≠ d := fun e => h (by rw [e]); simp [updO, upd, this]
theorem updO_eq {Γ : Nat → Rep} {d : Nat} {R : Rep} : updO Γ (some d) R d = R := by simp [updO, upd]
theorem env_congr {ops : Array Oper} {Γ : Nat → Rep} {Rs : Nat → Rep} {L L' : Nat → Bool} {s : Nat} : ∀ n, (∀ j, j < n → wr ops s j = true → L j = L' j) → env ops Γ Rs L n s = env ops Γ Rs L' n s
  | 0, _ => rfl
  | n + 1, h => by
    have ih := env_congr (ops := ops) (Γ := Γ) (Rs := Rs) (L := L) (L' := L') (s := s) n (fun j hj => h j (by omega))
    unfold env
    by_cases hw : wr ops s n = true
    · rw [h n (by omega) hw]
      by_cases hl : L' n
      · simp only [hl, if_true]
        have : gslot ops n = some s := by simpa [wr] using hw
        rw [this, updO_eq, updO_eq]
      · simp only [hl]; exact ih
    · have hne : gslot ops n ≠ some s := fun e => hw (by simp [wr, e])
      by_cases h1 : L n <;> by_cases h2 : L' n <;> simp only [h1, h2, if_true] <;> first | exact ih | (rw [updO_ne hne]; first | exact ih | (rw [updO_ne hne]; exact ih)) | (rw [updO_ne hne]; exact ih)
theorem env_last {ops : Array Oper} {Γ : Nat → Rep} {Rs : Nat → Rep} {L : Nat → Bool} {s i : Nat} (hi : gslot ops i = some s) (hl : L i = true) : ∀ n, i < n → (∀ j, i < j → j < n → wr ops s j = true → L j = false) → env ops Γ Rs L n s = Rs i
  | 0, h, _ => absurd h (by omega)
  | n + 1, h, hj => by
    unfold env
    by_cases e : i = n
    · subst e; simp only [hl, if_true, hi, updO_eq]
    · have ih := env_last (Γ := Γ) (Rs := Rs) hi hl n (by omega) (fun j h1 h2 => hj j h1 (by omega))
      by_cases hw : wr ops s n = true
      · rw [hj n (by omega) (by omega) hw]; exact ih
      · have hne : gslot ops n ≠ some s := fun e => hw (by simp [wr, e])
        split
        · rw [updO_ne hne]; exact ih
        · exact ih

theorem env_trunc {ops : Array Oper} {Γ : Nat → Rep} {Rs : Nat → Rep} (i : Nat) : ∀ n, i ≤ n → env ops Γ Rs (fun j => decide (j < i)) n = env ops Γ Rs (fun _ => true) i
  | 0, h => by
    have : i = 0 := by omega
    subst this; rfl
  | n + 1, h => by
    by_cases e : i = n + 1
    · subst e
      funext s
      exact env_congr (n + 1) (fun j hj _ => by simp [hj])
    · have ih := env_trunc (ops := ops) (Γ := Γ) (Rs := Rs) i n (by omega)
      have hn : ¬ n < i := by omega
      unfold env
      simp only [hn, decide_false, Bool.false_eq_true, if_false]
      rw [ih]
      cases i <;> rfl

theorem flatMap_perm {α : Type} (f g : Nat → List α) (it : List α) (i : Nat) : ∀ l : List Nat, l.Nodup → i ∈ l → f i = [] → g i = it → (∀ j ∈ l, j ≠ i → g j = f j) → (it ++ l.flatMap f).Perm (l.flatMap g)
  | [], _, h, _, _, _ => by cases h
  | a :: l, hn, h, hf, hg, hj => by
    simp only [List.flatMap_cons]
    have hn' := List.nodup_cons.1 hn
    by_cases e : a = i
    · subst e
      rw [hf, hg]
      have : l.flatMap g = l.flatMap f := by
        have hh : ∀ j ∈ l, g j = f j := fun j hjl => hj j (List.mem_cons_of_mem _ hjl) (fun e => hn'.1 (e ▸ hjl))
        clear hj hn h hf hg hn'
        induction l with
        | nil => rfl
        | cons b l ih => rw [List.flatMap_cons, List.flatMap_cons, hh b List.mem_cons_self, ih (fun j hjl => hh j (List.mem_cons_of_mem _ hjl))]
      rw [this]; simp
    · have hil : i ∈ l := by
        rcases List.mem_cons.1 h with h | h
        · exact absurd h.symm e
        · exact h
      have ih := flatMap_perm f g it i l hn'.2 hil hf hg (fun j hjl => hj j (List.mem_cons_of_mem _ hjl))
      rw [hj a List.mem_cons_self e]
      refine List.Perm.trans ?_ (List.Perm.append_left (f a) ih)
      rw [← List.append_assoc, ← List.append_assoc]
      exact List.Perm.append_right _ List.perm_append_comm

/-- What the first operations have left in a slot. -/
def dv (ops : Array Oper) (a : Act) (j : Nat) : Value := match gslot ops j with | some d => tv a d | none => undef
def items (ops : Array Oper) (Us : Nat → Out) (L : Nat → Bool) (m : Nat) (a : Act) : List OI := (List.range m).flatMap fun j => if L j then (Us j).it (dv ops a j) else []
structure TS (ops : Array Oper) (nt m : Nat) (Γ : Nat → Rep) (Us : Nat → Out) (df : List Deferred) (w0 : World) (h0 : PH) (V : World → PH → Prop) (lo : Nat → Prop) (l0 : List OI) (L : Nat → Bool) (a : Act) (w : World) (h : PH) : Prop where
  size : a.tmps.size = nt
  defers : a.defers = df
  step : Step w0 h0 w h
  inv : V w h
  sat : ∀ s, (env ops Γ (fun j => (Us j).R) L m s).p h (tv a s)
  own : ∃ ml, Owns lo (ml ++ l0) w h ∧ ml.Perm (items ops Us L m a)

theorem regOk_le {nt m : Nat} {F : List Bool} {ops : Array Oper} (hok : regOk nt m F ops = true) : m ≤ ops.size := by
  unfold regOk at hok
  simp only [Bool.and_eq_true] at hok
  exact of_decide_eq_true hok.1.1
theorem regOk_prs {nt m : Nat} {F : List Bool} {ops : Array Oper} (hok : regOk nt m F ops = true) {i : Nat} (hi : i < ops.size) : (∀ j ∈ prs ops i, j < i) ∧ (m ≤ i → ∀ j, j < i → j ∈ ancs ops i) := by
  unfold regOk at hok
  simp only [Bool.and_eq_true] at hok
  have h := (List.all_eq_true.1 hok.2) i (List.mem_range.2 hi)
  simp only [Bool.and_eq_true] at h
  refine ⟨fun j hj => by simpa using (List.all_eq_true.1 h.1) j hj, fun hm j hj => ?_⟩
  have hl : ((List.range ops.size).map (ancs ops)).getD i [] = ancs ops i := by simp [List.getD, hi]
  have h2 := h.2
  simp only [show ¬ i < m by omega, decide_false, Bool.false_or, hl] at h2
  have := (List.all_eq_true.1 h2) j (List.mem_range.2 hj)
  simpa using this
theorem regOk_at {nt m : Nat} {F : List Bool} {ops : Array Oper} (hok : regOk nt m F ops = true) {i : Nat} {o : Oper} (hi : i < m) (ho : ops[i]? = some o) :
    (∀ d, o.dst = some d → d < nt) ∧ (∀ g b, o.guard = some (g, b) → g < i) ∧
    (∀ s ∈ slots ops o, ∀ j, j < m → wr ops s j = true → j ≠ i → (j < i → j ∈ ancs ops i) ∧ (i < j → i ∈ ancs ops j)) ∧
    (F.getD i false = true → (∃ d, o.dst = some d) ∧ ∀ j, j < m → j ≠ i → gslot ops j ≠ o.dst) := by
  have hm := regOk_le hok
  have hl : ∀ j, j < ops.size → ((List.range ops.size).map (ancs ops)).getD j [] = ancs ops j := fun j hj => by simp [List.getD, hj]
  unfold regOk at hok
  simp only [Bool.and_eq_true] at hok
  have h := (List.all_eq_true.1 hok.1.2) i (List.mem_range.2 hi)
  simp only [ho, Bool.and_eq_true] at h
  obtain ⟨⟨⟨h2, h3⟩, h4⟩, h6⟩ := h
  refine ⟨fun d hd => by simpa [hd] using h2, fun g b hg => by simpa [hg] using h3, fun s hs j hj hw hne => ?_, fun hF => ?_⟩
  · have h5 := (List.all_eq_true.1 ((List.all_eq_true.1 h4) s hs)) j (List.mem_range.2 hj)
    simp only [hw, Bool.not_true, Bool.false_or, Bool.or_eq_true, beq_iff_eq, hne, false_or, hl i (by omega), hl j (by omega)] at h5
    constructor
    · intro hlt
      simpa [hlt] using h5
    · intro hlt
      have : ¬ j < i := by omega
      simpa [this] using h5
  · simp only [hF, Bool.not_true, Bool.false_or, Bool.and_eq_true] at h6
    refine ⟨Option.isSome_iff_exists.1 h6.1, fun j hj hne => ?_⟩
    have := (List.all_eq_true.1 h6.2) j (List.mem_range.2 hj)
    simpa [hne] using this

section
variable {P : Program} {V : World → PH → Prop} {ops : Array Oper} {nt m : Nat} {F : List Bool} {Γ : Nat → Rep} {Us : Nat → Out} {df : List Deferred} {w0 : World} {h0 : PH} {lo : Nat → Prop} {l0 : List OI} {Q : Exit → Act → World → Prop}

theorem wpOp_typed (hV : ∀ w h w' h', V w h → Step w h w' h' → V w' h') (hlo : ∀ b, w0.heap.size ≤ b → lo b) (hok : regOk nt m F ops = true) (hF : ∀ i, i < m → (Us i).own = F.getD i false) (hops : ∀ i o, i < m → ops[i]? = some o → OpG P V ops o (env ops Γ (fun j => (Us j).R) (fun _ => true) i) (Us i)) {L : Nat → Bool} (hc : Cl ops (fun j => L j = true)) {i : Nat} (hi : i < m) (hn : L i = false) (hp : ∀ j ∈ prs ops i, L j = true)
    {a : Act} {w : World} {h : PH} (st : TS ops nt m Γ Us df w0 h0 V lo l0 L a w h) {K : Act → World → Prop} (k : ∀ a' w' h', TS ops nt m Γ Us df w0 h0 V lo l0 (fun j => decide (j = i) || L j) a' w' h' → K a' w') : wpOp P ops Q i K a w := by
  have hm := regOk_le hok
  obtain ⟨o, ho⟩ : ∃ o, ops[i]? = some o := ⟨ops[i]'(by omega), Array.getElem?_eq_getElem (by omega)⟩
  obtain ⟨c2, c3, c4, c5⟩ := regOk_at hok hi ho
  have hg : gslot ops i = o.dst := by simp [gslot, ho]
  have agree : ∀ s ∈ slots ops o, ∀ j, j < m → wr ops s j = true → j ≠ i → (L j = true ↔ j < i) := by
    intro s hs j hj hw hne
    obtain ⟨d1, d2⟩ := c4 s hs j hj hw hne
    constructor
    · intro hl
      rcases Nat.lt_or_ge j i with hlt | hge
      · exact hlt
      · have : L i = true := ancs_in hc (hc j hl) i (d2 (by omega))
        rw [this] at hn; cases hn
    · intro hlt
      exact ancs_in hc hp j (d1 hlt)
  have look : ∀ s ∈ slots ops o, env ops Γ (fun j => (Us j).R) L m s = env ops Γ (fun j => (Us j).R) (fun _ => true) i s := by
    intro s hs
    rw [← env_trunc i m (by omega)]
    refine env_congr _ (fun j hj hw => ?_)
    by_cases e : j = i
    · subst e; simp [hn]
    · have := agree s hs j hj hw e
      rw [Bool.eq_iff_iff]; simpa using this
  -- what follows a result
  have fin : ∀ (v : Value) (w' : World) (h' : PH), Step w h w' h' → (Us i).R.p h' v → Owns (w.heap.size ≤ ·) ((Us i).it v) w' h' → TS ops nt m Γ Us df w0 h0 V lo l0 (fun j => decide (j = i) || L j) (a.put o.dst v) w' h' := by
    intro v w' h' hs hr how
    have keep : ∀ s, o.dst ≠ some s → tv (a.put o.dst v) s = tv a s := by
      intro s e
      cases hd : o.dst with
      | none => rfl
      | some d =>
        rw [tv_put a d s v (by rw [st.size]; exact c2 d hd), if_neg]
        intro e2; exact e (by rw [hd, e2])
    refine ⟨(size_put _ _ _).trans st.size, (defers_put _ _ _).trans st.defers, st.step.trans hs, hV _ _ _ _ st.inv hs, fun s => ?_, ?_⟩
    · by_cases e : o.dst = some s
      · have hd : s < a.tmps.size := by rw [st.size]; exact c2 s e
        rw [e, tv_put a s s v hd, if_pos rfl]
        rw [env_last (i := i) (by rw [hg, e]) (by simp) m hi]
        · exact hr
        · intro j h1 h2 hw
          have hs' : s ∈ slots ops o := by simp [slots, e]
          have := agree s hs' j h2 hw (by omega)
          have hne : j ≠ i := by omega
          simp only [hne, decide_false, Bool.false_or]
          cases hl : L j
          · rfl
          · have := this.1 hl; omega
      · rw [keep s e]
        rw [env_congr (L' := L) m (fun j hj hw => by
          by_cases e2 : j = i
          · subst e2
            have : gslot ops j = some s := by simpa [wr] using hw
            exact absurd (hg.symm.trans this) e
          · simp [e2])]
        exact (env ops Γ (fun j => (Us j).R) L m s).mono hs.le (st.sat s)
    · obtain ⟨ml, ho1, ho2⟩ := st.own
      refine ⟨(Us i).it v ++ ml, ?_, ?_⟩
      · rw [List.append_assoc]
        exact (ho1.step hs).app how (fun b hb => hlo b (Nat.le_trans st.step.ext.size hb)) (fun I hI b hb => I.lt (ho1.1 I hI).1 b hb)
      · refine (List.Perm.append_left _ ho2).trans ?_
        refine flatMap_perm _ _ _ i (List.range m) List.nodup_range (List.mem_range.2 hi) (by simp [hn]) ?_ (fun j hj hne => ?_)
        · simp only [decide_true, Bool.true_or, if_true]
          by_cases hown : (Us i).own = true
          · obtain ⟨⟨d, hd⟩, _⟩ := c5 (by rw [← hF i hi]; exact hown)
            have : dv ops (a.put o.dst v) i = v := by
              unfold dv; rw [hg, hd]
              show tv (a.put (some d) v) d = v
              rw [tv_put a d d v (by rw [st.size]; exact c2 d hd), if_pos rfl]
            rw [this]
          · simp [Out.it, hown]
        · simp only [hne, decide_false, Bool.false_or]
          cases hl : L j
          · rfl
          · simp only [if_true]
            by_cases hown : (Us j).own = true
            · have hjm : j < m := List.mem_range.1 hj
              obtain ⟨oj, hoj⟩ : ∃ o, ops[j]? = some o := ⟨ops[j]'(by omega), Array.getElem?_eq_getElem (by omega)⟩
              obtain ⟨_, _, _, c6⟩ := regOk_at hok hjm hoj
              obtain ⟨⟨d, hd⟩, h7⟩ := c6 (by rw [← hF j hjm]; exact hown)
              have hne2 := h7 i hi (Ne.symm hne)
              have hgj : gslot ops j = some d := by simp [gslot, hoj, hd]
              have : dv ops (a.put o.dst v) j = dv ops a j := by
                unfold dv; rw [hgj]
                exact keep d (fun e => hne2 (by rw [hg, e, hd]))
              rw [this]
            · simp [Out.it, hown]
  have hops' := hops i o hi ho
  have opnd : ∀ x, x ∈ o.op.operands.toList → (opd (env ops Γ (fun j => (Us j).R) (fun _ => true) i) x).p h (a.eval x) := by
    intro x hx
    cases x with
    | tmp s =>
      have hs : s ∈ slots ops o := by
        refine List.mem_append_left _ (List.mem_append_left _ (List.mem_filterMap.2 ⟨_, hx, rfl⟩))
      have := st.sat s
      rw [look s hs] at this
      exact this
    | const v => rfl
    | global g => rfl
    | func f => rfl
  unfold wpOp
  simp only [ho]
  unfold OpG at hops'
  cases hgd : o.guard with
  | none =>
    rw [hgd] at hops'
    have hw : Region.wanted o (yielded ops a.tmps) = true := by simp [Region.wanted, hgd]
    simp only [hw, if_true]
    exact .inl (hops' a w h st.step.pub st.inv opnd K Q (fun v w' h' hs hr how => k _ _ _ (fin v w' h' hs hr how)))
  | some gb =>
    obtain ⟨g, want⟩ := gb
    rw [hgd] at hops'
    obtain ⟨d, q, B, R', hd, hb, hR, hC⟩ := hops'
    have hs : d ∈ slots ops o := by
      refine List.mem_append_left _ (List.mem_append_right _ ?_)
      simp only [hgd]
      simpa [gslot] using hd
    have hv := st.sat d
    rw [look d hs] at hv
    obtain ⟨e1, e2⟩ := hb h _ hv
    have hdl : d < a.tmps.size := by
      rw [st.size]
      have hgi := c3 g want hgd
      obtain ⟨og, hog, hdd⟩ : ∃ og, ops[g]? = some og ∧ og.dst = some d := by
        unfold gslot at hd
        cases hx : ops[g]? with
        | none => simp [hx] at hd
        | some og => exact ⟨og, rfl, by simpa [hx] using hd⟩
      exact (regOk_at hok (by omega) hog).1 d hdd
    have hy : yielded ops a.tmps g = match some (tv a d) with | some (.bool b) => some b | _ => none := by
      unfold yielded
      rw [show (ops[g]?).bind (·.dst) = some d from hd]
      have : (some d).bind (fun x => a.tmps[x]?) = some (tv a d) := by simp [tv, hdl]
      rw [this]
      generalize tv a d = u
      cases u <;> rfl
    have nothing : ∀ R u, Owns (w.heap.size ≤ ·) ((plain R).it u) w h := fun _ _ => Owns.nil _ _ _
    by_cases hq : q
    · have e1 := e1 hq
      rw [e1] at hy
      by_cases hbw : B = want
      · have hw : Region.wanted o (yielded ops a.tmps) = true := by simp [Region.wanted, hgd, hy, hbw]
        simp only [hw, if_true]
        refine .inl (hC hq hbw a w h st.step.pub st.inv opnd K Q (fun v w' h' hs hr how => k _ _ _ (fin v w' h' hs ?_ ?_)))
        · rw [hR]
          exact ⟨fun _ => hr, fun hn => absurd ⟨hq, hbw⟩ hn⟩
        · rw [hR]; exact Owns.nil _ _ _
      · have hw : Region.wanted o (yielded ops a.tmps) = false := by simp [Region.wanted, hgd, hy, hbw]
        simp only [hw]
        refine k _ _ _ (fin _ _ _ (Step.refl st.step.pub) ?_ ?_)
        · rw [hR]
          exact ⟨fun hn => absurd hn.2 hbw, fun _ => rfl⟩
        · rw [hR]; exact nothing _ _
    · have e2 := e2 hq
      rw [e2] at hy
      have hw : Region.wanted o (yielded ops a.tmps) = false := by simp [Region.wanted, hgd, hy, undef]
      simp only [hw]
      refine k _ _ _ (fin _ _ _ (Step.refl st.step.pub) ?_ ?_)
      · rw [hR]
        exact ⟨fun hn => absurd hn.1 hq, fun _ => rfl⟩
      · rw [hR]; exact nothing _ _

theorem TS.congr {L L' : Nat → Bool} {a : Act} {w : World} {h : PH} (st : TS ops nt m Γ Us df w0 h0 V lo l0 L a w h) (e : ∀ j, j < m → L j = L' j) : TS ops nt m Γ Us df w0 h0 V lo l0 L' a w h :=
  ⟨st.size, st.defers, st.step, st.inv, fun s => by rw [← env_congr (L := L) m (fun j hj _ => e j hj)]; exact st.sat s, by
    obtain ⟨ml, h1, h2⟩ := st.own
    refine ⟨ml, h1, h2.trans (List.Perm.of_eq ?_)⟩
    unfold items
    have hh : ∀ l : List Nat, (∀ j ∈ l, j < m) → (l.flatMap fun j => if L j then (Us j).it (dv ops a j) else []) = (l.flatMap fun j => if L' j then (Us j).it (dv ops a j) else []) := by
      intro l
      induction l with
      | nil => intro _; rfl
      | cons b l ih => intro hl; rw [List.flatMap_cons, List.flatMap_cons, e b (hl b List.mem_cons_self), ih (fun j hj => hl j (List.mem_cons_of_mem _ hj))]
    exact hh _ (fun j hj => List.mem_range.1 hj)⟩

theorem rdy {listed : Array Bool} {i : Nat} (hsz : listed.size = ops.size) (hi : i ∈ Region.ready .any ops listed) : i < ops.size ∧ listed.getD i false = false ∧ ∀ j ∈ prs ops i, listed.getD j false = true := by
  obtain ⟨h1, o, ho, h2⟩ := mem_ready.1 hi
  have hi' : i < ops.size := by
    rcases Nat.lt_or_ge i ops.size with h | h
    · exact h
    · simp [Array.getElem?_eq_none h] at ho
  refine ⟨hi', ?_, fun j hj => ?_⟩
  · simpa [Array.getD_eq_getD_getElem?, hsz, hi'] using h1
  · simp only [prs, ho, oprs, List.mem_map, List.mem_filter] at hj
    obtain ⟨e, ⟨he1, he2⟩, rfl⟩ := hj
    exact h2 e (by simpa using he1) he2
theorem rdy_mk {listed : Array Bool} {i : Nat} (hsz : listed.size = ops.size) (hi : i < ops.size) (hl : listed.getD i false = false) (hp : ∀ j ∈ prs ops i, listed.getD j false = true) : i ∈ Region.ready .any ops listed := by
  have ho : ops[i]? = some (ops[i]'hi) := Array.getElem?_eq_getElem hi
  refine mem_ready.2 ⟨by simpa [Array.getD_eq_getD_getElem?, hsz, hi] using hl, _, ho, fun e he hb => hp _ ?_⟩
  simp only [prs, ho, oprs, List.mem_map, List.mem_filter]
  exact ⟨e, ⟨by simpa using he, hb⟩, rfl⟩
theorem getD_set {listed : Array Bool} {i : Nat} (hi : i < listed.size) (j : Nat) : (listed.setIfInBounds i true).getD j false = (decide (j = i) || listed.getD j false) := by
  by_cases e : j = i
  · subst e; simp [Array.getD_eq_getD_getElem?, hi]
  · simp [Array.getD_eq_getD_getElem?, e, Ne.symm e]
/-- Behind the first m each waits for all ahead of it. -/
theorem wpAny_forced (hok : regOk nt m F ops = true) : ∀ (r i : Nat) (listed : Array Bool) (a : Act) (w : World), m ≤ i → i + r = ops.size → listed.size = ops.size → (∀ j, j < ops.size → listed.getD j false = decide (j < i)) → wpOps P ops Q (List.range' i r) a w → wpAny P .any ops Q r listed a w := by
  intro r
  induction r with
  | zero =>
    intro i listed a w _ hr hsz hl hw
    refine ⟨List.eq_nil_iff_forall_not_mem.2 fun j hj => ?_, hw⟩
    obtain ⟨h1, h2, _⟩ := rdy hsz hj
    rw [hl j h1] at h2
    have : j < i := by omega
    simp [this] at h2
  | succ r ih =>
    intro i listed a w hm hr hsz hl hw
    have hi : i < ops.size := by omega
    rw [List.range'_succ, wpOps_cons] at hw
    have hself : i ∈ Region.ready .any ops listed := rdy_mk hsz hi (by rw [hl i hi]; simp) (fun j hj => by
      have := (regOk_prs hok hi).1 j hj
      rw [hl j (by omega)]; simpa using this)
    refine ⟨fun h0 => (by rw [h0] at hself; cases hself), fun j hj => ?_⟩
    obtain ⟨h1, h2, h3⟩ := rdy hsz hj
    have hji : j = i := by
      rw [hl j h1] at h2
      have hge : i ≤ j := by simpa using h2
      rcases Nat.lt_or_ge i j with hlt | hle
      · exfalso
        have hcl : Cl ops (fun j => listed.getD j false = true) := fun p hp q hq => by
          have hpl : p < ops.size := by
            rcases Nat.lt_or_ge p ops.size with h | h
            · exact h
            · simp [Array.getD_eq_getD_getElem?, hsz, Nat.not_lt.2 h] at hp
          have hp : listed.getD p false = true := hp
          rw [hl p hpl] at hp
          have hp : p < i := by simpa using hp
          have := (regOk_prs hok hpl).1 q hq
          show listed.getD q false = true
          rw [hl q (by omega)]; simp; omega
        have := ancs_in hcl h3 i ((regOk_prs hok h1).2 (by omega) i hlt)
        rw [hl i hi] at this; simp at this
      · omega
    subst hji
    refine wpOp_mono (fun a' w' h' => ih (j + 1) _ a' w' (by omega) (by omega) (by simpa using hsz) (fun q hq => ?_) h') hw
    rw [getD_set (by omega), hl q hq, Bool.eq_iff_iff]
    simp; omega

theorem wpAny_typed (hV : ∀ w h w' h', V w h → Step w h w' h' → V w' h') (hlo : ∀ b, w0.heap.size ≤ b → lo b) (hok : regOk nt m F ops = true) (hF : ∀ i, i < m → (Us i).own = F.getD i false) (hops : ∀ i o, i < m → ops[i]? = some o → OpG P V ops o (env ops Γ (fun j => (Us j).R) (fun _ => true) i) (Us i))
    (k : ∀ a w h, TS ops nt m Γ Us df w0 h0 V lo l0 (fun _ => true) a w h → wpOps P ops Q (List.range' m (ops.size - m)) a w) :
    ∀ (fuel : Nat) (listed : Array Bool) (l : List Nat) (a : Act) (w : World) (h : PH), listed.size = ops.size → l.length = fuel → l.Nodup → (∀ j, j < ops.size → (listed.getD j false = false ↔ j ∈ l ∨ m ≤ j)) → (∀ j ∈ l, j < m) →
      Cl ops (fun j => listed.getD j false = true) → TS ops nt m Γ Us df w0 h0 V lo l0 (fun j => listed.getD j false) a w h → wpAny P .any ops Q (fuel + (ops.size - m)) listed a w := by
  have hm := regOk_le hok
  intro fuel
  induction fuel with
  | zero =>
    intro listed l a w h hsz hl hnd hmem hlt hc st
    have : l = [] := List.eq_nil_of_length_eq_zero hl
    subst this
    have hall : ∀ j, j < ops.size → listed.getD j false = decide (j < m) := fun j hj => by
      cases e : listed.getD j false
      · rcases (hmem j hj).1 e with h1 | h1
        · cases h1
        · simp; omega
      · have : ¬ m ≤ j := fun h1 => by
          have := (hmem j hj).2 (.inr h1)
          rw [this] at e; cases e
        simp; omega
    rw [Nat.zero_add]
    exact wpAny_forced hok _ m listed a w (Nat.le_refl _) (by omega) hsz hall (k a w h (st.congr fun j hj => by rw [hall j (by omega)]; simp [hj]))
  | succ fuel ih =>
    intro listed l a w h hsz hl hnd hmem hlt hc st
    rw [show fuel + 1 + (ops.size - m) = (fuel + (ops.size - m)) + 1 by omega]
    have hne : Region.ready .any ops listed ≠ [] := by
      intro h0
      have : ∀ j, j < m → listed.getD j false = true := by
        intro j
        induction j using Nat.strongRecOn with
        | _ j ihj =>
          intro hj
          cases hlj : listed.getD j false
          · exfalso
            have : j ∈ Region.ready .any ops listed := rdy_mk hsz (by omega) hlj (fun p hp => by
              have := (regOk_prs hok (show j < ops.size by omega)).1 p hp
              exact ihj p this (by omega))
            rw [h0] at this; cases this
          · rfl
      match l, hl with
      | p :: l', _ =>
        have hp := hlt p List.mem_cons_self
        have h2 := (hmem p (by omega)).2 (.inl List.mem_cons_self)
        rw [this p hp] at h2; cases h2
    refine ⟨fun hr => absurd hr hne, fun i hi => ?_⟩
    obtain ⟨h1, h2, h3⟩ := rdy hsz hi
    have him : i < m := by
      rcases Nat.lt_or_ge i m with h' | h'
      · exact h'
      · exfalso
        match l, hl with
        | p :: l', _ =>
          have hp := hlt p List.mem_cons_self
          have hpl := ancs_in hc h3 p ((regOk_prs hok h1).2 h' p (by omega))
          have h2 := (hmem p (by omega)).2 (.inl List.mem_cons_self)
          rw [hpl] at h2; cases h2
    have hil : i ∈ l := by
      rcases (hmem i h1).1 h2 with h' | h'
      · exact h'
      · omega
    refine wpOp_typed hV hlo hok hF hops hc him h2 h3 st (fun a' w' h' st' => ?_)
    refine ih (listed.setIfInBounds i true) (l.erase i) a' w' h' (by simpa using hsz) ?_ (hnd.erase i) ?_ ?_ ?_ (st'.congr fun j _ => (getD_set (by omega) j).symm)
    · rw [List.length_erase_of_mem hil, hl]; omega
    · intro j hj
      rw [getD_set (by omega), hnd.mem_erase_iff]
      by_cases e : j = i
      · subst e; simp; omega
      · simpa [e] using hmem j hj
    · intro j hj
      exact hlt j (List.mem_of_mem_erase hj)
    · intro j hj p hp
      show (listed.setIfInBounds i true).getD p false = true
      have hj : (listed.setIfInBounds i true).getD j false = true := hj
      rw [getD_set (by omega)] at hj ⊢
      by_cases e : j = i
      · subst e
        simp [h3 p hp]
      · have : listed.getD j false = true := by simpa [e] using hj
        have := hc j this p hp
        simp [show listed.getD p false = true from this]

theorem wpOps_typed (hV : ∀ w h w' h', V w h → Step w h w' h' → V w' h') (hlo : ∀ b, w0.heap.size ≤ b → lo b) (hok : regOk nt m F ops = true) (hF : ∀ i, i < m → (Us i).own = F.getD i false) (hops : ∀ i o, i < m → ops[i]? = some o → OpG P V ops o (env ops Γ (fun j => (Us j).R) (fun _ => true) i) (Us i))
    (k : ∀ a w h, TS ops nt m Γ Us df w0 h0 V lo l0 (fun _ => true) a w h → wpOps P ops Q (List.range' m (ops.size - m)) a w) :
    ∀ (r i : Nat) (a : Act) (w : World) (h : PH), i + r = m → TS ops nt m Γ Us df w0 h0 V lo l0 (fun j => decide (j < i)) a w h → wpOps P ops Q (List.range' i (r + (ops.size - m))) a w := by
  have hm := regOk_le hok
  intro r
  induction r with
  | zero =>
    intro i a w h him st
    have : i = m := by omega
    subst this
    rw [Nat.zero_add]
    exact k a w h (st.congr fun j hj => by simp [hj])
  | succ r ih =>
    intro i a w h him st
    rw [show r + 1 + (ops.size - m) = (r + (ops.size - m)) + 1 by omega, List.range'_succ, wpOps_cons]
    refine wpOp_typed hV hlo hok hF hops ?_ (by omega) (by simp) ?_ st (fun a' w' h' st' => ?_)
    · intro j hj p hp
      have hj' : j < i := by simpa using hj
      have := (regOk_prs hok (show j < ops.size by omega)).1 p hp
      simp; omega
    · intro j hj
      have := (regOk_prs hok (show i < ops.size by omega)).1 j hj
      simpa using this
    · refine ih (i + 1) a' w' h' (by omega) (st'.congr fun j _ => ?_)
      rw [Bool.eq_iff_iff]; simp; omega
end

theorem envs_snoc : ∀ (l : List Oper) (us : List Out) (Γ : Nat → Rep) (o : Oper) (u : Out), l.length = us.length → envs Γ (l ++ [o]) (us ++ [u]) = updO (envs Γ l us) o.dst u.R
  | [], [], _, _, _, _ => rfl
  | [], _ :: _, _, _, _, h => by simp at h
  | _ :: _, [], _, _, _, h => by simp at h
  | o' :: l, u' :: us, Γ, o, u, h => by
    simp only [List.cons_append, envs]
    exact envs_snoc l us _ o u (by simpa using h)
theorem OpsG.len {P : Program} {V : World → PH → Prop} {ops : Array Oper} : ∀ (l : List Oper) (us : List Out) (Γ : Nat → Rep), OpsG P V ops l Γ us → us.length ≤ l.length
  | _, [], _, _ => Nat.zero_le _
  | [], _ :: _, _, h => h.elim
  | _ :: l, _ :: us, _, h => by simpa using OpsG.len l us _ h.2
theorem OpsG.at_ {P : Program} {V : World → PH → Prop} {ops : Array Oper} : ∀ (l : List Oper) (us : List Out) (Γ : Nat → Rep), OpsG P V ops l Γ us → ∀ i o, i < us.length → l[i]? = some o → OpG P V ops o (envs Γ (l.take i) (us.take i)) (us.getD i (plain Rep.any))
  | _, [], _, _, i, o, hi, ho => by simp at hi
  | [], _ :: _, _, h, _, _, _, _ => h.elim
  | o' :: l, u :: us, Γ, h, 0, o, _, ho => by
    have : o' = o := by simpa using ho
    subst this
    simpa [envs] using h.1
  | o' :: l, u :: us, Γ, h, i + 1, o, hi, ho => by
    have := OpsG.at_ l us _ h.2 i o (by simpa using hi) (by simpa using ho)
    simpa [envs] using this
theorem env_envs {ops : Array Oper} {Γ : Nat → Rep} {us : List Out} (hl : us.length ≤ ops.toList.length) : ∀ i, i ≤ us.length → env ops Γ (fun j => (us.getD j (plain Rep.any)).R) (fun _ => true) i = envs Γ (ops.toList.take i) (us.take i)
  | 0, _ => by simp [env, envs]
  | i + 1, h => by
    have hi : i < ops.toList.length := by omega
    have hi' : i < ops.size := by simpa using hi
    have hr : i < us.length := by omega
    rw [List.take_succ_eq_append_getElem hi, List.take_succ_eq_append_getElem hr, envs_snoc _ _ _ _ _ (by simp; omega)]
    unfold env
    rw [env_envs hl i (by omega)]
    simp [gslot, hi', hr]

/-- The items of a region's results, in the text's order. -/
def outs (ops : Array Oper) (a : Act) (us : List Out) : List OI := items ops (fun j => us.getD j (plain Rep.any)) (fun _ => true) us.length a
/-- **A region**: its first operations in whatever order, from what the slots hold before to what they hold behind; the others, each of which waits for all ahead of it, are left. -/
theorem reg {P : Program} (hm : P.follows .mixedOrders = true) {V : World → PH → Prop} (hV : ∀ w h w' h', V w h → Step w h w' h' → V w' h') {id nt : Nat} {ops : Array Oper} {draw : Bool} {Γ : Nat → Rep} (us : List Out) (hok : regOk nt us.length (us.map (·.own)) ops = true) (hops : OpsG P V ops ops.toList Γ us)
    {Q : Exit → Act → World → Prop} {a : Act} {w : World} {h : PH} {lo : Nat → Prop} {l0 : List OI} (hlo : ∀ b, w.heap.size ≤ b → lo b) (hn : a.tmps.size = nt) (hp : Pub h w) (hv : V w h) (hs : Sat Γ h a) (ho : Owns lo l0 w h)
    (k : ∀ a' w' h' ml, a'.tmps.size = nt → a'.defers = a.defers → Step w h w' h' → Sat (envs Γ ops.toList us) h' a' → Owns lo (ml ++ l0) w' h' → ml.Perm (outs ops a' us) → wpOps P ops Q (List.range' us.length (ops.size - us.length)) a' w') : (Code.region id ops draw).wp P Q a w := by
  have hl := OpsG.len _ _ _ hops
  have hm' := regOk_le hok
  have hF : ∀ i, i < us.length → (us.getD i (plain Rep.any)).own = (us.map (·.own)).getD i false := fun i hi => by simp [List.getD, hi]
  have hops' : ∀ i o, i < us.length → ops[i]? = some o → OpG P V ops o (env ops Γ (fun j => (us.getD j (plain Rep.any)).R) (fun _ => true) i) (us.getD i (plain Rep.any)) := by
    intro i o hi ho
    rw [env_envs hl i (by omega)]
    exact OpsG.at_ _ _ _ hops i o hi (by simpa using ho)
  have k' : ∀ a' w' h', TS ops nt us.length Γ (fun j => us.getD j (plain Rep.any)) a.defers w h V lo l0 (fun _ => true) a' w' h' → wpOps P ops Q (List.range' us.length (ops.size - us.length)) a' w' := by
    intro a' w' h' st
    obtain ⟨ml, h1, h2⟩ := st.own
    refine k a' w' h' ml st.size st.defers st.step (fun s => ?_) h1 h2
    have := st.sat s
    rw [env_envs hl us.length (Nat.le_refl _)] at this
    rw [List.take_of_length_le (l := us) (Nat.le_refl _)] at this
    have e : envs Γ (ops.toList.take us.length) us = envs Γ ops.toList us := by
      have : ∀ (l : List Oper) (us : List Out) (Γ : Nat → Rep), us.length ≤ l.length → envs Γ (l.take us.length) us = envs Γ l us := by
        intro l us
        induction us generalizing l with
        | nil => intro Γ _; cases l <;> rfl
        | cons u us ih =>
          intro Γ hl
          cases l with
          | nil => simp at hl
          | cons o l => simp only [List.length_cons, List.take_succ_cons, envs]; exact ih l _ (by simpa using hl)
      exact this _ _ _ hl
    rw [e] at this
    exact this
  have e0 : ∀ n, env ops Γ (fun j => (us.getD j (plain Rep.any)).R) (fun _ => false) n = Γ := by
    intro n
    induction n with
    | zero => rfl
    | succ n ih => unfold env; simpa using ih
  have i0 : ∀ a, items ops (fun j => us.getD j (plain Rep.any)) (fun _ => false) us.length a = [] := by
    intro a
    unfold items
    induction List.range us.length with
    | nil => rfl
    | cons b l ih => simpa using ih
  have start : ∀ (L : Nat → Bool) (w' : World), L = (fun _ => false) → Step w h w' h → TS ops nt us.length Γ (fun j => us.getD j (plain Rep.any)) a.defers w h V lo l0 L a w' h := by
    rintro L w' rfl hst
    exact ⟨hn, rfl, hst, hV _ _ _ _ hv hst, fun s => by rw [e0]; exact hs s, [], ho.step hst, by rw [i0]⟩
  cases draw with
  | false =>
    refine wp_region ?_
    rw [List.range_eq_range']
    have := wpOps_typed hV hlo hok hF hops' k' us.length 0 a w h (by omega) (start _ w (by funext j; simp) (Step.refl hp))
    rw [show us.length + (ops.size - us.length) = ops.size by omega] at this
    exact this
  | true =>
    refine wp_region_any hm ?_
    have hb : Below w.heap.size w { w with drawn := w.drawn + 1 } := (Below.refl _ _).drew
    have hf : (fun j => (Array.replicate ops.size false).getD j false) = (fun _ : Nat => false) := by
      funext j
      rcases Nat.lt_or_ge j ops.size with h | h
      · simp [Array.getD_eq_getD_getElem?, h]
      · simp [Array.getD_eq_getD_getElem?, Nat.not_lt.2 h]
    have hf' : ∀ j, (Array.replicate ops.size false).getD j false = false := fun j => congrFun hf j
    have := wpAny_typed hV hlo hok hF hops' k' us.length (Array.replicate ops.size false) (List.range us.length) a _ h (by simp) (by simp) List.nodup_range (fun j hj => by rw [hf' j]; simp; omega) (fun j hj => by simpa using hj)
      (fun j hj => by have hj : (Array.replicate ops.size false).getD j false = true := hj; rw [hf'] at hj; cases hj) (start _ _ hf (Step.same hp hb))
    rw [show us.length + (ops.size - us.length) = ops.size by omega] at this
    exact this
end Go.Proofs.YtdioiepkbolnlaaGreatDoor
