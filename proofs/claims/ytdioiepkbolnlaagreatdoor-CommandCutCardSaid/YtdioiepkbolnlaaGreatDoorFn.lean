/- Contracts; what the call owns: blocks, rows. Nothing of the program is in it. -/
import Derived.Test.YtdioiepkbolnlaaGreatDoorJ
import Derived.Shelf.Abstract
set_option linter.unusedSimpArgs false
set_option linter.unusedVariables false
namespace Go.Proofs.YtdioiepkbolnlaaGreatDoor
open Go.RowKit

inductive All2 (h : PH) : List Rep → List Value → Prop
  | nil : All2 h [] []
  | cons {R : Rep} {Rs : List Rep} {v : Value} {vs : List Value} : R.p h v → All2 h Rs vs → All2 h (R :: Rs) (v :: vs)
theorem All2.length {h : PH} {Rs : List Rep} {vs : List Value} (e : All2 h Rs vs) : vs.length = Rs.length := by
  induction e with
  | nil => rfl
  | cons _ _ ih => simp [ih]
theorem All2.mono {h h' : PH} (l : PLe h h') {Rs : List Rep} {vs : List Value} (e : All2 h Rs vs) : All2 h' Rs vs := by
  induction e with
  | nil => exact .nil
  | @cons R _ _ _ hx _ ih => exact .cons (R.mono l hx) ih
theorem All2.append {h : PH} {Rs Ss : List Rep} {vs us : List Value} (e : All2 h Rs vs) (e' : All2 h Ss us) : All2 h (Rs ++ Ss) (vs ++ us) := by
  induction e with
  | nil => exact e'
  | cons hx _ ih => exact .cons hx ih
/-- Several results. -/
def tup (Rs : List Rep) : Rep := ⟨fun h v => ∃ vs : List Value, v = .tuple vs.toArray ∧ All2 h Rs vs, by
  rintro h h' v l ⟨vs, e, a⟩
  exact ⟨vs, e, a.mono l⟩⟩
/-- A function value. -/
def clo (g : FuncId) (Rs : List Rep) : Rep := ⟨fun h v => ∃ vs : List Value, v = .func (.func g) #[] vs.toArray ∧ All2 h Rs vs, by
  rintro h h' v l ⟨vs, e, a⟩
  exact ⟨vs, e, a.mono l⟩⟩

def noI : Value → List OI := fun _ => []
def Blocks (X : List OI) : Nat → Prop := fun b => ∃ I ∈ X, I.B b
/-- What a call has left: its result, what of it is the caller's to turn, what was handed in to be turned. -/
def Post (w : World) (h : PH) (X0 X1 : List OI) (R : Rep) (I : Value → List OI) (e : Ending) (w' : World) : Prop := ∃ v h', e = .returned v ∧ MStep (Blocks X0) w h w' h' ∧ R.p h' v ∧ Owns (fun b => w.heap.size ≤ b ∨ Blocks X0 b) (I v ++ X1) w' h'
/-- A function's contract: from what its arguments are, and what is handed to it to be turned, to what its result is, what of it is the caller's to turn, and what was handed in has become. -/
def CtG (P : Program) (f : FuncId) (args : List Rep) (X0 X1 : List OI) (R : Rep) (I : Value → List OI) : Prop := ∀ w h vs, Pub h w → All2 h args vs → Owns (Blocks X0) X0 w h → Calls P f vs.toArray w (Post w h X0 X1 R I)
abbrev CtO (P : Program) (f : FuncId) (args : List Rep) (R : Rep) (I : Value → List OI) : Prop := CtG P f args [] [] R I
abbrev Ct (P : Program) (f : FuncId) (args : List Rep) (R : Rep) : Prop := CtO P f args R noI
abbrev CtM (P : Program) (f : FuncId) (args : List Rep) (X0 X1 : List OI) (R : Rep) : Prop := CtG P f args X0 X1 R noI
theorem Blocks.nil (b : Nat) : ¬ Blocks [] b := fun ⟨_, h, _⟩ => by cases h
theorem CtO.ct {P : Program} {f : FuncId} {args : List Rep} {R : Rep} {I : Value → List OI} (k : CtO P f args R I) : Ct P f args R := fun w h vs hp ha ho => (k w h vs hp ha ho).mono fun e w' ⟨v, h', e1, e2, e3, _⟩ => ⟨v, h', e1, e2, e3, Owns.nil _ _ _⟩
theorem CtG.weak {P : Program} {f : FuncId} {args : List Rep} {R R' : Rep} {X0 X1 : List OI} {I : Value → List OI} (k : CtG P f args X0 X1 R I) (e : Ent R R') : CtG P f args X0 X1 R' I := fun w h vs hp ha ho => (k w h vs hp ha ho).mono fun e' w' ⟨v, h', e1, e2, e3, e4⟩ => ⟨v, h', e1, e2, e _ _ e3, e4⟩
theorem Owns.lo {lo lo' : Nat → Prop} {l : List OI} {w : World} {h : PH} (o : Owns lo l w h) (hl : ∀ b, lo b → lo' b) : Owns lo' l w h := ⟨fun I hI => ⟨(o.1 I hI).1, fun b hb => hl b ((o.1 I hI).2 b hb)⟩, o.2⟩
theorem Owns.sub {lo : Nat → Prop} {l l' : List OI} {w : World} {h : PH} (o : Owns lo l w h) (hs : l'.Sublist l) : Owns lo l' w h := ⟨fun I hI => o.1 I (hs.subset hI), List.Pairwise.sublist hs o.2⟩

def EntsO (Γ : Nat → Rep) : List Operand → List Rep → Prop
  | [], [] => True
  | x :: xs, R :: Rs => Ent (opd Γ x) R ∧ EntsO Γ xs Rs
  | _, _ => False
theorem EntsO.all {Γ : Nat → Rep} {h : PH} {a : Act} : ∀ (xs : List Operand) (Rs : List Rep), EntsO Γ xs Rs → (∀ x ∈ xs, (opd Γ x).p h (a.eval x)) → All2 h Rs (xs.map a.eval)
  | [], [], _, _ => .nil
  | x :: xs, R :: Rs, e, hx => .cons (e.1 _ _ (hx x List.mem_cons_self)) (EntsO.all xs Rs e.2 fun y hy => hx y (List.mem_cons_of_mem _ hy))
  | [], _ :: _, e, _ => e.elim
  | _ :: _, [], e, _ => e.elim
section
variable {P : Program} {V : World → PH → Prop} {Γ : Nat → Rep} {o : Oper} {f : FuncId}
theorem run_callf {args : Array Operand} {ts : Array TypeId} {ρ : Operand → Value} {g : Operand} {caps : List Value} (ho : o.op = .call ⟨.value g, args, ts⟩) (hg : ρ g = .func (.func f) #[] caps.toArray) (en : Enters P f) (w : World) :
    (execOp ρ o).run P w = .ok (.enter f (args.toList.map ρ ++ caps).toArray) w := by
  have e : ((args.map ρ) ++ caps.toArray) = (args.toList.map ρ ++ caps).toArray := by
    apply Array.toList_inj.1; simp
  simp only [execOp, ho, resolve, hg, Deferred.ofValue, Sem.run_bind, Sem.run_pure, Result.andThen_ok, invoke, Array.empty_append]
  rw [e, en]
theorem op_callg {args : Array Operand} {ts : Array TypeId} {g : Operand} {Rs Cs : List Rep} {R : Rep} (ho : o.op = .call ⟨.value g, args, ts⟩) (hg : Ent (opd Γ g) (clo f Cs)) (en : Enters P f) (ha : EntsO Γ args.toList Rs) (hc : Ct P f (Rs ++ Cs) R) : OpC P V o Γ (plain R) := by
  intro A w h hp _ hop K Q k
  obtain ⟨vs, hv, hcs⟩ := hg _ _ (hop g (by simp [ho, Op.operands, Call.operands]))
  have hargs := EntsO.all args.toList Rs ha (fun x hx => hop x (by simp only [ho, Op.operands, Call.operands]; simp at hx; simp [hx]))
  unfold Oper.wp
  rw [run_callf ho hv en w]
  refine Calls.mono (hc w h _ hp (hargs.append hcs) (Owns.nil _ _ _)) ?_
  rintro e w' ⟨v, h', rfl, hs, hR, _⟩
  exact k v w' h' (hs.toStep Blocks.nil) hR (Owns.nil _ _ _)
theorem op_call {args : Array Operand} {ts : Array TypeId} {Rs : List Rep} {R : Rep} (ho : o.op = .call ⟨.value (.func f), args, ts⟩) (en : Enters P f) (ha : EntsO Γ args.toList Rs) (hc : Ct P f Rs R) : OpC P V o Γ (plain R) :=
  op_callg (Cs := []) ho (fun h v e => ⟨[], e, .nil⟩) en ha (by simpa using hc)
theorem op_extract {Rs : List Rep} {R : Rep} {x : Operand} {i : Nat} (ho : o.op = .extract x i) (hx : Ent (opd Γ x) (tup Rs)) (hi : Rs[i]? = some R) : OpC P V o Γ (plain R) := OpC.pure fun A w h hp hop => by
  obtain ⟨vs, hv, ha⟩ := hx _ _ (hop x (by simp [ho, Op.operands]))
  have : ∃ v, vs[i]? = some v ∧ R.p h v := by
    clear hv hx ho hop
    induction ha generalizing i with
    | nil => simp at hi
    | @cons R' Rs' v' vs' hx _ ih =>
      cases i with
      | zero => exact ⟨v', rfl, by have : R' = R := by simpa using hi
                                   rw [← this]; exact hx⟩
      | succ i => exact ih (by simpa using hi)
  obtain ⟨v, h1, h2⟩ := this
  refine ⟨v, ?_, h2⟩
  simp only [execOp, ho]
  rw [hv]
  exact run_v (by simp [Instr.extract, h1])
end

/-! ### entry and end -/
def argE : Nat → List Rep → Nat → Rep
  | _, [] => top
  | i, R :: Rs => upd (argE (i + 1) Rs) i R
theorem argE_sat {h : PH} {Rs : List Rep} {vs : List Value} (e : All2 h Rs vs) : ∀ (i : Nat) (f : Nat → Value), (∀ j v, vs[j]? = some v → f (i + j) = v) → ∀ s, (argE i Rs s).p h (f s) := by
  induction e with
  | nil => intro i f _ s; trivial
  | @cons R Rs v vs hx _ ih =>
    intro i f hf s
    unfold argE upd
    split
    · rename_i hs; subst hs
      have := hf 0 v rfl
      rw [Nat.add_zero] at this
      rw [this]; exact hx
    · exact ih (i + 1) f (fun j u hu => by rw [← hf (j + 1) u (by simpa using hu)]; congr 1; omega) s
theorem CtG.of {P : Program} {f : FuncId} {fn : Func} {c : Code} {args : List Rep} {R : Rep} {X0 X1 : List OI} {I : Value → List OI} {n : Nat} (hf : P.funcs[f]? = some fn) (hb : fn.body = some c) (hn : fn.ntmps = n) (hl : args.length ≤ n)
    (k : ∀ w0 h0, Pub h0 w0 → J ⟨P, n, w0, h0, X0, X1⟩ (argE 0 args) X0 c (bodyPost P fn (Post w0 h0 X0 X1 R I))) : CtG P f args X0 X1 R I := by
  intro w h vs hp ha ho
  refine calls_of_wp hf hb (k w h hp _ w h ⟨?_, rfl, (Step.refl hp).m _, ?_, ho.lo (fun b hb => .inr hb)⟩)
  · have := ha.length
    simp only [Array.size_append, Array.size_replicate, List.size_toArray, hn]
    omega
  · have := argE_sat ha 0 (fun s => tv { tmps := vs.toArray ++ Array.replicate (fn.ntmps - vs.toArray.size) undef, defers := [] } s) (fun j v hv => by
      have hj := (List.getElem?_eq_some_iff.1 hv).1
      simp only [tv, Nat.zero_add, Array.getD_eq_getD_getElem?]
      rw [Array.getElem?_append_left (by simpa using hj)]
      simp [hv])
    exact this
section
variable {C : Cx} {Γ : Nat → Rep} {l : List OI} {fn : Func} {R S : Rep} {r q : Nat}
/-- What has to be left of what was handed in to be turned. -/
abbrev Left (C : Cx) (l : List OI) : Prop := C.X1.Sublist l
theorem SS.left {a : Act} {w : World} {h : PH} (s : SS C Γ l a w h) (hx : Left C l) : Owns (fun b => C.w0.heap.size ≤ b ∨ Blocks C.X0 b) C.X1 w h := s.own.sub hx
/-- One result, in a slot. -/
theorem E.ret1 (hr : fn.results = #[.tmp r]) (hR : Ent (Γ r) R) (hx : Left C l := by first | exact List.nil_sublist _ | exact List.Sublist.refl _ | (repeat (first | exact List.Sublist.refl _ | exact List.nil_sublist _ | apply List.Sublist.cons_cons | apply List.Sublist.cons))) : E C .ret Γ l (bodyPost C.P fn (Post C.w0 C.h0 C.X0 C.X1 R noI)) := fun a w h s =>
  ⟨s.defers, tv a r, by simp [results, hr, tv], tv a r, h, rfl, s.step, hR _ _ (s.sat r), s.left hx⟩
theorem E.ret2 (hr : fn.results = #[.tmp r, .tmp q]) (hR : Ent (Γ r) R) (hS : Ent (Γ q) S) (hx : Left C l := by first | exact List.nil_sublist _ | exact List.Sublist.refl _ | (repeat (first | exact List.Sublist.refl _ | exact List.nil_sublist _ | apply List.Sublist.cons_cons | apply List.Sublist.cons))) : E C .ret Γ l (bodyPost C.P fn (Post C.w0 C.h0 C.X0 C.X1 (tup [R, S]) noI)) := fun a w h s =>
  ⟨s.defers, .tuple #[tv a r, tv a q], by simp [results, hr, tv], _, h, rfl, s.step, ⟨[tv a r, tv a q], rfl, .cons (hR _ _ (s.sat r)) (.cons (hS _ _ (s.sat q)) .nil)⟩, s.left hx⟩
theorem E.ret0 (hr : fn.results = #[]) (hx : Left C l := by first | exact List.nil_sublist _ | exact List.Sublist.refl _ | (repeat (first | exact List.Sublist.refl _ | exact List.nil_sublist _ | apply List.Sublist.cons_cons | apply List.Sublist.cons))) : E C .ret Γ l (bodyPost C.P fn (Post C.w0 C.h0 C.X0 C.X1 (Rep.is (.tuple #[])) noI)) := fun a w h s =>
  ⟨s.defers, .tuple #[], by simp [results, hr], _, h, rfl, s.step, rfl, s.left hx⟩
end
/-- The end of the body without a 'return'. -/
theorem E.fall {C : Cx} {Γ : Nat → Rep} {l : List OI} {fn : Func} {R : Ending → World → Prop} (k : E C .ret Γ l (bodyPost C.P fn R)) : E C .normal Γ l (bodyPost C.P fn R) := k
end Go.Proofs.YtdioiepkbolnlaaGreatDoor
