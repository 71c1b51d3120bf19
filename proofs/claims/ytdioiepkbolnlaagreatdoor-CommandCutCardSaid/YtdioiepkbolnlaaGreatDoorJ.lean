/- Judgements on code: what the slots hold, what the call owns; contracts of functions. Nothing of the program is in it. -/
import Derived.Test.YtdioiepkbolnlaaGreatDoorOp
import Derived.Deep.LoopGhost
set_option linter.unusedSimpArgs false
set_option linter.unusedVariables false
namespace Go.Proofs.YtdioiepkbolnlaaGreatDoor
open Go.RowKit

/-- The world has turned in the blocks B alone, and grown. -/
structure MStep (B : Nat → Prop) (w : World) (h : PH) (w' : World) (h' : PH) : Prop where
  os : w'.os = w.os
  tape : w'.tape = w.tape
  output : w'.output = w.output
  size : w.heap.size ≤ w'.heap.size
  block : ∀ k, k < w.heap.size → ¬ B k → w'.heap[k]? = w.heap[k]?
  le : PLe h h'
  new : ∀ a v, a.block < w.heap.size → ¬ B a.block → h' a = some v → h a = some v
  pub : Pub h' w'
theorem Step.m {w w' : World} {h h' : PH} (s : Step w h w' h') (B : Nat → Prop) : MStep B w h w' h' :=
  ⟨s.ext.os, s.ext.tape, s.ext.output, s.ext.size, fun k hk _ => s.ext.block k hk, s.le, fun a v hb _ e => s.new a v hb e, s.pub⟩
theorem MStep.then_ {B0 B : Nat → Prop} {w0 w w' : World} {h0 h h' : PH} (s : MStep B0 w0 h0 w h) (m : MStep B w h w' h') (hB : ∀ b, B b → w0.heap.size ≤ b ∨ B0 b) : MStep B0 w0 h0 w' h' :=
  ⟨m.os.trans s.os, m.tape.trans s.tape, m.output.trans s.output, Nat.le_trans s.size m.size, fun k hk hn =>
    (m.block k (Nat.lt_of_lt_of_le hk s.size) (fun hb => by rcases hB k hb with h1 | h1
                                                            · omega
                                                            · exact hn h1)).trans (s.block k hk hn), s.le.trans m.le,
   fun a v hb hn e => s.new a v hb hn (m.new a v (Nat.lt_of_lt_of_le hb s.size) (fun hB' => by rcases hB _ hB' with h1 | h1
                                                                                               · omega
                                                                                               · exact hn h1) e), m.pub⟩
theorem MStep.step_ {B0 : Nat → Prop} {w0 w w' : World} {h0 h h' : PH} (s : MStep B0 w0 h0 w h) (st : Step w h w' h') : MStep B0 w0 h0 w' h' := s.then_ (st.m (fun _ => False)) (fun b e => e.elim)
theorem MStep.toStep {B : Nat → Prop} {w w' : World} {h h' : PH} (m : MStep B w h w' h') (hB : ∀ b, ¬ B b) : Step w h w' h' :=
  ⟨⟨m.os, m.tape, m.output, m.size, fun k hk => m.block k hk (hB k)⟩, m.le, fun a v hb e => m.new a v hb (hB _) e, m.pub⟩
/-- The first of what is owned has turned. -/
theorem Owns.turn {lo : Nat → Prop} {l : List OI} {I I' : OI} {w w' : World} {h h' : PH} (o : Owns lo (I :: l) w h) (m : MStep I.B w h w' h') (hlo : ∀ b, w.heap.size ≤ b → lo b) (hp : I'.p w' h') (hB : ∀ b, I'.B b → I.B b ∨ w.heap.size ≤ b) : Owns lo (I' :: l) w' h' := by
  have hd := (List.pairwise_cons.1 o.2).1
  have o' : Owns lo l w' h' := ⟨fun J hJ => by
    obtain ⟨h1, h2⟩ := o.1 J (List.mem_cons_of_mem _ hJ)
    have hn : ∀ b, J.B b → ¬ I.B b := fun b hj hi => hd J hJ b hi hj
    exact ⟨J.fr h1 m.size (fun b hb => m.block b (J.lt h1 b hb) (hn b hb)) m.le (fun a v hb e => m.new a v (J.lt h1 _ hb) (hn _ hb) e), h2⟩, (List.pairwise_cons.1 o.2).2⟩
  refine o'.cons hp (fun b hb => ?_) (fun J hJ b hb hj => ?_)
  · rcases hB b hb with h1 | h1
    · exact (o.1 I List.mem_cons_self).2 b h1
    · exact hlo b h1
  · rcases hB b hb with h1 | h1
    · exact hd J hJ b h1 hj
    · have := J.lt (o.1 J (List.mem_cons_of_mem _ hJ)).1 b hj; omega
structure Cx where
  P : Program
  n : Nat
  w0 : World
  h0 : PH
  X0 : List OI
  X1 : List OI
/-- The blocks that the call may turn: those handed to it. -/
def Cx.B (C : Cx) : Nat → Prop := fun b => ∃ I ∈ C.X0, I.B b
def Cx.lo (C : Cx) : Nat → Prop := fun b => C.w0.heap.size ≤ b ∨ C.B b
structure SS (C : Cx) (Γ : Nat → Rep) (l : List OI) (a : Act) (w : World) (h : PH) : Prop where
  size : a.tmps.size = C.n
  defers : a.defers = []
  step : MStep C.B C.w0 C.h0 w h
  sat : Sat Γ h a
  own : Owns C.lo l w h
def J (C : Cx) (Γ : Nat → Rep) (l : List OI) (c : Code) (Q : Exit → Act → World → Prop) : Prop := ∀ a w h, SS C Γ l a w h → c.wp C.P Q a w
def E (C : Cx) (e : Exit) (Γ : Nat → Rep) (l : List OI) (Q : Exit → Act → World → Prop) : Prop := ∀ a w h, SS C Γ l a w h → Q e a w
def Sub (Γ Γ' : Nat → Rep) : Prop := ∀ s, Ent (Γ s) (Γ' s)
def top : Nat → Rep := fun _ => Rep.any
theorem Sub.refl (Γ : Nat → Rep) : Sub Γ Γ := fun s => Ent.refl _
theorem Sub.top (Γ : Nat → Rep) : Sub Γ top := fun s => Ent.any _
theorem Sub.upd {Γ Γ' : Nat → Rep} {R : Rep} (e : Sub Γ Γ') (s : Nat) (hs : Ent (Γ s) R) : Sub Γ (upd Γ' s R) := fun t => by
  unfold Go.Proofs.YtdioiepkbolnlaaGreatDoor.upd
  split
  · rename_i h; subst h; exact hs
  · exact e t
theorem SS.sub {C : Cx} {Γ Γ' : Nat → Rep} {l : List OI} {a : Act} {w : World} {h : PH} (s : SS C Γ l a w h) (e : Sub Γ Γ') : SS C Γ' l a w h := ⟨s.size, s.defers, s.step, fun t => e t _ _ (s.sat t), s.own⟩
theorem SS.own' {C : Cx} {Γ : Nat → Rep} {l l' : List OI} {a : Act} {w : World} {h : PH} (s : SS C Γ l a w h) (e : Owns C.lo l' w h) : SS C Γ l' a w h := ⟨s.size, s.defers, s.step, s.sat, e⟩

section
variable {C : Cx} {Γ Γ' : Nat → Rep} {l l' : List OI} {Q : Exit → Act → World → Prop}
theorem J.sub {c : Code} (h : J C Γ' l c Q) (e : Sub Γ Γ') : J C Γ l c Q := fun a w h' s => h a w h' (s.sub e)
theorem J.seq {x y : Code} (h : J C Γ l x (Exit.then (fun a w => y.wp C.P Q a w) Q)) : J C Γ l (.seq x y) Q := fun a w h' s => wp_seq (h a w h' s)
theorem J.skip (h : E C .normal Γ l Q) : J C Γ l .skip Q := fun a w h' s => wp_skip (h a w h' s)
theorem J.exit {id : Nat} (h : E C (.exit id) Γ l Q) : J C Γ l (.exit id) Q := fun a w h' s => wp_exit (h a w h' s)
theorem J.ret (h : E C .ret Γ l Q) : J C Γ l .ret Q := fun a w h' s => wp_ret (h a w h' s)
theorem J.block {id : Nat} {c : Code} (h : J C Γ l c (Exit.inBlock id Q)) : J C Γ l (.block id c) Q := fun a w h' s => wp_block (h a w h' s)
theorem E.next {y : Code} (h : J C Γ l y Q) : E C .normal Γ l (Exit.then (fun a w => y.wp C.P Q a w) Q) := h
theorem E.blockEnd {id : Nat} (h : E C .normal Γ l Q) : E C .normal Γ l (Exit.inBlock id Q) := h
theorem E.hit {id : Nat} (h : E C .normal Γ l Q) : E C (.exit id) Γ l (Exit.inBlock id Q) := fun a w h' s => by
  show (if id = id then Q .normal a w else Q (.exit id) a w)
  rw [if_pos rfl]; exact h a w h' s
theorem E.miss {id id' : Nat} (hne : id' ≠ id) (h : E C (.exit id') Γ l Q) : E C (.exit id') Γ l (Exit.inBlock id Q) := fun a w h' s => by
  show (if id' = id then Q .normal a w else Q (.exit id') a w)
  rw [if_neg hne]; exact h a w h' s
theorem E.passX {id : Nat} {K : Act → World → Prop} (h : E C (.exit id) Γ l Q) : E C (.exit id) Γ l (Exit.then K Q) := h
theorem E.passR {K : Act → World → Prop} (h : E C .ret Γ l Q) : E C .ret Γ l (Exit.then K Q) := h
theorem E.passRb {id : Nat} (h : E C .ret Γ l Q) : E C .ret Γ l (Exit.inBlock id Q) := h
theorem J.cond {t : Operand} {B : Bool} {x y : Code} (ht : Ent (opd Γ t) (Rep.is (.bool B))) (hx : B = true → J C Γ l x Q) (hy : B = false → J C Γ l y Q) : J C Γ l (.cond t x y) Q := fun a w h' s =>
  wp_cond_split (ht _ _ (s.sat.opd t)) (fun e => hx e a w h' s) (fun e => hy e a w h' s)
/-- The operations of a region that are left, one behind the other. -/
def JO (C : Cx) (ops : Array Oper) (is : List Nat) (Γ : Nat → Rep) (l : List OI) (Q : Exit → Act → World → Prop) : Prop := ∀ a w h, SS C Γ l a w h → wpOps C.P ops Q is a w
theorem JO.nil {ops : Array Oper} (h : E C .normal Γ l Q) : JO C ops [] Γ l Q := h
/-- What stands of what is owned, while nothing of it is turned. -/
abbrev Vo (C : Cx) (l : List OI) : World → PH → Prop := fun w h => Owns C.lo l w h
theorem J.regS (hm : C.P.follows .mixedOrders = true) {id : Nat} {ops : Array Oper} {draw : Bool} (us : List Out) (hok : regOk C.n us.length (us.map (·.own)) ops = true) (hops : OpsG C.P (Vo C l) ops ops.toList Γ us)
    (h : ∀ a w h ml, SS C (envs Γ ops.toList us) (ml ++ l) a w h → ml.Perm (outs ops a us) → wpOps C.P ops Q (List.range' us.length (ops.size - us.length)) a w) : J C Γ l (.region id ops draw) Q := fun a w h' s =>
  Go.Proofs.YtdioiepkbolnlaaGreatDoor.reg hm (fun w h w' h' o st => o.step st) us hok hops (fun b hb => .inl (Nat.le_trans s.step.size hb)) s.size s.step.pub s.own s.sat s.own fun a' w' h'' ml h1 h2 h3 h4 h5 h6 => h a' w' h'' ml ⟨h1, h2.trans s.defers, s.step.step_ h3, h4, h5⟩ h6
theorem items_plain (ops : Array Oper) (us : List Out) (hu : us.all (fun u => !u.own) = true) (a : Act) : outs ops a us = [] := by
  unfold outs items
  have : ∀ j, (us.getD j (plain Rep.any)).it (dv ops a j) = [] := by
    intro j
    have : (us.getD j (plain Rep.any)).own = false := by
      by_cases hj : j < us.length
      · have := (List.all_eq_true.1 hu) us[j] (List.getElem_mem hj)
        simpa [List.getD, hj] using this
      · simp [List.getD, hj, plain]
    unfold Out.it; rw [this]; rfl
  induction List.range us.length with
  | nil => rfl
  | cons b t ih => rw [List.flatMap_cons, ih]; simp only [if_true, this, List.append_nil]
/-- A region of operations that turn nothing old, and give nothing to turn. -/
theorem J.reg_ (hm : C.P.follows .mixedOrders = true) {id : Nat} {ops : Array Oper} {draw : Bool} (us : List Out) (hok : regOk C.n us.length (us.map (·.own)) ops = true) (hu : us.all (fun u => !u.own) = true) (hops : OpsG C.P (Vo C l) ops ops.toList Γ us) (his : List.range' us.length (ops.size - us.length) = []) (h : E C .normal (envs Γ ops.toList us) l Q) : J C Γ l (.region id ops draw) Q :=
  J.regS hm us hok hops fun a w h' ml s hp => by
    rw [items_plain ops us hu a] at hp
    have := hp.eq_nil
    subst this
    rw [his]
    exact h a w h' s
/-- .. the first of them; then the rest. -/
theorem J.regR (hm : C.P.follows .mixedOrders = true) {id : Nat} {ops : Array Oper} {draw : Bool} (us : List Out) (is : List Nat) (hok : regOk C.n us.length (us.map (·.own)) ops = true) (hu : us.all (fun u => !u.own) = true) (hops : OpsG C.P (Vo C l) ops ops.toList Γ us) (his : List.range' us.length (ops.size - us.length) = is) (h : JO C ops is (envs Γ ops.toList us) l Q) : J C Γ l (.region id ops draw) Q :=
  J.regS hm us hok hops fun a w h' ml s hp => by
    rw [items_plain ops us hu a] at hp
    have := hp.eq_nil
    subst this
    rw [his]
    exact h a w h' s

/-! #### a loop -/
def Again (C : Cx) {ι : Type} (Γi : ι → Nat → Rep) (li : ι → List OI) (pi : ι → Prop) (μ : ι → Nat) (i : ι) : Act → World → Prop := fun a w => ∃ h i', SS C (Γi i') (li i') a w h ∧ pi i' ∧ μ i' < μ i
theorem J.loop {ι : Type} (Γi : ι → Nat → Rep) (li : ι → List OI) (pi : ι → Prop) (μ : ι → Nat) (i0 : ι) {c : Code} (hl : l = li i0) (h0 : pi i0) (hs : Sub Γ (Γi i0)) (round : ∀ i, pi i → J C (Γi i) (li i) c (Exit.then (Again C Γi li pi μ i) Q)) : J C Γ l (.loop c) Q := fun a w h s => by
  subst hl
  refine wp_loop_ghost (fun m a w => ∃ h i, SS C (Γi i) (li i) a w h ∧ pi i ∧ μ i = m) (μ i0) ⟨h, i0, s.sub hs, h0, rfl⟩ ?_
  rintro m a w ⟨h, i, s, hp, rfl⟩
  refine wp_mono (round i hp a w h s) ?_
  intro e a' w' hq
  cases e with
  | normal =>
    obtain ⟨h', i', s', hp', hlt⟩ := hq
    exact ⟨μ i', hlt, h', i', s', hp', rfl⟩
  | _ => exact hq
theorem E.again {ι : Type} {Γi : ι → Nat → Rep} {li : ι → List OI} {pi : ι → Prop} {μ : ι → Nat} {i : ι} (i' : ι) (hl : l = li i') (hp : pi i') (hlt : μ i' < μ i) (hs : Sub Γ (Γi i')) : E C .normal Γ l (Exit.then (Again C Γi li pi μ i) Q) := fun a w h s =>
  ⟨h, i', hl ▸ s.sub hs, hp, hlt⟩
end
end Go.Proofs.YtdioiepkbolnlaaGreatDoor
