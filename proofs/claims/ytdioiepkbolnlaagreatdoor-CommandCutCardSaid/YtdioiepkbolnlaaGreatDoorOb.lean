/- Blocks that a call makes and hands back; fields that hold a row of the call's own. Nothing of the program is in it. -/
import Derived.Test.YtdioiepkbolnlaaGreatDoorRd
import Derived.Laws.Small
import Derived.Laws.Cover1
set_option linter.unusedSimpArgs false
set_option linter.unusedVariables false
namespace Go.Proofs.YtdioiepkbolnlaaGreatDoor
open Go.RowKit
/-- One cell that holds just this value. -/
def isF (v : Value) : FP := ⟨1, false, fun _ => rfl, fun _ cs => cs = [v] ∧ v.oneCell' = true, fun e => by rw [e.1]; rfl, fun e u hu => by rw [e.1] at hu; rw [List.mem_singleton.1 hu]; exact e.2, fun _ e => e⟩
/-- A struct one of whose fields is told as a value. -/
def kV {α : Type} (k : Kind α) (fl : α → List FP) (i : Nat) (v : Value) : Kind α where
  sz := k.sz
  agg := true
  flat := fun e => by cases e
  K := fun h x cs => cs.length = k.sz ∧ RowF h ((fl x).set i (isF v)) cs
  len := fun e => e.1
  one := fun e => e.2.one
  mono := fun l e => ⟨e.1, e.2.mono l⟩
theorem isF_is (v : Value) : Ent (isF v).rep (Rep.is v) := fun h u e => by
  rcases e with ⟨e, _⟩ | ⟨_, e⟩
  · cases e
  · have := e.1
    injection this
theorem one_slice {v : Value} {α : Type} {k : Kind α} {xs : List α} {h : PH} (e : ((kSl k).rep xs).p h v) : v.oneCell' = true := by
  obtain ⟨A, c, rfl, _⟩ := sl_form e
  rfl
theorem rv_isF {α : Type} (v : Value) (k : Kind α) (xs : List α) : Ent (rv v k xs) (isF v).rep := fun h u e => by
  obtain ⟨rfl, e⟩ := e
  exact .inr ⟨rfl, rfl, one_slice e⟩
theorem nil_isF : Ent (Rep.is (.slice none 0 0)) (isF (.slice none 0 0)).rep := fun h u e => by
  subst e; exact .inr ⟨rfl, rfl, rfl⟩
section
variable {C : Cx} {Γ : Nat → Rep} {l l1 l2 : List OI} {e : Exit} {Q : Exit → Act → World → Prop} {α β : Type}
theorem E.row0 (k : Kind α) (t : TypeId) (hk : E C e Γ (rowI (.slice none 0 0) k t ([] : List α) :: l) Q) : E C e Γ l Q := fun a w h s => hk a w h (s.own' (Go.Proofs.YtdioiepkbolnlaaGreatDoor.row0 k t s.own))
theorem RowF.set {h : PH} {fs : List FP} {cs : List Value} {i : Nat} {v : Value} {g : FP} (r : RowF h (fs.set i (isF v)) cs) (hg : fs[i]? = some g) (hv : g.K h [v]) : RowF h fs cs := by
  induction fs generalizing i cs with
  | nil => simp at hg
  | cons f fs ih =>
    cases i with
    | zero =>
      rw [List.set_cons_zero] at r
      cases r with
      | cons hx hr =>
        have : f = g := by simpa using hg
        subst this
        rw [hx.1]
        exact .cons hv hr
    | succ i =>
      rw [List.set_cons_succ] at r
      cases r with
      | cons hx hr => exact .cons hx (ih hr (by simpa using hg))
theorem RowF.kvz {h : PH} {fs : List FP} {cs : List Value} {i : Nat} {v : Value} (r : RowF h fs cs) (hg : (fs[i]?).map (·.n) = some 1) (hc : cs[fsum (fs.take i)]? = some v) (h1 : v.oneCell' = true) : RowF h (fs.set i (isF v)) cs := by
  induction r generalizing i with
  | nil => simp at hg
  | @cons f fs c cs hx hr ih =>
    cases i with
    | zero =>
      have hn : f.n = 1 := by simpa using hg
      have hl := f.len hx
      rw [hn] at hl
      match c, hl with
      | [u], _ =>
        have : u = v := by simpa [fsum] using hc
        subst this
        exact .cons (c := [u]) ⟨rfl, h1⟩ hr
    | succ i =>
      rw [List.set_cons_succ]
      refine .cons hx (ih (by simpa using hg) ?_)
      rw [List.take_succ_cons, show fsum (f :: fs.take i) = f.n + fsum (fs.take i) from rfl, List.getElem?_append_right (by rw [f.len hx]; omega), f.len hx, Nat.add_sub_cancel_left] at hc
      exact hc
/-- The row is its own field's: the field reads so. -/
theorem Owns.settle {lo : Nat → Prop} {k : Kind α} {fl : α → List FP} {i b : Nat} {v : Value} {x : α} {ke : Kind β} {te : TypeId} {xs : List β} {w : World} {h : PH} (hk : ∀ h cs, RowF h (fl x) cs → k.K h x cs) (hi : (fl x)[i]? = some ((kSl ke).fp xs)) (o : Owns lo (blkI b ((kV k fl i v).fp x) :: rowI v ke te xs :: l) w h) : Owns lo (blkI b (k.fp x) :: rowI v ke te xs :: l) w h := by
  have h1 := o.1 _ List.mem_cons_self
  have h2 := o.1 _ (List.mem_cons_of_mem _ List.mem_cons_self)
  obtain ⟨⟨cs, t, hc, hl, hr⟩, hu⟩ := h1.1
  have hv : ((kSl ke).fp xs).K h [v] := by
    rcases row_reads h2.1 with ⟨hh, _⟩ | ⟨_, hh⟩
    · cases hh
    · exact hh
  refine ⟨fun J hJ => ?_, List.pairwise_cons.2 ⟨fun J hJ c hc hc' => ?_, (List.pairwise_cons.1 o.2).2⟩⟩
  · rcases List.mem_cons.1 hJ with rfl | hJ
    · exact ⟨⟨⟨cs, t, hc, hk _ _ (RowF.set hr hi hv)⟩, hu⟩, h1.2⟩
    · exact o.1 J (List.mem_cons_of_mem _ hJ)
  · exact (List.pairwise_cons.1 o.2).1 J hJ c hc hc'
theorem J.settle {k : Kind α} {fl : α → List FP} {i b : Nat} {v : Value} {x : α} {ke : Kind β} {te : TypeId} {xs : List β} {c : Code} (hk : ∀ h cs, RowF h (fl x) cs → k.K h x cs) (hi : (fl x)[i]? = some ((kSl ke).fp xs)) (kk : J C Γ (blkI b (k.fp x) :: rowI v ke te xs :: l) c Q) : J C Γ (blkI b ((kV k fl i v).fp x) :: rowI v ke te xs :: l) c Q := fun a w h s => kk a w h (s.own' (s.own.settle hk hi))
/-- A pointer to a new block is handed back. -/
theorem E.ret1B {fn : Func} {f : FP} {b r : Nat} (hr : fn.results = #[.tmp r]) (hR : Ent (Γ r) (Rep.is (pb b 0))) (hx : Left C l := by first | exact List.nil_sublist _ | exact List.Sublist.refl _ | (repeat (first | exact List.Sublist.refl _ | exact List.nil_sublist _ | apply List.Sublist.cons_cons | apply List.Sublist.cons))) : E C .ret Γ (blkI b f :: l) (bodyPost C.P fn (Post C.w0 C.h0 C.X0 C.X1 isPb (blkOf f))) := fun a w h s => by
  have hv : tv a r = pb b 0 := hR _ _ (s.sat r)
  have hv' : a.tmps[r]?.getD undef = pb b 0 := by rw [← Array.getD_eq_getD_getElem?]; exact hv
  exact ⟨s.defers, pb b 0, by simp [results, hr, hv'], pb b 0, h, rfl, s.step, ⟨b, rfl⟩, s.own.sub (hx.cons_cons _)⟩
end
section
variable {P : Program} {V : World → PH → Prop} {Γ : Nat → Rep} {o : Oper} {ts : Array TypeId} {x y z : Operand} {k : IntKind} {m n q : Int}
theorem if_max (m n : Int) : (if n > m then n else m) = max m n := by omega
theorem if_min (m n : Int) : (if n < m then n else m) = min m n := by omega
theorem op_max2 (ho : o.op = .call ⟨.builtin .max, #[x, y], ts⟩) (hx : Ent (opd Γ x) (Rep.is (.int k m))) (hy : Ent (opd Γ y) (Rep.is (.int k n))) : OpC P V o Γ (plain (Rep.is (.int k (max m n)))) := OpC.pure fun A w h hp hop => by
  have hx : A.eval x = _ := hx _ _ (hop x (by simp [ho, Op.operands, Call.operands]))
  have hy : A.eval y = _ := hy _ _ (hop y (by simp [ho, Op.operands, Call.operands]))
  refine ⟨_, ?_, rfl⟩
  rw [run_builtin ho]
  refine run_v ?_
  rw [← if_max]
  simp [hx, hy, run_max_int2, builtin]
theorem op_min2 (ho : o.op = .call ⟨.builtin .min, #[x, y], ts⟩) (hx : Ent (opd Γ x) (Rep.is (.int k m))) (hy : Ent (opd Γ y) (Rep.is (.int k n))) : OpC P V o Γ (plain (Rep.is (.int k (min m n)))) := OpC.pure fun A w h hp hop => by
  have hx : A.eval x = _ := hx _ _ (hop x (by simp [ho, Op.operands, Call.operands]))
  have hy : A.eval y = _ := hy _ _ (hop y (by simp [ho, Op.operands, Call.operands]))
  refine ⟨_, ?_, rfl⟩
  rw [run_builtin ho]
  refine run_v ?_
  rw [← if_min]
  simp [hx, hy, run_min_int2, builtin]
theorem op_max3 (ho : o.op = .call ⟨.builtin .max, #[x, y, z], ts⟩) (hx : Ent (opd Γ x) (Rep.is (.int k m))) (hy : Ent (opd Γ y) (Rep.is (.int k n))) (hz : Ent (opd Γ z) (Rep.is (.int k q))) : OpC P V o Γ (plain (Rep.is (.int k (max (max m n) q)))) := OpC.pure fun A w h hp hop => by
  have hx : A.eval x = _ := hx _ _ (hop x (by simp [ho, Op.operands, Call.operands]))
  have hy : A.eval y = _ := hy _ _ (hop y (by simp [ho, Op.operands, Call.operands]))
  have hz : A.eval z = _ := hz _ _ (hop z (by simp [ho, Op.operands, Call.operands]))
  refine ⟨_, ?_, rfl⟩
  rw [run_builtin ho]
  refine run_v ?_
  rw [← if_max, ← if_max]
  simp [hx, hy, hz, run_max_int3, builtin]
end
end Go.Proofs.YtdioiepkbolnlaaGreatDoor
