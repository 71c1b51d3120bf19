/- Operations on slices, strings; calls. Nothing of the program is in it. -/
import Derived.Test.YtdioiepkbolnlaaGreatDoorKd
set_option linter.unusedSimpArgs false
set_option linter.unusedVariables false
namespace Go.Proofs.YtdioiepkbolnlaaGreatDoor
open Go.RowKit
section
variable {P : Program} {V : World → PH → Prop} {Γ : Nat → Rep} {o : Oper} {t t' : TypeId} {x y : Operand}
theorem run_builtin {b : Builtin} {args : Array Operand} {ts : Array TypeId} {ρ : Operand → Value} (ho : o.op = .call ⟨.builtin b, args, ts⟩) (w : World) :
    (execOp ρ o).run P w = (builtin b ts o.type (args.map fun | .const _ => true | _ => false) (args.map ρ)).run P w := by
  simp only [execOp, ho, resolve, Sem.run_bind, Sem.run_pure, Result.andThen_ok, invoke]
  rfl
theorem op_len {α : Type} {k : Kind α} {l : List α} {e : TypeId} (ho : o.op = .call ⟨.builtin .len, #[x], #[t]⟩) (hx : Ent (opd Γ x) ((kSl k).rep l)) (ht : P.underlying t = some (.slice e)) : OpC P V o Γ (plain <| Rep.is (.int .i64 l.length)) := OpC.pure fun A w h hp hop => by
  obtain ⟨B, c, he, _⟩ := sl_form (hx _ _ (hop x (by simp [ho, Op.operands, Call.operands])))
  refine ⟨_, ?_, rfl⟩
  rw [run_builtin ho]
  refine run_v ?_
  simp [he, Builtin.len_, run_underlying ht, goInt]
theorem op_lens {s : ByteArray} (ho : o.op = .call ⟨.builtin .len, #[x], #[t]⟩) (hx : Ent (opd Γ x) (Rep.is (.string s))) (ht : P.underlying t = some .string) : OpC P V o Γ (plain <| Rep.is (.int .i64 s.size)) := OpC.pure fun A w h hp hop => by
  have he : A.eval x = _ := hx _ _ (hop x (by simp [ho, Op.operands, Call.operands]))
  refine ⟨_, ?_, rfl⟩
  rw [run_builtin ho]
  refine run_v ?_
  simp [he, Builtin.len_, run_underlying ht, goInt]
/-- The address of an element. -/
theorem op_index {α : Type} {k : Kind α} {l : List α} {e : TypeId} {ik : IntKind} {i : Int} (d : α) (ho : o.op = .indexAddr t x y) (hx : Ent (opd Γ x) ((kSl k).rep l)) (hy : Ent (opd Γ y) (Rep.is (.int ik i))) (ht : P.underlying t = some (.slice e)) (hs : (P.info? e).map (·.size) = some k.sz)
    (h0 : 0 ≤ i) (h1 : i < l.length) : OpC P V o Γ (plain <| ptr (k.fp (l.getD i.toNat d))) := OpC.pure fun A w h hp hop => by
  obtain ⟨B, c, he, _, _, h3⟩ := sl_form (hx _ _ (hop x (by simp [ho, Op.operands])))
  have hi : A.eval y = _ := hy _ _ (hop y (by simp [ho, Op.operands]))
  have hlt : i.toNat < l.length := by omega
  obtain ⟨a, ds, rfl, hsp, hr, hat⟩ := h3 (by omega)
  obtain ⟨c', c1, c2, rfl, h4, h5, _, _⟩ := hr.split (fun x c hx => k.len hx) i.toNat hlt
  refine ⟨.pointer (some (a.add (i.toNat * k.sz))), ?_, _, c', rfl, spot_add _ _ hsp, ?_, ?_⟩
  · simp only [execOp, ho]
    rw [he, hi]
    refine run_v ?_
    simp [Instr.indexAt, asIntOf, run_underlying ht, h0, h1, run_sizeOf' hs]
  · simpa [Kind.fp, List.getD, hlt] using h5
  · rw [← h4]; exact (hat.right hsp).left
theorem op_sidx {s : ByteArray} {ik : IntKind} {i : Int} (ho : o.op = .index t x y) (hx : Ent (opd Γ x) (Rep.is (.string s))) (hy : Ent (opd Γ y) (Rep.is (.int ik i))) (ht : P.underlying t = some .string) (h0 : 0 ≤ i) (h1 : i < s.size) : OpC P V o Γ (plain <| Rep.is (bv (s.data.toList.getD i.toNat 0))) := OpC.pure fun A w h hp hop => by
  have he : A.eval x = _ := hx _ _ (hop x (by simp [ho, Op.operands]))
  have hi : A.eval y = _ := hy _ _ (hop y (by simp [ho, Op.operands]))
  refine ⟨_, ?_, rfl⟩
  simp only [execOp, ho]
  rw [he, hi]
  refine run_v ?_
  rw [run_index_string w t s ik i ht, dif_pos ⟨h0, h1⟩]
  have : i.toNat < s.data.size := by have := s.size_data; omega
  simp [List.getD, bv]
  rw [Array.getElem?_eq_getElem this]
  rfl
/-- A part of a slice. -/
theorem sl_cut {α : Type} {k : Kind α} {l : List α} {h : PH} {v : Value} (e : ((kSl k).rep l).p h v) (i j : Nat) (hij : i ≤ j) (hj : j ≤ l.length) :
    ∃ A c, v = .slice A l.length c ∧ l.length ≤ c ∧ ((kSl k).rep ((l.take j).drop i)).p h (.slice (if c = i then A else A.map (·.add (i * k.sz))) (j - i) (c - i)) := by
  obtain ⟨A, c, rfl, h1, h2, h3⟩ := sl_form e
  refine ⟨A, c, rfl, h1, ?_⟩
  have hlen : ((l.take j).drop i).length = j - i := by simp; omega
  rw [← hlen]
  refine sl_mk (by omega) (by omega) (fun hp => ?_)
  obtain ⟨a, ds, rfl, hs, hr, ha⟩ := h3 (by omega)
  have hk := fun x c (hx : k.K h x c) => k.len hx
  have hci : ¬ c = i := by omega
  refine ⟨a.add (i * k.sz), (ds.take (j * k.sz)).drop (i * k.sz), by simp [hci], spot_add _ _ hs, (hr.take_ hk j).drop_ hk i, ?_⟩
  have hl := hr.length hk
  have e1 : ds.take (j * k.sz) = ds.take (i * k.sz) ++ (ds.take (j * k.sz)).drop (i * k.sz) := by
    conv => lhs; rw [← List.take_append_drop (i * k.sz) (ds.take (j * k.sz))]
    rw [List.take_take, Nat.min_eq_left (Nat.mul_le_mul_right _ hij)]
  have h5 : At h a (ds.take (j * k.sz)) := by
    have := ha
    rw [← List.take_append_drop (j * k.sz) ds] at this
    exact this.left
  rw [e1] at h5
  have h6 := h5.right hs
  rw [List.length_take, Nat.min_eq_left (by rw [hl]; exact Nat.mul_le_mul_right _ (by omega))] at h6
  exact h6
theorem op_cut {α : Type} {k : Kind α} {l : List α} {e : TypeId} {lo hi : Option Operand} {i j : Nat} (ho : o.op = .slice t x lo hi none) (hx : Ent (opd Γ x) ((kSl k).rep l)) (ht : P.underlying t = some (.slice e)) (hs : (P.info? e).map (·.size) = some k.sz)
    (hlo : match lo with | none => i = 0 | some y => ∃ ik, Ent (opd Γ y) (Rep.is (.int ik i))) (hhi : match hi with | none => j = l.length | some y => ∃ ik, Ent (opd Γ y) (Rep.is (.int ik j))) (hij : i ≤ j) (hj : j ≤ l.length) : OpC P V o Γ (plain <| (kSl k).rep ((l.take j).drop i)) := OpC.pure fun A w h hp hop => by
  obtain ⟨B, c, he, hc, hv⟩ := sl_cut (hx _ _ (hop x (by simp [ho, Op.operands]))) i j hij hj
  refine ⟨_, ?_, hv⟩
  simp only [execOp, ho]
  rw [he]
  refine run_v ?_
  have hic : i ≤ c := by omega
  have hjc : j ≤ c := by omega
  cases lo with
  | none =>
    subst hlo
    cases hi with
    | none =>
      subst hhi
      simp [Instr.sliceAt, run_underlying ht, Instr.slice, Instr.sliceBounds, run_sizeOf' hs]
    | some y =>
      obtain ⟨ik, hy⟩ := hhi
      have hi : A.eval y = _ := hy _ _ (hop y (by simp [ho, Op.operands]))
      simp [Instr.sliceAt, run_underlying ht, Instr.slice, Instr.sliceBounds, run_sizeOf' hs, hi, Instr.sliceBound, asIntOf, hjc]
  | some z =>
    obtain ⟨ik', hz⟩ := hlo
    have hlo : A.eval z = _ := hz _ _ (hop z (by simp [ho, Op.operands]))
    cases hi with
    | none =>
      subst hhi
      simp [Instr.sliceAt, run_underlying ht, Instr.slice, Instr.sliceBounds, run_sizeOf' hs, hlo, Instr.sliceBound, asIntOf, hij]
    | some y =>
      obtain ⟨ik, hy⟩ := hhi
      have hi : A.eval y = _ := hy _ _ (hop y (by simp [ho, Op.operands]))
      simp [Instr.sliceAt, run_underlying ht, Instr.slice, Instr.sliceBounds, run_sizeOf' hs, hi, hlo, Instr.sliceBound, asIntOf, hjc, hij]
end
end Go.Proofs.YtdioiepkbolnlaaGreatDoor
