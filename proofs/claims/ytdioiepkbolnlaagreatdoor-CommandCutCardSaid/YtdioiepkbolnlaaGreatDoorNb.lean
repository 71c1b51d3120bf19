/- More rules: arrays, pointers in structs, copy, slices against nil. Nothing of the program is in it. -/
import Derived.Test.YtdioiepkbolnlaaGreatDoorMx
import Derived.Test.YtdioiepkbolnlaaGreatDoorTy
import Derived.Lib.SliceRun
set_option linter.unusedSimpArgs false
set_option linter.unusedVariables false
namespace Go.Proofs.YtdioiepkbolnlaaGreatDoor
open Go.RowKit
def nilq {α : Type} (xs : List α) : Rep := ⟨fun _ v => ∃ q : Bool, v = .bool q ∧ (q = true → xs = []), fun _ e => e⟩
def ArT (P : Program) (t n e sz : Nat) : Prop := P.underlying t = some (.array n e) ∧ (P.info? e).map (·.size) = some sz ∧ 0 < n
def kPb : Kind Nat := kScalar (fun b => pb b 0) fun _ => rfl
theorem rep_pb (b : Nat) : Ent (kPb.rep b) (Rep.is (pb b 0)) := fun h v e => by
  rcases e with ⟨e, _⟩ | ⟨_, e⟩
  · cases e
  · injection e
theorem pb_rep (b : Nat) : Ent (Rep.is (pb b 0)) (kPb.rep b) := fun h v e => by cases e; exact .inr ⟨rfl, rfl⟩
section
variable {P : Program} {V : World → PH → Prop} {C : Cx} {Γ : Nat → Rep} {l l1 l2 l' : List OI} {o : Oper} {t t' e : TypeId} {x y : Operand} {Q : Exit → Act → World → Prop} {ops : Array Oper} {i : Nat} {is : List Nat} {α : Type} {k : Kind α} {xs ys : List α}
theorem g_loadPb {b : Nat} (ho : o.op = .load t x) (ht : LdT P t false 1) (hx : Ent (opd Γ x) (ptr (kPb.fp b))) : OpC P V o Γ (plain (Rep.is (pb b 0))) := (g_load ho ht hx).weak (rep_pb b)
theorem op_indexAB {b n j q : Nat} {ik : IntKind} {sz : Nat} (ho : o.op = .indexAddr t x y) (ht : ArT P t n e sz) (hx : Ent (opd Γ x) (Rep.is (pb b q))) (hy : Ent (opd Γ y) (Rep.is (.int ik (j : Int)))) (hj : j < n) : OpC P V o Γ (plain (Rep.is (pb b (q + j * sz)))) := OpC.pure fun A w h hp hop => by
  have he : A.eval x = _ := hx _ _ (hop x (by simp [ho, Op.operands]))
  have hi : A.eval y = _ := hy _ _ (hop y (by simp [ho, Op.operands]))
  refine ⟨_, ?_, rfl⟩
  simp only [execOp, ho]
  rw [he, hi]
  refine run_v ?_
  have h1 : (j : Int) < n := by omega
  simp [Instr.indexAt, asIntOf, run_underlying ht.1, h1, run_sizeOf' ht.2.1, hj, Instr.sureAddr]
  rw [Addr.add_lit]
theorem op_indexAB0 {b n j : Nat} {ik : IntKind} {sz : Nat} (ho : o.op = .indexAddr t x y) (ht : ArT P t n e sz) (hx : Ent (opd Γ x) (Rep.is (pb b 0))) (hy : Ent (opd Γ y) (Rep.is (.int ik (j : Int)))) (hj : j < n) : OpC P V o Γ (plain (Rep.is (pb b (j * sz)))) := by
  have := op_indexAB (V := V) ho ht hx hy hj
  rwa [Nat.zero_add] at this
theorem op_indexA {n : Nat} {ik : IntKind} {j : Int} (d : α) (ho : o.op = .indexAddr t x y) (ht : ArT P t n e k.sz) (hx : Ent (opd Γ x) (ptr ((kArr n k).fp xs))) (hy : Ent (opd Γ y) (Rep.is (.int ik j))) (hj : 0 ≤ j ∧ j < n) : OpC P V o Γ (plain (ptr (k.fp (xs.getD j.toNat d)))) := OpC.pure fun A w h hp hop => by
  obtain ⟨ad, cs, he, hsp, hk, hat⟩ := hx _ _ (hop x (by simp [ho, Op.operands]))
  have hi : A.eval y = _ := hy _ _ (hop y (by simp [ho, Op.operands]))
  obtain ⟨hn, hr⟩ := hk
  have hlt : j.toNat < xs.length := by omega
  obtain ⟨c', c1, c2, rfl, h4, h5, _, _⟩ := hr.split (fun x c hx => k.len hx) j.toNat hlt
  refine ⟨.pointer (some (ad.add (j.toNat * k.sz))), ?_, _, c', rfl, spot_add _ _ hsp, ?_, ?_⟩
  · simp only [execOp, ho]
    rw [he, hi]
    refine run_v ?_
    simp [Instr.indexAt, asIntOf, run_underlying ht.1, hj.1, hj.2, run_sizeOf' ht.2.1, Instr.sureAddr]
  · simpa [Kind.fp, List.getD, hlt] using h5
  · rw [← h4]; exact (hat.right hsp).left
theorem op_cutA {n : Nat} (ho : o.op = .slice t x none none none) (ht : ArT P t n e k.sz) (hx : Ent (opd Γ x) (ptr ((kArr n k).fp xs))) (hn : n ≤ 9223372036854775807) : OpC P V o Γ (plain ((kSl k).rep xs)) := OpC.pure fun A w h hp hop => by
  obtain ⟨ad, cs, he, hsp, ⟨hl, hr⟩, hat⟩ := hx _ _ (hop x (by simp [ho, Op.operands]))
  subst hl
  refine ⟨.slice (some ad) xs.length xs.length, ?_, sl_mk (Nat.le_refl _) hn (fun _ => ⟨ad, cs, rfl, hsp, hr, hat⟩)⟩
  simp only [execOp, ho]
  rw [he]
  refine run_v ?_
  have h0 := ht.2.2
  have : ¬ xs.length = 0 := by omega
  simp [Instr.sliceAt, run_underlying ht.1, Instr.sureAddr, Instr.sliceBounds, run_sizeOf' ht.2.1, this, Addr.add_zero']
theorem op_cutAB {n b sz : Nat} (ho : o.op = .slice t x none none none) (ht : ArT P t n e sz) (hx : Ent (opd Γ x) (Rep.is (pb b 0))) : OpC P V o Γ (plain (Rep.is (sb b n))) := OpC.pure fun A w h hp hop => by
  have he : A.eval x = _ := hx _ _ (hop x (by simp [ho, Op.operands]))
  refine ⟨_, ?_, rfl⟩
  simp only [execOp, ho]
  rw [he]
  refine run_v ?_
  have h0 := ht.2.2
  have : ¬ n = 0 := by omega
  simp [Instr.sliceAt, run_underlying ht.1, Instr.sureAddr, Instr.sliceBounds, run_sizeOf' ht.2.1, this, Addr.add_lit]
theorem op_cut3 {j : Nat} {hi mx : Operand} (ho : o.op = .slice t x none (some hi) (some mx)) (ht : SlT P t e k.sz) (hx : Ent (opd Γ x) ((kSl k).rep xs)) (hh : ∃ ik, Ent (opd Γ hi) (Rep.is (.int ik (j : Int)))) (hm : ∃ ik, Ent (opd Γ mx) (Rep.is (.int ik (j : Int)))) (hj : j ≤ xs.length) : OpC P V o Γ (plain ((kSl k).rep (xs.take j))) := OpC.pure fun A w h hp hop => by
  obtain ⟨B, c, he, h1, h2, h3⟩ := sl_form (hx _ _ (hop x (by simp [ho, Op.operands])))
  obtain ⟨ik, hh⟩ := hh
  obtain ⟨ik', hm⟩ := hm
  have eh : A.eval hi = _ := hh _ _ (hop hi (by simp [ho, Op.operands]))
  have em : A.eval mx = _ := hm _ _ (hop mx (by simp [ho, Op.operands]))
  have hlen : (xs.take j).length = j := by simp; omega
  have hjc : j ≤ c := by omega
  refine ⟨.slice B j j, ?_, ?_⟩
  · simp only [execOp, ho]
    rw [he]
    refine run_v ?_
    cases B with
    | none => simp [Instr.sliceAt, run_underlying ht.1, Instr.slice, Instr.sliceBounds, Instr.sliceBound, asIntOf, em, eh, hjc, run_sizeOf' ht.2]
    | some ad => simp [Instr.sliceAt, run_underlying ht.1, Instr.slice, Instr.sliceBounds, Instr.sliceBound, asIntOf, em, eh, hjc, run_sizeOf' ht.2, Addr.add_zero']
  · have : ((kSl k).rep (xs.take j)).p h (.slice B (xs.take j).length j) := sl_mk (by omega) (by omega) (fun hpos => by
      obtain ⟨ad, ds, rfl, hsp, hr, hat⟩ := h3 (by omega)
      refine ⟨ad, ds.take (j * k.sz), rfl, hsp, hr.take_ (fun x c hx => k.len hx) j, ?_⟩
      have := hat
      rw [← List.take_append_drop (j * k.sz) ds] at this
      exact this.left)
    rw [hlen] at this; exact this
/-- copy, onto a block of the call's own. -/
theorem OpM.copy {b n : Nat} (ho : o.op = .call ⟨.builtin .copy, #[x, y], #[t, t]⟩) (ht : SlT C.P t e k.sz) (hx : Ent (opd Γ x) (Rep.is (sb b n))) (hy : Ent (opd Γ y) ((kSl k).rep ys)) : OpM C (l1 ++ blkI b ((kArr n k).fp xs) :: l2) (l1 ++ blkI b ((kArr n k).fp (ys.take n ++ xs.drop ys.length)) :: l2) o Γ (Rep.is (.int .i64 (min ys.length n : Nat))) := by
  intro A w h hp hsz how hop K Q kk
  have hex : A.eval x = _ := hx _ _ (hop x (by simp [ho, Op.operands, Call.operands]))
  obtain ⟨B, c, hey, h1, h2, h3⟩ := sl_form (hy _ _ (hop y (by simp [ho, Op.operands, Call.operands])))
  obtain ⟨⟨cs, t', hc, hkk⟩, hu⟩ := (how.1 _ mid_mem).1
  obtain ⟨hxl, hxr⟩ : xs.length = n ∧ Rows (k.K h) xs cs.toList := hkk
  have hlen := fun x c (hx : k.K h x c) => k.len hx
  have hcl := hxr.length hlen
  -- the cells that come
  obtain ⟨ds, hds, hrows⟩ : ∃ ds, (Builtin.firstCells k.sz (min ys.length n) (.slice B ys.length c)).run C.P w = .ok ds.toArray w ∧ Rows (k.K h) (ys.take n) ds := by
    rcases Nat.eq_zero_or_pos ys.length with h0 | h0
    · have : ys = [] := List.eq_nil_of_length_eq_zero h0
      subst this
      refine ⟨[], ?_, by simpa using Rows.nil⟩
      cases B <;> simp [Builtin.firstCells, loadCells, loadCellsFrom]
    · obtain ⟨ad, ds, rfl, hsp, hr, hat⟩ := h3 h0
      have hdl := hr.length hlen
      have htake : (ds.take (min ys.length n * k.sz)).length = min ys.length n * k.sz := by
        rw [List.length_take, hdl]; exact Nat.min_eq_left (Nat.mul_le_mul_right _ (Nat.min_le_left _ _))
      refine ⟨ds.take (min ys.length n * k.sz), run_firstCells_some w k.sz (min ys.length n) ad _ c _ htake (fun j u hj => hp _ _ (hat j u ?_)), ?_⟩
      · have hlt := (List.getElem?_eq_some_iff.1 hj).1
        rw [List.getElem?_take] at hj
        split at hj
        · exact hj
        · cases hj
      · have := hr.take_ hlen n
        rcases Nat.le_total ys.length n with hle | hle
        · rw [Nat.min_eq_left hle, List.take_of_length_le hle, List.take_of_length_le (l := ds) (by rw [hdl]; exact Nat.le_refl _)]
          exact hr
        · rw [Nat.min_eq_right hle]; exact this
  have hdl := hrows.length hlen
  have hmin : (ys.take n).length = min ys.length n := by rw [List.length_take, Nat.min_comm]
  rw [hmin] at hdl
  have hfit : ds.length ≤ cs.size := by
    rw [hdl, ← Array.length_toList, hcl, hxl]; exact Nat.mul_le_mul_right _ (Nat.min_le_right _ _)
  have hone : ∀ u ∈ ds, u.oneCell' = true := hrows.all (fun x c hx => k.one hx)
  have hst := run_storeCells_at C.P b 0 t' ds 0 cs w hc (by simpa using hfit) hone
  simp only [Nat.add_zero, Nat.zero_add] at hst
  have hr : (execOp A.eval o).run C.P w = .ok (.value (.int .i64 (min ys.length n : Nat))) (w.setRow b (cs.toList.take 0 ++ ds ++ cs.toList.drop ds.length).toArray) := by
    rw [run_builtin ho]
    refine run_v ?_
    simp [hex, hey, Builtin.copy_, run_underlying ht.1, Builtin.lenOf, run_sizeOf' ht.2, hds, goInt]
    have hst2 : (storeCells { block := b, off := 0 } ds).run C.P w = .ok () (w.setRow b (ds ++ List.drop ds.length cs.toList).toArray) := by simpa using hst
    rw [hst2]
    rfl
  unfold Oper.wp
  rw [hr]
  have m := MStep.setRow (w := w) hp (cs.toList.take 0 ++ ds ++ cs.toList.drop ds.length).toArray hu
  refine kk _ _ h _ m (fun c hc => (how.1 (blkI b ((kArr n k).fp xs)) mid_mem).2 c hc) (how.turnM m (fun b hb => .inl (Nat.le_trans hsz hb)) ⟨⟨_, t', setRow_heap w b cs _ t' (0, 0) hc, ?_⟩, hu⟩ (fun c hc => .inl hc)) rfl
  refine ⟨?_, ?_⟩
  · rw [List.length_append, List.length_drop, hmin, hxl]; omega
  · simp only [List.take_zero, List.nil_append]
    refine hrows.append ?_
    have := hxr.drop_ hlen (min ys.length n)
    rw [hdl]
    rcases Nat.le_total ys.length n with hle | hle
    · rw [Nat.min_eq_left hle] at this ⊢; exact this
    · rw [Nat.min_eq_right hle] at this ⊢
      rw [List.drop_of_length_le (by omega)] at this ⊢
      exact this
theorem OpMF.copy {b n : Nat} (ho : o.op = .call ⟨.builtin .copy, #[x, y], #[t, t]⟩) (ht : SlT C.P t e k.sz) (hx : Ent (opd Γ x) (Rep.is (sb b n))) (hy : Ent (opd Γ y) ((kSl k).rep ys)) : OpMF C (l1 ++ blkI b ((kArr n k).fp xs) :: l2) (l1 ++ blkI b ((kArr n k).fp (ys.take n ++ xs.drop ys.length)) :: l2) o Γ (Rep.is (.int .i64 (min ys.length n : Nat))) := fun ml => by
  have := OpM.copy (C := C) (l1 := ml ++ l1) (l2 := l2) (xs := xs) ho ht hx hy
  rwa [List.append_assoc, List.append_assoc] at this
/-- A slice held against nil: some answer. -/
theorem op_nilq (ho : o.op = .binOp .eql t x y t') (hy0 : opd Γ y = Rep.is (.slice none 0 0)) (hx : Ent (opd Γ x) ((kSl k).rep xs)) (ht : P.underlying t = some (.slice e)) : OpC P V o Γ (plain (nilq xs)) := OpC.pure fun A w h hp hop => by
  obtain ⟨B, c, he, h1, h2, h3⟩ := sl_form (hx _ _ (hop x (by simp [ho, Op.operands])))
  have hy : A.eval y = .slice none 0 0 := by
    have := hop y (by simp [ho, Op.operands])
    rw [hy0] at this; exact this
  refine ⟨.bool B.isNone, ?_, B.isNone, rfl, fun hq => ?_⟩
  · simp only [execOp, ho]
    rw [he, hy]
    refine run_v ?_
    have h9 := Go.Lib.run_eql_slice_nil (P := P) w t e B xs.length c 0 0 ht
    simp [eqGuard, h9, Sem.run_bind]
  · rcases Nat.eq_zero_or_pos xs.length with h0 | h0
    · exact List.eq_nil_of_length_eq_zero h0
    · obtain ⟨ad, ds, rfl, _⟩ := h3 h0
      cases hq
theorem E.nilq {ex : Exit} {s : Nat} (hs : Ent (Γ s) (Go.Proofs.YtdioiepkbolnlaaGreatDoor.nilq xs)) (kk : ∀ q : Bool, (q = true → xs = []) → E C ex (upd Γ s (Rep.is (.bool q))) l Q) : E C ex Γ l Q := fun a w h ss => by
  obtain ⟨q, hv, hq⟩ := hs _ _ (ss.sat s)
  exact kk q hq a w h (ss.upd hv)
/-- An empty slice literal: a row. -/
theorem op_slit0 (ho : o.op = .buildSlice t 0 #[]) (ht : SlT P t e k.sz) : OpC P V o Γ ⟨(kSl k).rep [], true, rowOf k e []⟩ := by
  intro A w h hp _ hop K Q kk
  unfold Oper.wp
  rw [show (execOp A.eval o).run P w = .ok (.value (.slice (some ⟨w.heap.size, 0, none⟩) 0 0)) (w.alloc (.cells #[] e)) from by
    simp only [execOp, ho]
    refine run_v ?_
    simp [Instr.buildSlice, run_underlying ht.1, run_sizeOf' ht.2, Sem.run_bind, Instr.fill, newRow]
    rw [Array.range_zero', Array.map_empty]]
  have hrow : (rowI (.slice (some ⟨w.heap.size, 0, none⟩) 0 0) k e []).p (w.alloc (.cells #[] e)) h :=
    .inr ⟨w.heap.size, 0, #[], [], rfl, heap_alloc_new w _, by simp, by simp only [maxLen]; omega, by simp, .nil, by simp, fun j u hu => by simp at hu, fun a u ha hu => by have := hp.lt hu; omega⟩
  refine kk _ _ h (Step.alloc hp _) (row_reads hrow) ((Owns.nil _ _ _).cons hrow (fun b hb => ?_) (fun J hJ => by cases hJ))
  have : w.heap.size = b := Option.some.inj hb
  rw [← this]; exact Nat.le_refl _
end
end Go.Proofs.YtdioiepkbolnlaaGreatDoor
