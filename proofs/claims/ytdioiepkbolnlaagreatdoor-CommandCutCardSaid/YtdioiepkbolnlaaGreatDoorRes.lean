/- Appends and calls in what is left of a region; results. Nothing of the program is in it. -/
import Derived.Test.YtdioiepkbolnlaaGreatDoorRow
set_option linter.unusedSimpArgs false
set_option linter.unusedVariables false
namespace Go.Proofs.YtdioiepkbolnlaaGreatDoor
open Go.RowKit
section
variable {C : Cx} {Γ : Nat → Rep} {l : List OI} {o : Oper} {V : World → PH → Prop} {P : Program} {t e : TypeId} {x y : Operand} {ops : Array Oper} {i : Nat} {is : List Nat} {Q : Exit → Act → World → Prop} {α : Type} {k : Kind α} {xs ys : List α}
/-- The nil slice is a row. -/
theorem row0 {lo : Nat → Prop} {w : World} {h : PH} (k : Kind α) (e : TypeId) (ow : Owns lo l w h) : Owns lo (rowI (.slice none 0 0) k e ([] : List α) :: l) w h :=
  ow.cons (rowI_nil k e w h) (fun b hb => by cases hb) (fun J _ b hb _ => by cases hb)
theorem J.row0 {c : Code} (k : Kind α) (e : TypeId) (hk : J C Γ (rowI (.slice none 0 0) k e ([] : List α) :: l) c Q) : J C Γ l c Q := fun a w h s => hk a w h (s.own' (Go.Proofs.YtdioiepkbolnlaaGreatDoor.row0 k e s.own))
theorem JO.row0 (k : Kind α) (e : TypeId) (hk : JO C ops is Γ (rowI (.slice none 0 0) k e ([] : List α) :: l) Q) : JO C ops is Γ l Q := fun a w h s => hk a w h (s.own' (Go.Proofs.YtdioiepkbolnlaaGreatDoor.row0 k e s.own))
/-- 'append' to the first of what is owned. -/
theorem JO.append {v z : Value} {d bytes : Nat} (hi : ops[i]? = some o) (hg : o.guard = none) (hd : o.dst = some d) (hdn : d < C.n) (ho : o.op = .call ⟨.builtin .append, #[x, y], #[t, t]⟩) (hx : Ent (opd Γ x) (Rep.is v)) (hy : Ent (opd Γ y) ((kSl k).rep ys))
    (ht : C.P.underlying t = some (.slice e)) (hinf : (C.P.info? e).map (fun i => (i.zero, i.size, i.bytes)) = some (some z, k.sz, bytes)) (hzs : z.cells.size = k.sz) (hsz : 0 < k.sz) (h63 : xs.length + ys.length ≤ 9223372036854775807) (hbytes : (xs.length + ys.length) * bytes ≤ 140737488355328)
    (hk : ∀ v', JO C ops is (upd Γ d (rv v' k (xs ++ ys))) (rowI v' k e (xs ++ ys) :: l) Q) : JO C ops (i :: is) Γ (rowI v k e xs :: l) Q := fun a w h s => by
  rw [wpOps_cons]
  unfold wpOp
  have hw : Region.wanted o (yielded ops a.tmps) = true := by simp [Region.wanted, hg]
  simp only [hi, hw, if_true]
  left
  have hex : a.eval x = _ := hx _ _ (s.sat.opd x)
  have hey := hy _ _ (s.sat.opd y)
  have hrow := (s.own.1 _ List.mem_cons_self).1
  obtain ⟨v', w', h', hr, m, hp', hB⟩ := run_append_row (P := C.P) t o.type e z bytes ht hinf hzs hsz s.step.pub hrow hey h63 hbytes
  have hrun : (execOp a.eval o).run C.P w = .ok (.value v') w' := (run_builtin ho w).trans (run_v (by simpa [hex] using hr))
  unfold Oper.wp
  rw [hrun]
  refine hk v' _ _ h' ?_
  rw [hd]
  exact s.put hdn (s.step.then_ m (fun b hb => (s.own.1 _ List.mem_cons_self).2 b hb)) m.le ⟨rfl, row_reads hp'⟩ (s.own.turn m (fun b hb => .inl (Nat.le_trans s.step.size hb)) hp' hB)
/-- A call whose result is the caller's to turn. -/
theorem op_callO {f : FuncId} {args : Array Operand} {ts : Array TypeId} {Rs : List Rep} {R : Rep} {I : Value → List OI} (ho : o.op = .call ⟨.value (.func f), args, ts⟩) (en : Enters P f) (ha : EntsO Γ args.toList Rs) (hc : CtO P f Rs R I) : OpC P V o Γ ⟨R, true, I⟩ := by
  intro A w h hp _ hop K Q k
  have hargs := EntsO.all args.toList Rs ha (fun x hx => hop x (by simp only [ho, Op.operands, Call.operands]; simp at hx; simp [hx]))
  unfold Oper.wp
  rw [run_callf (caps := []) ho rfl en w, List.append_nil]
  refine Calls.mono (hc w h _ hp hargs (Owns.nil _ _ _)) ?_
  rintro e w' ⟨v, h', rfl, hs, hR, how⟩
  have h9 : Owns (fun b => w.heap.size ≤ b) (I v) w' h' := by simpa [Blocks.nil] using how
  exact k v w' h' (hs.toStep Blocks.nil) hR h9
theorem JO.new {d : Nat} {R : Rep} {I : Value → List OI} (hi : ops[i]? = some o) (hg : o.guard = none) (hd : o.dst = some d) (hdn : d < C.n) (hop : OpC C.P (Vo C l) o Γ ⟨R, true, I⟩) (k : ∀ v, JO C ops is (upd Γ d ⟨fun h u => u = v ∧ R.p h v, fun l e => ⟨e.1, R.mono l e.2⟩⟩) (I v ++ l) Q) : JO C ops (i :: is) Γ l Q := fun a w h s => by
  rw [wpOps_cons]
  unfold wpOp
  have hw : Region.wanted o (yielded ops a.tmps) = true := by simp [Region.wanted, hg]
  simp only [hi, hw, if_true]
  refine .inl (hop a w h s.step.pub s.own (fun x _ => s.sat.opd x) _ _ fun v w' h' st hR how => ?_)
  refine k v _ _ h' ?_
  rw [hd]
  exact s.put hdn (s.step.step_ st) st.le ⟨rfl, hR⟩ ((s.own.step st).app how (fun b hb => .inl (Nat.le_trans s.step.size hb)) (fun I hI b hb => I.lt (s.own.1 I hI).1 b hb))
def rowOf (k : Kind α) (e : TypeId) (xs : List α) : Value → List OI := fun v => [rowI v k e xs]
/-- A row is handed back. -/
theorem E.ret1O {fn : Func} {v : Value} {r : Nat} (hr : fn.results = #[.tmp r]) (hR : Ent (Γ r) (Rep.is v)) (hx : Left C l := by first | exact List.nil_sublist _ | exact List.Sublist.refl _ | (repeat (first | exact List.Sublist.refl _ | exact List.nil_sublist _ | apply List.Sublist.cons_cons | apply List.Sublist.cons))) : E C .ret Γ (rowI v k e xs :: l) (bodyPost C.P fn (Post C.w0 C.h0 C.X0 C.X1 ((kSl k).rep xs) (rowOf k e xs))) := fun a w h s => by
  have hv : tv a r = v := hR _ _ (s.sat r)
  have hrow := s.own.1 _ List.mem_cons_self
  have hv' : a.tmps[r]?.getD undef = v := by rw [← Array.getD_eq_getD_getElem?]; exact hv
  exact ⟨s.defers, v, by simp [results, hr, hv'], v, h, rfl, s.step, row_reads hrow.1, s.own.sub (hx.cons_cons _)⟩
/-- A result that lies in a block. -/
theorem res_blk {f : FP} {b : Nat} {d : TypeDesc} {lo : Nat → Prop} {w : World} {h : PH} (ow : Owns lo l w h) (hm : blkI b f ∈ l) (ht : P.underlying t = some d) (hd : aggD d = f.agg) (hs : (P.info? t).map (·.size) = some f.n) : ∃ v, (loadVar t ⟨b, 0, none⟩).run P w = .ok v w ∧ f.V h v := by
  obtain ⟨cs, t', hc, hk⟩ := blk_cells (ow.1 _ hm).1
  have hcell : ∀ j u, cs.toList[j]? = some u → w.cell? ((⟨b, 0, none⟩ : Addr).add j) = some u := by
    intro j u hu
    rw [Addr.add_lit, cell_of_row w b (0 + j) cs t' (0, 0) hc, Nat.zero_add]
    simpa using hu
  have hl := f.len hk
  cases ha : f.agg with
  | true =>
    refine ⟨.agg cs, ?_, .inl ⟨ha, cs, rfl, hk⟩⟩
    have h3 := run_loadCells_list (P := P) w ⟨b, 0, none⟩ cs.toList hcell
    rw [hl] at h3
    simp [loadVar, Sem.run_bind, run_isAgg ht, hd, ha, run_sizeOf' hs, h3]
  | false =>
    rw [f.flat ha] at hl
    match hcs : cs.toList, hl with
    | [v], _ =>
      refine ⟨v, ?_, .inr ⟨ha, by rw [← hcs]; exact hk⟩⟩
      have := hcell 0 v (by rw [hcs]; rfl)
      rw [Addr.add_zero'] at this
      simp [loadVar, Sem.run_bind, run_isAgg ht, hd, ha, this]
theorem E.retC {fn : Func} {f : FP} {b s : Nat} {d : TypeDesc} (hr : fn.results = #[.cell s t]) (hR : Ent (Γ s) (Rep.is (pb b 0))) (hm : blkI b f ∈ l) (ht : C.P.underlying t = some d) (hd : aggD d = f.agg) (hs : (C.P.info? t).map (·.size) = some f.n) (hx : Left C l := by first | exact List.nil_sublist _ | exact List.Sublist.refl _ | (repeat (first | exact List.Sublist.refl _ | exact List.nil_sublist _ | apply List.Sublist.cons_cons | apply List.Sublist.cons))) : E C .ret Γ l (bodyPost C.P fn (Post C.w0 C.h0 C.X0 C.X1 f.rep noI)) := fun a w h ss => by
  have hv : tv a s = pb b 0 := hR _ _ (ss.sat s)
  obtain ⟨v, hl, hV⟩ := res_blk ss.own hm ht hd hs
  refine ⟨ss.defers, v, ?_, v, h, rfl, ss.step, hV, ss.left hx⟩
  have this : a.tmps[s]?.getD undef = pb b 0 := by rw [← Array.getD_eq_getD_getElem?]; exact hv
  simp [results, hr, this, asAddr, hl]
theorem E.retC1 {fn : Func} {f : FP} {R : Rep} {b s r : Nat} {d : TypeDesc} (hr : fn.results = #[.cell s t, .tmp r]) (hR : Ent (Γ s) (Rep.is (pb b 0))) (hr1 : Ent (Γ r) R) (hm : blkI b f ∈ l) (ht : C.P.underlying t = some d) (hd : aggD d = f.agg) (hs : (C.P.info? t).map (·.size) = some f.n) (hx : Left C l := by first | exact List.nil_sublist _ | exact List.Sublist.refl _ | (repeat (first | exact List.Sublist.refl _ | exact List.nil_sublist _ | apply List.Sublist.cons_cons | apply List.Sublist.cons))) : E C .ret Γ l (bodyPost C.P fn (Post C.w0 C.h0 C.X0 C.X1 (tup [f.rep, R]) noI)) := fun a w h ss => by
  have hv : tv a s = pb b 0 := hR _ _ (ss.sat s)
  obtain ⟨v, hl, hV⟩ := res_blk ss.own hm ht hd hs
  refine ⟨ss.defers, .tuple #[v, tv a r], ?_, _, h, rfl, ss.step, ⟨[v, tv a r], rfl, .cons hV (.cons (hr1 _ _ (ss.sat r)) .nil)⟩, ss.left hx⟩
  have this : a.tmps[s]?.getD undef = pb b 0 := by rw [← Array.getD_eq_getD_getElem?]; exact hv
  simp [results, hr, this, asAddr, hl, tv]
end
end Go.Proofs.YtdioiepkbolnlaaGreatDoor
