/- What the call owns: blocks that are not published, rows that are appended to. Nothing of the program is in it. -/
import Derived.Test.YtdioiepkbolnlaaGreatDoorFn
set_option linter.unusedSimpArgs false
set_option linter.unusedVariables false
namespace Go.Proofs.YtdioiepkbolnlaaGreatDoor
open Go.RowKit

/-- A block whose cells nobody else sees. -/
def blkI (b : Nat) (f : FP) : OI where
  B := fun c => c = b
  p := fun w h => (∃ cs t, w.heap[b]? = some (.cells cs t (0, 0)) ∧ f.K h cs.toList) ∧ ∀ a v, a.block = b → h a = some v → False
  fr := by
    rintro w w' h h' ⟨⟨cs, t, hc, hk⟩, hu⟩ hs hb hl hn
    exact ⟨⟨cs, t, (hb b rfl).trans hc, f.mono hl hk⟩, fun a v ha e => hu a v ha (hn a v ha e)⟩
  lt := by
    rintro w h ⟨⟨cs, t, hc, _⟩, _⟩ c rfl
    exact (Array.getElem?_eq_some_iff.1 hc).1
abbrev pb (b o : Nat) : Value := .pointer (some ⟨b, o, none⟩)
theorem blk_cells {b : Nat} {f : FP} {w : World} {h : PH} (e : (blkI b f).p w h) : ∃ cs t, w.heap[b]? = some (.cells cs t (0, 0)) ∧ f.K h cs.toList := e.1
/-- Part of a kind: at an offset another kind. -/
def Part (f : FP) (o : Nat) (g : FP) : Prop := ∀ h cs, f.K h cs → ∃ c1 c c2, cs = c1 ++ (c ++ c2) ∧ c1.length = o ∧ g.K h c
/-- The part at an offset is changed. -/
def Turn (f : FP) (o : Nat) (g : FP) (f' : FP) : Prop := ∀ h cs, f.K h cs → o + g.n ≤ cs.length ∧ ∀ c, g.K h c → f'.K h (cs.take o ++ c ++ cs.drop (o + g.n))
theorem Part.all (f : FP) : Part f 0 f := fun h cs hk => ⟨[], cs, [], by simp, rfl, hk⟩
theorem Part.field {f g : FP} {l : List FP} {i : Nat} (hl : ∀ h cs, f.K h cs → RowF h l cs) (hi : l[i]? = some g) : Part f (fsum (l.take i)) g := fun h cs hk => by
  obtain ⟨c, c1, c2, e, h1, h2, _, _⟩ := (hl h cs hk).split i g hi
  exact ⟨c1, c, c2, e, h1, h2⟩
theorem Part.trans {f g k : FP} {o o' : Nat} (a : Part f o g) (b : Part g o' k) : Part f (o + o') k := fun h cs hk => by
  obtain ⟨c1, c, c2, rfl, h1, h2⟩ := a h cs hk
  obtain ⟨d1, d, d2, rfl, h3, h4⟩ := b h c h2
  exact ⟨c1 ++ d1, d, d2 ++ c2, by simp, by simp [h1, h3], h4⟩
theorem Turn.all (f f' : FP) (hn : f'.n = f.n) : Turn f 0 f' f' := fun h cs hk => ⟨by rw [f.len hk, hn]; omega, fun c hc => by
  rw [List.drop_of_length_le (by rw [f.len hk, hn]; omega)]; simpa using hc⟩
theorem RowF.append {h : PH} {l m : List FP} {cs ds : List Value} (e : RowF h l cs) (e' : RowF h m ds) : RowF h (l ++ m) (cs ++ ds) := by
  induction e with
  | nil => exact e'
  | @cons f l c cs hx _ ih => rw [List.cons_append, List.append_assoc]; exact .cons hx ih
theorem Turn.field {f f' g g' : FP} {l l' : List FP} {i : Nat} (hl : ∀ h cs, f.K h cs → RowF h l cs) (hi : l[i]? = some g) (hn : g'.n = g.n) (hl' : l' = l.set i g') (hl2 : ∀ h cs, RowF h l' cs → f'.K h cs) : Turn f (fsum (l.take i)) g' f' := fun h cs hk => by
  obtain ⟨c, c1, c2, rfl, h1, h2, h3, h4⟩ := (hl h cs hk).split i g hi
  have hlt := (List.getElem?_eq_some_iff.1 hi).1
  have h5 := g.len h2
  refine ⟨by simp [h1, h5, hn], fun d hd => hl2 _ _ ?_⟩
  rw [hl', List.take_left' h1, ← List.append_assoc c1 c c2, List.drop_left' (by simp [h1, h5, hn]), List.set_eq_take_append_cons_drop, if_pos hlt, List.append_assoc]
  exact h3.append (.cons hd h4)
theorem Turn.trans {f f' g g' k : FP} {o o' : Nat} (p : Part f o g) (a : Turn f o g' f') (b : Turn g o' k g') : Turn f (o + o') k f' := fun h cs hk => by
  obtain ⟨c1, c, c2, rfl, h1, h2⟩ := p h cs hk
  obtain ⟨h3, h4⟩ := b h c h2
  obtain ⟨h5, h6⟩ := a h _ hk
  refine ⟨by simp only [List.length_append] at *; omega, fun d hd => ?_⟩
  have h7 := h6 _ (h4 d hd)
  have hgn : g'.n = c.length := by
    have := g'.len (h4 d hd)
    simp only [List.length_append, List.length_take, List.length_drop] at this
    have := k.len hd
    omega
  rw [List.take_left' h1, ← List.append_assoc c1 c c2, List.drop_left' (by simp [h1, hgn])] at h7
  have e1 : (c1 ++ (c ++ c2)).take (o + o') = c1 ++ c.take o' := by
    rw [List.take_append, List.take_of_length_le (by omega), h1, Nat.add_sub_cancel_left, List.take_append, Nat.sub_eq_zero_of_le (by omega)]; simp
  have e2 : (c1 ++ (c ++ c2)).drop (o + o' + k.n) = c.drop (o' + k.n) ++ c2 := by
    rw [List.drop_append, List.drop_of_length_le (by omega), h1, Nat.add_assoc, Nat.add_sub_cancel_left, List.drop_append, Nat.sub_eq_zero_of_le (by omega)]; simp
  rw [e1, e2]
  simpa [List.append_assoc] using h7
section
variable {C : Cx} {Γ : Nat → Rep} {l : List OI} {o : Oper} {V : World → PH → Prop} {P : Program} {t : TypeId} {x y : Operand}
/-- The address of a field of a block's. -/
theorem op_fieldP {fs : Array Field} {fd : Field} {i n b q : Nat} (ho : o.op = .fieldAddr t x i) (hx : Ent (opd Γ x) (Rep.is (pb b q))) (ht : P.underlying t = some (.struct fs)) (hf : fs[i]? = some fd) (hs : (P.info? fd.type).map (·.size) = some (n + 1)) : OpC P V o Γ (plain (Rep.is (pb b (q + fd.offset)))) := OpC.pure fun A w h hp hop => by
  have he : A.eval x = _ := hx _ _ (hop x (by simp [ho, Op.operands]))
  refine ⟨_, ?_, rfl⟩
  simp only [execOp, ho]
  rw [he]
  refine run_v ?_
  rw [run_fieldAt ht hf hs, Addr.add_lit]
/-- A block's part is read. -/
theorem op_loadB {f g : FP} {d : TypeDesc} {b q : Nat} (ho : o.op = .load t x) (hx : Ent (opd Γ x) (Rep.is (pb b q))) (hm : blkI b f ∈ l) (hp : Part f q g) (ht : P.underlying t = some d) (hd : aggD d = g.agg) (hs : (P.info? t).map (·.size) = some g.n) : OpC P (Vo C l) o Γ (plain g.rep) := by
  intro A w h hpub hv hop K Q k
  have he : A.eval x = _ := hx _ _ (hop x (by simp [ho, Op.operands]))
  obtain ⟨cs, t', hc, hk⟩ := blk_cells (hv.1 _ hm).1
  obtain ⟨c1, c, c2, e, h1, h2⟩ := hp h _ hk
  have hcell : ∀ j u, c[j]? = some u → w.cell? ((⟨b, q, none⟩ : Addr).add j) = some u := by
    intro j u hu
    rw [Addr.add_lit, cell_of_row w b (q + j) cs t' (0, 0) hc, ← Array.getElem?_toList, e, ← h1]
    rw [List.getElem?_append_right (by omega), Nat.add_sub_cancel_left, List.getElem?_append_left (List.getElem?_eq_some_iff.1 hu).1]
    exact hu
  have : ∃ v, (loadVar t ⟨b, q, none⟩).run P w = .ok v w ∧ g.V h v := by
    have hl := g.len h2
    cases ha : g.agg with
    | true =>
      refine ⟨.agg c.toArray, ?_, .inl ⟨ha, c.toArray, rfl, by simpa using h2⟩⟩
      have h3 := run_loadCells_list (P := P) w ⟨b, q, none⟩ c hcell
      simp [loadVar, Sem.run_bind, run_isAgg ht, hd, ha, run_sizeOf' hs, ← hl, h3]
    | false =>
      rw [g.flat ha] at hl
      match c, hl with
      | [v], _ =>
        refine ⟨v, ?_, .inr ⟨ha, h2⟩⟩
        have := hcell 0 v rfl
        rw [Addr.add_zero'] at this
        simp [loadVar, Sem.run_bind, run_isAgg ht, hd, ha, this]
  obtain ⟨v, hr, hV⟩ := this
  unfold Oper.wp
  rw [show (execOp A.eval o).run P w = .ok (.value v) w from by
    simp only [execOp, ho]
    rw [he]
    exact run_v (by simp [Instr.loadAt, Instr.sureAddr, hr])]
  exact k v w h (Step.refl hpub) hV (Owns.nil _ _ _)
theorem blk_new {b : Nat} {f : FP} {w : World} {h : PH} (hp : Pub h w) (cs : Array Value) (t : TypeId) (hb : b = w.heap.size) (hk : f.K h cs.toList) : Owns (w.heap.size ≤ ·) [blkI b f] (w.alloc (.cells cs t)) h := by
  subst hb
  refine (Owns.nil _ _ _).cons ⟨⟨cs, t, heap_alloc_new w _, hk⟩, fun a v ha e => by have := hp.lt e; omega⟩ (fun b hb => ?_) (fun J hJ => by cases hJ)
  rw [show b = _ from hb]; exact Nat.le_refl _
theorem Step.alloc {w : World} {h : PH} (hp : Pub h w) (o : Obj) : Step w h (w.alloc o) h := Step.same hp ((Below.refl _ _).alloc (Nat.le_refl _) o)
def blkOf (f : FP) : Value → List OI
  | .pointer (some a) => [blkI a.block f]
  | _ => []
def isPb : Rep := ⟨fun _ v => ∃ b, v = pb b 0, fun _ e => e⟩
/-- A variable of zeros, that is written. -/
theorem op_alloc {f : FP} {z : Value} (ho : o.op = .alloc t) (hz : ∀ w, (zeroValue t).run P w = .ok z w) (hk : ∀ h, f.K h z.cells.toList) : OpC P V o Γ ⟨isPb, true, blkOf f⟩ := by
  intro A w h hpub _ hop K Q k
  unfold Oper.wp
  rw [show (execOp A.eval o).run P w = .ok (.value (pb w.heap.size 0)) (w.alloc (.cells z.cells t)) from by
    simp only [execOp, ho]
    exact run_v (by simp [Instr.alloc, hz, newVar, newRow])]
  exact k _ _ h (Step.alloc hpub _) ⟨_, rfl⟩ (blk_new hpub _ _ rfl (hk h))
/-- .. of a value. -/
theorem op_boxB {f : FP} (ho : o.op = .box t x) (hx : Ent (opd Γ x) f.rep) : OpC P V o Γ ⟨isPb, true, blkOf f⟩ := by
  intro A w h hpub _ hop K Q k
  have h1 : f.V h (A.eval x) := hx _ _ (hop x (by simp [ho, Op.operands]))
  unfold Oper.wp
  rw [show (execOp A.eval o).run P w = .ok (.value (pb w.heap.size 0)) (w.alloc (.cells (A.eval x).cells t)) from by
    simp only [execOp, ho]
    exact run_v (by simp [Instr.box, newVar, newRow])]
  exact k _ _ h (Step.alloc hpub _) ⟨_, rfl⟩ (blk_new hpub _ _ rfl h1.cells)

/-! #### what is left of a region -/
theorem SS.put {Γ : Nat → Rep} {l l' : List OI} {a : Act} {w w' : World} {h h' : PH} {d : Nat} {R : Rep} {v : Value} (s : SS C Γ l a w h) (hd : d < C.n) (st : MStep C.B C.w0 C.h0 w' h') (le : PLe h h') (hR : R.p h' v) (ow : Owns C.lo l' w' h') : SS C (upd Γ d R) l' (a.put (some d) v) w' h' :=
  ⟨(size_put _ _ _).trans s.size, (defers_put _ _ _).trans s.defers, st, fun t => by
    unfold upd
    rw [tv_put a d t v (by rw [s.size]; exact hd)]
    split
    · exact hR
    · exact (Γ t).mono le (s.sat t), ow⟩
variable {ops : Array Oper} {i : Nat} {is : List Nat} {Q : Exit → Act → World → Prop}
theorem JO.plain {d : Nat} {R : Rep} (hi : ops[i]? = some o) (hg : o.guard = none) (hd : o.dst = some d) (hdn : d < C.n) (hop : OpC C.P (Vo C l) o Γ (Go.Proofs.YtdioiepkbolnlaaGreatDoor.plain R)) (k : JO C ops is (upd Γ d R) l Q) : JO C ops (i :: is) Γ l Q := fun a w h s => by
  rw [wpOps_cons]
  unfold wpOp
  have hw : Region.wanted o (yielded ops a.tmps) = true := by simp [Region.wanted, hg]
  simp only [hi, hw, if_true]
  refine .inl (hop a w h s.step.pub s.own (fun x _ => s.sat.opd x) _ _ fun v w' h' st hR _ => k _ _ h' ?_)
  rw [hd]
  exact s.put hdn (s.step.step_ st) st.le hR (s.own.step st)
theorem JO.newB {d : Nat} {f : FP} (hi : ops[i]? = some o) (hg : o.guard = none) (hd : o.dst = some d) (hdn : d < C.n) (hop : OpC C.P (Vo C l) o Γ ⟨isPb, true, blkOf f⟩) (k : ∀ b, JO C ops is (upd Γ d (Rep.is (pb b 0))) (blkI b f :: l) Q) : JO C ops (i :: is) Γ l Q := fun a w h s => by
  rw [wpOps_cons]
  unfold wpOp
  have hw : Region.wanted o (yielded ops a.tmps) = true := by simp [Region.wanted, hg]
  simp only [hi, hw, if_true]
  refine .inl (hop a w h s.step.pub s.own (fun x _ => s.sat.opd x) _ _ fun v w' h' st hR how => ?_)
  obtain ⟨b, rfl⟩ := hR
  refine k b _ _ h' ?_
  rw [hd]
  exact s.put hdn (s.step.step_ st) st.le rfl ((s.own.step st).app how (fun b hb => .inl (Nat.le_trans s.step.size hb)) (fun I hI b hb => I.lt (s.own.1 I hI).1 b hb))
theorem JO.front {l1 l2 : List OI} {I : OI} (k : JO C ops is Γ (I :: (l1 ++ l2)) Q) : JO C ops is Γ (l1 ++ I :: l2) Q := fun a w h s => k a w h (s.own' (s.own.perm List.perm_middle))
theorem J.front {l1 l2 : List OI} {I : OI} {c : Code} (k : J C Γ (I :: (l1 ++ l2)) c Q) : J C Γ (l1 ++ I :: l2) c Q := fun a w h s => k a w h (s.own' (s.own.perm List.perm_middle))
theorem J.drop {l' : List OI} {c : Code} (hs : List.Sublist l' l) (k : J C Γ l' c Q) : J C Γ l c Q := fun a w h s => k a w h (s.own' (s.own.sub hs))
theorem E.drop {l' : List OI} {e : Exit} (hs : List.Sublist l' l) (k : E C e Γ l' Q) : E C e Γ l Q := fun a w h s => k a w h (s.own' (s.own.sub hs))
theorem MStep.setRow {w : World} {h : PH} {b : Nat} (hp : Pub h w) (cs : Array Value) (hu : ∀ a v, a.block = b → h a = some v → False) : MStep (fun c => c = b) w h (w.setRow b cs) h :=
  ⟨rfl, rfl, rfl, by simp, fun k _ hk => setRow_other w b k cs hk, PLe.refl h, fun _ _ _ _ e => e, ⟨fun a v e => by
    rw [World.cell?_of_block (w := w)]
    · exact hp a v e
    · exact setRow_other w b a.block cs (fun hb => hu a v hb e), hp.tab⟩⟩
/-- A store into a block. -/
theorem JO.store {f f' g : FP} {b q : Nat} (hi : ops[i]? = some o) (hg : o.guard = none) (hdst : o.dst = none) (ho : o.op = .store t x y) (hx : Ent (opd Γ x) (Rep.is (pb b q))) (hy : Ent (opd Γ y) g.rep) (hs : (C.P.info? t).map (·.size) = some g.n) (ht : Turn f q g f') (k : JO C ops is Γ (blkI b f' :: l) Q) : JO C ops (i :: is) Γ (blkI b f :: l) Q := fun a w h s => by
  rw [wpOps_cons]
  unfold wpOp
  have hw : Region.wanted o (yielded ops a.tmps) = true := by simp [Region.wanted, hg]
  simp only [hi, hw, if_true]
  left
  have hex : a.eval x = _ := hx _ _ (s.sat.opd x)
  have hey : g.V h (a.eval y) := hy _ _ (s.sat.opd y)
  have hv := hey.cells
  obtain ⟨⟨cs, t', hc, hk⟩, hu⟩ := (s.own.1 (blkI b f) List.mem_cons_self).1
  obtain ⟨h1, h2⟩ := ht h _ hk
  have hlen := g.len hv
  have hst := run_storeCells_at C.P b q t' (a.eval y).cells.toList 0 cs w hc (by rw [hlen]; simpa using h1) (fun u hu => g.one hv u hu)
  have hr : (execOp a.eval o).run C.P w = .ok .skip (w.setRow b (cs.toList.take q ++ (a.eval y).cells.toList ++ cs.toList.drop (q + g.n)).toArray) := by
    simp only [execOp, ho]
    rw [hex]
    simp only [Nat.add_zero, hlen] at hst
    have hsz : (a.eval y).cells.size = g.n := by rw [← hlen]; simp
    simp [Instr.storeAt, Instr.sureAddr, storeVar, run_sizeOf' hs, hsz, hst]
  unfold Oper.wp
  rw [hr]
  have m := MStep.setRow (w := w) s.step.pub (cs.toList.take q ++ (a.eval y).cells.toList ++ cs.toList.drop (q + g.n)).toArray hu
  refine k _ _ h ?_
  rw [hdst]
  refine ⟨s.size, s.defers, s.step.then_ m (fun c hc => (s.own.1 (blkI b f) List.mem_cons_self).2 c hc), s.sat, ?_⟩
  refine s.own.turn m (fun b hb => .inl (Nat.le_trans s.step.size hb)) ⟨⟨_, t', setRow_heap w b cs _ t' (0, 0) hc, ?_⟩, hu⟩ (fun c hc => .inl hc)
  simpa using h2 _ hv
end
end Go.Proofs.YtdioiepkbolnlaaGreatDoor
