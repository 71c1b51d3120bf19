/- More rules: operations that turn what is owned, made slices, blocks of arrays, publishing, shifts, strings. Nothing of the program is in it. -/
import Derived.Test.YtdioiepkbolnlaaGreatDoorM
import Derived.Test.YtdioiepkbolnlaaGreatDoorG
import Derived.Laws.MakeOwn
import Derived.Laws.IdiomStrings
import Derived.Deep.AppendSrc
set_option linter.unusedSimpArgs false
set_option linter.unusedVariables false
namespace Go.Proofs.YtdioiepkbolnlaaGreatDoor
open Go.RowKit
section
variable {P : Program} {V : World → PH → Prop} {C : Cx} {Γ : Nat → Rep} {l l1 l2 l' : List OI} {o : Oper} {t t' e : TypeId} {x y : Operand} {Q : Exit → Act → World → Prop} {ops : Array Oper} {i : Nat} {is : List Nat} {α : Type} {k : Kind α} {xs ys : List α}
theorem op_nilB {b q : Nat} (ho : o.op = .nilCheck x) (hx : Ent (opd Γ x) (Rep.is (pb b q))) : OpC P V o Γ (plain (Rep.is (pb b q))) := OpC.pure fun A w h hp hop => ⟨_, by
  have he : A.eval x = _ := hx _ _ (hop x (by simp [ho, Op.operands]))
  simp only [execOp, ho]; rw [he]; rfl, rfl⟩
theorem op_nilP {f : FP} (ho : o.op = .nilCheck x) (hx : Ent (opd Γ x) (ptr f)) : OpC P V o Γ (plain (ptr f)) := OpC.pure fun A w h hp hop => by
  obtain ⟨ad, cs, he, hsp, hk, hat⟩ := hx _ _ (hop x (by simp [ho, Op.operands]))
  refine ⟨.pointer (some ad), ?_, ad, cs, rfl, hsp, hk, hat⟩
  simp only [execOp, ho]; rw [he]; rfl

/-! #### operations that turn what is owned -/
theorem OpM.ofC {R : Rep} (hop : OpC C.P (Vo C l) o Γ (plain R)) : OpM C l l o Γ R := fun a w h hp hs how hx K Q k =>
  hop a w h hp how hx K Q fun v w' h' st hR _ => k v w' h' (fun _ => False) (st.m _) (fun _ e => e.elim) (how.step st) hR
theorem Owns.turnM {lo : Nat → Prop} {I I' : OI} {w w' : World} {h h' : PH} (o : Owns lo (l1 ++ I :: l2) w h) (m : MStep I.B w h w' h') (hlo : ∀ b, w.heap.size ≤ b → lo b) (hp : I'.p w' h') (hB : ∀ b, I'.B b → I.B b ∨ w.heap.size ≤ b) : Owns lo (l1 ++ I' :: l2) w' h' :=
  ((o.perm List.perm_middle).turn m hlo hp hB).perm List.perm_middle.symm
theorem mid_mem {I : OI} : I ∈ l1 ++ I :: l2 := List.mem_append_right _ List.mem_cons_self
theorem OpM.store {f f' g : FP} {b q : Nat} (ho : o.op = .store t x y) (hx : Ent (opd Γ x) (Rep.is (pb b q))) (hy : Ent (opd Γ y) g.rep) (hs : (C.P.info? t).map (·.size) = some g.n) (ht : Turn f q g f') : OpM C (l1 ++ blkI b f :: l2) (l1 ++ blkI b f' :: l2) o Γ Rep.any := by
  intro A w h hp hsz how hop K Q k
  have hex : A.eval x = _ := hx _ _ (hop x (by simp [ho, Op.operands]))
  have hey : g.V h (A.eval y) := hy _ _ (hop y (by simp [ho, Op.operands]))
  have hv := hey.cells
  obtain ⟨⟨cs, t', hc, hk⟩, hu⟩ := (how.1 (blkI b f) mid_mem).1
  obtain ⟨h1, h2⟩ := ht h _ hk
  have hlen := g.len hv
  have hst := run_storeCells_at C.P b q t' (A.eval y).cells.toList 0 cs w hc (by rw [hlen]; simpa using h1) (fun u hu => g.one hv u hu)
  have hr : (execOp A.eval o).run C.P w = .ok .skip (w.setRow b (cs.toList.take q ++ (A.eval y).cells.toList ++ cs.toList.drop (q + g.n)).toArray) := by
    simp only [execOp, ho]
    rw [hex]
    simp only [Nat.add_zero, hlen] at hst
    have hsz : (A.eval y).cells.size = g.n := by rw [← hlen]; simp
    simp [Instr.storeAt, Instr.sureAddr, storeVar, run_sizeOf' hs, hsz, hst]
  unfold Oper.wp
  rw [hr]
  have m := MStep.setRow (w := w) hp (cs.toList.take q ++ (A.eval y).cells.toList ++ cs.toList.drop (q + g.n)).toArray hu
  exact k _ _ h _ m (fun c hc => (how.1 (blkI b f) mid_mem).2 c hc) (how.turnM m (fun b hb => .inl (Nat.le_trans hsz hb)) ⟨⟨_, t', setRow_heap w b cs _ t' (0, 0) hc, by simpa using h2 _ hv⟩, hu⟩ (fun c hc => .inl hc)) trivial
theorem Blocks.one (I : OI) : Blocks [I] = I.B := funext fun b => propext ⟨fun ⟨J, hJ, hb⟩ => by rw [List.mem_singleton.1 hJ] at hb; exact hb, fun hb => ⟨I, List.mem_cons_self, hb⟩⟩
theorem OpM.callg {I I' : OI} {f : FuncId} {g : Operand} {args : Array Operand} {ts : Array TypeId} {Rs Cs : List Rep} {R : Rep} (ho : o.op = .call ⟨.value g, args, ts⟩) (en : Enters C.P f) (hc : CtM C.P f (Rs ++ Cs) [I] [I'] R) (hg : Ent (opd Γ g) (clo f Cs)) (ha : EntsO Γ args.toList Rs) : OpM C (l1 ++ I :: l2) (l1 ++ I' :: l2) o Γ R := by
  intro A w h hp hsz how hop K Q k
  obtain ⟨vs, hv, hcs⟩ := hg _ _ (hop g (by simp [ho, Op.operands, Call.operands]))
  have hargs := EntsO.all args.toList Rs ha (fun x hx => hop x (by simp only [ho, Op.operands, Call.operands]; simp at hx; simp [hx]))
  have hI := how.1 I mid_mem
  unfold Oper.wp
  rw [run_callf ho hv en w]
  refine Calls.mono (hc w h _ hp (hargs.append hcs) ⟨fun J hJ => ?_, List.pairwise_singleton _ _⟩) ?_
  · rw [List.mem_singleton.1 hJ]
    exact ⟨hI.1, fun b hb => ⟨I, List.mem_cons_self, hb⟩⟩
  · rintro e w' ⟨v, h', rfl, m, hR, how'⟩
    rw [Blocks.one] at m how'
    have hI' := how'.1 I' (by simp [noI])
    exact k v w' h' _ m hI.2 (how.turnM m (fun b hb => .inl (Nat.le_trans hsz hb)) hI'.1 (fun b hb => (hI'.2 b hb).symm)) hR
theorem OpM.call {I I' : OI} {f : FuncId} {args : Array Operand} {ts : Array TypeId} {Rs : List Rep} {R : Rep} (ho : o.op = .call ⟨.value (.func f), args, ts⟩) (en : Enters C.P f) (hc : CtM C.P f Rs [I] [I'] R) (ha : EntsO Γ args.toList Rs) : OpM C (l1 ++ I :: l2) (l1 ++ I' :: l2) o Γ R :=
  OpM.callg (Cs := []) ho en (by simpa using hc) (fun h v e => ⟨[], e, .nil⟩) ha
theorem JO.ofM {d : Nat} {R : Rep} (hi : ops[i]? = some o) (hg : o.guard = none) (hd : o.dst = some d) (hdn : d < C.n) (hop : OpM C l l' o Γ R) (k : JO C ops is (upd Γ d R) l' Q) : JO C ops (i :: is) Γ l Q := fun a w h s => by
  rw [wpOps_cons]
  unfold wpOp
  have hw : Region.wanted o (yielded ops a.tmps) = true := by simp [Region.wanted, hg]
  simp only [hi, hw, if_true]
  refine .inl (hop a w h s.step.pub s.step.size s.own (fun x _ => s.sat.opd x) _ _ fun v w' h' B m hB how hR => k _ _ h' ?_)
  rw [hd]
  exact s.put hdn (s.step.then_ m hB) m.le hR how
theorem JO.ofM0 {R : Rep} (hi : ops[i]? = some o) (hg : o.guard = none) (hd : o.dst = none) (hop : OpM C l l' o Γ R) (k : JO C ops is Γ l' Q) : JO C ops (i :: is) Γ l Q := fun a w h s => by
  rw [wpOps_cons]
  unfold wpOp
  have hw : Region.wanted o (yielded ops a.tmps) = true := by simp [Region.wanted, hg]
  simp only [hi, hw, if_true]
  refine .inl (hop a w h s.step.pub s.step.size s.own (fun x _ => s.sat.opd x) _ _ fun v w' h' B m hB how hR => k _ _ h' ?_)
  rw [hd]
  exact ⟨s.size, s.defers, s.step.then_ m hB, s.sat.mono m.le, how⟩

/-! #### a string behind a row; made slices -/
theorem rows_bytes (h : PH) : ∀ l : List UInt8, Rows (kU8.K h) l (l.map bv)
  | [] => .nil
  | b :: l => Rows.cons (c := [bv b]) rfl (rows_bytes h l)
theorem JO.appendS {v z : Value} {d bytes : Nat} {xs : List UInt8} {s : ByteArray} (hi : ops[i]? = some o) (hg : o.guard = none) (hd : o.dst = some d) (hdn : d < C.n) (ho : o.op = .call ⟨.builtin .append, #[x, y], #[t, t']⟩) (hx : Ent (opd Γ x) (Rep.is v)) (hy : Ent (opd Γ y) (Rep.is (.string s))) (ht' : C.P.underlying t' = some .string)
    (ht : C.P.underlying t = some (.slice e)) (hinf : (C.P.info? e).map (fun i => (i.zero, i.size, i.bytes)) = some (some z, 1, bytes)) (hzs : z.cells.size = 1) (h63 : xs.length + s.size ≤ 9223372036854775807) (hbytes : (xs.length + s.size) * bytes ≤ 140737488355328)
    (hk : ∀ v', JO C ops is (upd Γ d (rv v' kU8 (xs ++ s.data.toList))) (rowI v' kU8 e (xs ++ s.data.toList) :: l) Q) : JO C ops (i :: is) Γ (rowI v kU8 e xs :: l) Q := fun a w h ss => by
  rw [wpOps_cons]
  unfold wpOp
  have hw : Region.wanted o (yielded ops a.tmps) = true := by simp [Region.wanted, hg]
  simp only [hi, hw, if_true]
  left
  have hex : a.eval x = _ := hx _ _ (ss.sat.opd x)
  have hey : a.eval y = _ := hy _ _ (ss.sat.opd y)
  have hrow := (ss.own.1 _ List.mem_cons_self).1
  have hsl : s.data.toList.length = s.size := by rw [Array.length_toList]; rfl
  have hsrc : Src C.P (kU8 : Kind UInt8).sz t' (.string s) s.data.toList.length (s.data.toList.map bv) w := by
    rw [hsl]; exact Src.ofString w ht' s
  obtain ⟨v', w', h', hr, m, hp', hB⟩ := run_append_src (P := C.P) t t' o.type e z bytes ht hinf hzs (by decide) ss.step.pub hrow hsrc (rows_bytes h _) (by rw [hsl]; exact h63) (by rw [hsl]; exact hbytes)
  have hrun : (execOp a.eval o).run C.P w = .ok (.value v') w' := (run_builtin ho w).trans (run_v (by simpa [hex, hey] using hr))
  unfold Oper.wp
  rw [hrun]
  refine hk v' _ _ h' ?_
  rw [hd]
  exact ss.put hdn (ss.step.then_ m (fun b hb => (ss.own.1 _ List.mem_cons_self).2 b hb)) m.le ⟨rfl, row_reads hp'⟩ (ss.own.turn m (fun b hb => .inl (Nat.le_trans ss.step.size hb)) hp' hB)
/-- 'make', of length 0. -/
theorem op_make0 {z : Value} {bytes : Nat} {kl kc : IntKind} {c : Int} (ho : o.op = .makeSlice t x y) (hx : Ent (opd Γ x) (Rep.is (.int kl 0))) (hy : Ent (opd Γ y) (Rep.is (.int kc c))) (ht : P.underlying t = some (.slice e)) (hinf : (P.info? e).map (fun i => (i.zero, i.size, i.bytes)) = some (some z, k.sz, bytes))
    (h0 : 0 ≤ c ∧ c ≤ 9223372036854775807 ∧ (bytes : Int) * c ≤ 281474976710656) : OpC P V o Γ ⟨(kSl k).rep [], true, rowOf k e []⟩ := by
  intro A w h hp _ hop K Q kk
  have hex : A.eval x = _ := hx _ _ (hop x (by simp [ho, Op.operands]))
  have hey : A.eval y = _ := hy _ _ (hop y (by simp [ho, Op.operands]))
  obtain ⟨i, hi, hzz⟩ := Option.map_eq_some_iff.1 hinf
  simp only [Prod.mk.injEq] at hzz
  obtain ⟨hz, hsize, hby⟩ := hzz
  have hr := run_make (P := P) w t e i z ht hi hz kl kc 0 c (Int.le_refl _) h0.1 (by rw [hby]; exact h0.2.2) h0.2.1
  unfold Oper.wp
  rw [show (execOp A.eval o).run P w = .ok (.value (.slice (some ⟨w.heap.size, 0, none⟩) 0 c.toNat)) (w.alloc (.cells (madeCells z.cells (c.toNat * i.size)) e)) from by
    simp only [execOp, ho]
    rw [hex, hey]
    exact run_v hr]
  have hst : Step w h (w.alloc (.cells (madeCells z.cells (c.toNat * i.size)) e)) h := Step.alloc hp _
  have hrow : (rowI (.slice (some ⟨w.heap.size, 0, none⟩) 0 c.toNat) k e []).p (w.alloc (.cells (madeCells z.cells (c.toNat * i.size)) e)) h :=
    .inr ⟨w.heap.size, c.toNat, _, [], rfl, heap_alloc_new w _, by simp, by have := h0.2.1; simp only [maxLen]; omega, by rw [size_madeCells, hsize], .nil, by simp, fun j u hu => by simp at hu, fun a u ha hu => by have := hp.lt hu; omega⟩
  refine kk _ _ h hst (row_reads hrow) ((Owns.nil _ _ _).cons hrow (fun b hb => ?_) (fun J hJ => by cases hJ))
  have : w.heap.size = b := Option.some.inj hb
  rw [← this]; exact Nat.le_refl _
/-- .. of full length: a block of the call's own. -/
abbrev sb (b n : Nat) : Value := .slice (some ⟨b, 0, none⟩) n n
def isSb (n : Nat) : Rep := ⟨fun _ v => ∃ b, v = sb b n, fun _ e => e⟩
def sbOf (f : FP) : Value → List OI
  | .slice (some a) _ _ => [blkI a.block f]
  | _ => []
theorem op_makeB {z : Value} {n bytes : Nat} {kl kc : IntKind} (x0 : α) (ho : o.op = .makeSlice t x y) (hx : Ent (opd Γ x) (Rep.is (.int kl n))) (hy : Ent (opd Γ y) (Rep.is (.int kc n))) (ht : P.underlying t = some (.slice e)) (hinf : (P.info? e).map (fun i => (i.zero, i.size, i.bytes)) = some (some z, k.sz, bytes))
    (hz0 : ∀ h, k.K h x0 z.cells.toList) (h0 : n ≤ 9223372036854775807 ∧ bytes * n ≤ 281474976710656) : OpC P V o Γ ⟨isSb n, true, sbOf ((kArr n k).fp (List.replicate n x0))⟩ := by
  intro A w h hp _ hop K Q kk
  have hex : A.eval x = _ := hx _ _ (hop x (by simp [ho, Op.operands]))
  have hey : A.eval y = _ := hy _ _ (hop y (by simp [ho, Op.operands]))
  obtain ⟨i, hi, hzz⟩ := Option.map_eq_some_iff.1 hinf
  simp only [Prod.mk.injEq] at hzz
  obtain ⟨hz, hsize, hby⟩ := hzz
  have hr := run_make (P := P) w t e i z ht hi hz kl kc n n (by omega) (by omega) (by rw [hby]; have := h0.2; omega) (by have := h0.1; omega)
  simp only [Int.toNat_natCast] at hr
  unfold Oper.wp
  rw [show (execOp A.eval o).run P w = .ok (.value (sb w.heap.size n)) (w.alloc (.cells (madeCells z.cells (n * i.size)) e)) from by
    simp only [execOp, ho]
    rw [hex, hey]
    exact run_v hr]
  have hzl : z.cells.toList.length = k.sz := k.len (hz0 h)
  have hrows : ∀ m, Rows (k.K h) (List.replicate m x0) (madeCells z.cells (m * k.sz)).toList := by
    intro m
    induction m with
    | zero => simp [madeCells]; exact .nil
    | succ m ih =>
      have e1 : (madeCells z.cells ((m + 1) * k.sz)).toList = z.cells.toList ++ (madeCells z.cells (m * k.sz)).toList := by
        have hzs : z.cells.size = k.sz := by simpa using hzl
        apply List.ext_getElem
        · simp [madeCells, hzs, Nat.add_mul]; omega
        · intro j h1 h2
          rw [List.getElem_append]
          have h1' : j < (m + 1) * k.sz := by simpa [madeCells] using h1
          split
          · rename_i hlt
            have hlt' : j < z.cells.size := by simpa using hlt
            simp [madeCells, Nat.mod_eq_of_lt hlt', hlt']
          · rename_i hge
            have hge' : z.cells.size ≤ j := by simpa using hge
            simp only [madeCells, Array.getElem_toList, Array.getElem_map, Array.getElem_range, Array.length_toList]
            rw [Nat.mod_eq_sub_mod hge']
      rw [e1, List.replicate_succ]
      exact .cons (hz0 h) ih
  refine kk _ _ h (Step.alloc hp _) ⟨_, rfl⟩ (blk_new hp _ _ rfl ⟨by simp, ?_⟩)
  rw [hsize]; exact hrows n
theorem JO.newS {d n : Nat} {f : FP} (hi : ops[i]? = some o) (hg : o.guard = none) (hd : o.dst = some d) (hdn : d < C.n) (hop : OpC C.P (Vo C l) o Γ ⟨isSb n, true, sbOf f⟩) (k : ∀ b, JO C ops is (upd Γ d (Rep.is (sb b n))) (blkI b f :: l) Q) : JO C ops (i :: is) Γ l Q := fun a w h s => by
  rw [wpOps_cons]
  unfold wpOp
  have hw : Region.wanted o (yielded ops a.tmps) = true := by simp [Region.wanted, hg]
  simp only [hi, hw, if_true]
  refine .inl (hop a w h s.step.pub s.own (fun x _ => s.sat.opd x) _ _ fun v w' h' st hR how => ?_)
  obtain ⟨b, rfl⟩ := hR
  refine k b _ _ h' ?_
  rw [hd]
  exact s.put hdn (s.step.step_ st) st.le rfl ((s.own.step st).app how (fun b hb => .inl (Nat.le_trans s.step.size hb)) (fun I hI b hb => I.lt (s.own.1 I hI).1 b hb))
theorem op_indexB {b n j : Nat} {ik : IntKind} {sz : Nat} (ho : o.op = .indexAddr t x y) (ht : SlT P t e sz) (hx : Ent (opd Γ x) (Rep.is (sb b n))) (hy : Ent (opd Γ y) (Rep.is (.int ik (j : Int)))) (hj : j < n) : OpC P V o Γ (plain (Rep.is (pb b (j * sz)))) := OpC.pure fun A w h hp hop => by
  have he : A.eval x = _ := hx _ _ (hop x (by simp [ho, Op.operands]))
  have hi : A.eval y = _ := hy _ _ (hop y (by simp [ho, Op.operands]))
  refine ⟨_, ?_, rfl⟩
  simp only [execOp, ho]
  rw [he, hi]
  refine run_v ?_
  have h1 : (j : Int) < n := by omega
  simp [Instr.indexAt, asIntOf, run_underlying ht.1, h1, run_sizeOf' ht.2, hj]
  rw [Addr.add_lit, Nat.zero_add]
theorem op_lenB {b n sz : Nat} (ho : o.op = .call ⟨.builtin .len, #[x], #[t]⟩) (ht : SlT P t e sz) (hx : Ent (opd Γ x) (Rep.is (sb b n))) : OpC P V o Γ (plain (Rep.is (.int .i64 n))) := OpC.pure fun A w h hp hop => by
  have he : A.eval x = _ := hx _ _ (hop x (by simp [ho, Op.operands, Call.operands]))
  refine ⟨_, ?_, rfl⟩
  rw [run_builtin ho]
  refine run_v ?_
  simp [he, Builtin.len_, run_underlying ht.1, goInt]
theorem Rows.setAt {K : α → List Value → Prop} {sz : Nat} (hl : ∀ x c, K x c → c.length = sz) : ∀ {xs : List α} {cs : List Value}, Rows K xs cs → ∀ (j : Nat) (y : α) (c : List Value), j < xs.length → K y c → j * sz + sz ≤ cs.length ∧ Rows K (xs.set j y) (cs.take (j * sz) ++ c ++ cs.drop (j * sz + sz))
  | _, _, .nil, j, y, c, h, _ => by simp at h
  | _, _, @Rows.cons _ _ x xs c0 cs hx hr, 0, y, c, h, hy => by
    have := hl _ _ hx
    refine ⟨by simp [this], ?_⟩
    rw [List.set_cons_zero, Nat.zero_mul, List.take_zero, List.nil_append, Nat.zero_add, List.drop_left' this]
    exact .cons hy hr
  | _, _, @Rows.cons _ _ x xs c0 cs hx hr, j + 1, y, c, h, hy => by
    have h0 := hl _ _ hx
    obtain ⟨h1, h2⟩ := Rows.setAt hl hr j y c (by simpa using h) hy
    refine ⟨by rw [List.length_append, h0, Nat.add_mul]; omega, ?_⟩
    rw [List.set_cons_succ, Nat.add_mul, Nat.one_mul]
    have e1 : (c0 ++ cs).take (j * sz + sz) = c0 ++ cs.take (j * sz) := by
      rw [List.take_append, List.take_of_length_le (by omega), h0]; congr 2; omega
    have e2 : (c0 ++ cs).drop (j * sz + sz + sz) = cs.drop (j * sz + sz) := by
      rw [List.drop_append, List.drop_of_length_le (by omega), h0, List.nil_append]; congr 1; omega
    rw [e1, e2, List.append_assoc, List.append_assoc]
    exact .cons hx (by simpa [List.append_assoc] using h2)
theorem Turn.arr {n j : Nat} {y : α} (hj : j < n) : Turn ((kArr n k).fp xs) (j * k.sz) (k.fp y) ((kArr n k).fp (xs.set j y)) := fun h cs hk => by
  obtain ⟨h1, h2⟩ := hk
  refine ⟨?_, fun c hc => ⟨by simpa using h1, (Rows.setAt (fun x c hx => k.len hx) h2 j y c (by omega) hc).2⟩⟩
  have h3 := h2.length (fun x c hx => k.len hx)
  show j * k.sz + k.sz ≤ cs.length
  rw [h3, h1, ← Nat.succ_mul]
  exact Nat.mul_le_mul_right _ hj
theorem Part.arr {n j : Nat} (d : α) (hj : j < n) : Part ((kArr n k).fp xs) (j * k.sz) (k.fp (xs.getD j d)) := fun h cs hk => by
  obtain ⟨h1, h2⟩ := hk
  have hlt : j < xs.length := by omega
  obtain ⟨c', c1, c2, rfl, h4, h5, _, _⟩ := h2.split (fun x c hx => k.len hx) j hlt
  exact ⟨c1, c', c2, rfl, h4, by simpa [Kind.fp, List.getD, hlt] using h5⟩

/-! #### publishing -/
theorem SS.pub {b : Nat} {f : FP} {a : Act} {w : World} {h : PH} (s : SS C Γ (blkI b f :: l) a w h) : ∃ h' cs, PLe h h' ∧ SS C Γ l a w h' ∧ f.K h' cs ∧ At h' ⟨b, 0, none⟩ cs := by
  obtain ⟨⟨⟨cs, t, hc, hk⟩, hu⟩, hlo⟩ := s.own.1 _ List.mem_cons_self
  have hle : PLe h (pubRow h b cs) := fun a v hv => by
    unfold pubRow
    rw [if_neg (fun e => hu a v e hv)]; exact hv
  have hpub : Pub (pubRow h b cs) w := ⟨fun a v hv => by
    unfold pubRow at hv
    by_cases hb : a.block = b
    · rw [if_pos hb] at hv
      simp only [World.cell?, hb, hc]
      exact hv
    · rw [if_neg hb] at hv
      exact s.step.pub a v hv, s.step.pub.tab.trans hle⟩
  have hd := (List.pairwise_cons.1 s.own.2).1
  refine ⟨pubRow h b cs, cs.toList, hle, ⟨s.size, s.defers, ⟨s.step.os, s.step.tape, s.step.output, s.step.size, s.step.block, s.step.le.trans hle, fun a v hb hn hv => ?_, hpub⟩, s.sat.mono hle, ?_⟩, f.mono hle hk, At.pubRow _ _ _⟩
  · unfold pubRow at hv
    by_cases e : a.block = b
    · exfalso
      rcases hlo b rfl with h1 | h1
      · omega
      · exact hn (e ▸ h1)
    · rw [if_neg e] at hv
      exact s.step.new a v hb hn hv
  · refine ⟨fun J hJ => ?_, (List.pairwise_cons.1 s.own.2).2⟩
    obtain ⟨h1, h2⟩ := s.own.1 J (List.mem_cons_of_mem _ hJ)
    refine ⟨J.fr h1 (Nat.le_refl _) (fun _ _ => rfl) hle (fun a v hb hv => ?_), h2⟩
    unfold pubRow at hv
    rw [if_neg (fun e : a.block = b => hd J hJ b rfl (by rw [← e]; exact hb))] at hv
    exact hv
theorem SS.upd {a : Act} {w : World} {h : PH} {s : Nat} {R : Rep} (ss : SS C Γ l a w h) (hR : R.p h (tv a s)) : SS C (Go.Proofs.YtdioiepkbolnlaaGreatDoor.upd Γ s R) l a w h := ⟨ss.size, ss.defers, ss.step, fun t => by
  unfold Go.Proofs.YtdioiepkbolnlaaGreatDoor.upd
  split
  · rename_i e; rw [e]; exact hR
  · exact ss.sat t, ss.own⟩
theorem pub_ptr {b : Nat} {f : FP} {a : Act} {w : World} {h : PH} {s : Nat} (hs : Ent (Γ s) (Rep.is (pb b 0))) (ss : SS C Γ (blkI b f :: l) a w h) : ∃ h', SS C (upd Γ s (ptr f)) l a w h' := by
  obtain ⟨h', cs, hle, s', hk, hat⟩ := ss.pub
  exact ⟨h', s'.upd ⟨_, cs, hs _ _ (s'.sat s), rfl, hk, hat⟩⟩
theorem pub_sl {b n : Nat} {a : Act} {w : World} {h : PH} {s : Nat} (hs : Ent (Γ s) (Rep.is (sb b n))) (hn : n ≤ 9223372036854775807) (ss : SS C Γ (blkI b ((kArr n k).fp xs) :: l) a w h) : ∃ h', SS C (upd Γ s ((kSl k).rep xs)) l a w h' := by
  obtain ⟨h', cs, hle, s', hk, hat⟩ := ss.pub
  obtain ⟨h1, h2⟩ := hk
  refine ⟨h', s'.upd ?_⟩
  have hv : tv a s = sb b n := hs _ _ (s'.sat s)
  rw [hv]
  subst h1
  exact sl_mk (Nat.le_refl _) hn (fun _ => ⟨_, cs, rfl, rfl, h2, hat⟩)
theorem J.pubP {b s : Nat} {f : FP} {c : Code} (hs : Ent (Γ s) (Rep.is (pb b 0))) (k : J C (upd Γ s (ptr f)) l c Q) : J C Γ (blkI b f :: l) c Q := fun a w h ss => by
  obtain ⟨h', s'⟩ := pub_ptr hs ss
  exact k a w h' s'
theorem JO.pubP {b s : Nat} {f : FP} (hs : Ent (Γ s) (Rep.is (pb b 0))) (k : JO C ops is (upd Γ s (ptr f)) l Q) : JO C ops is Γ (blkI b f :: l) Q := fun a w h ss => by
  obtain ⟨h', s'⟩ := pub_ptr hs ss
  exact k a w h' s'
theorem E.pubP {b s : Nat} {f : FP} {e : Exit} (hs : Ent (Γ s) (Rep.is (pb b 0))) (k : E C e (upd Γ s (ptr f)) l Q) : E C e Γ (blkI b f :: l) Q := fun a w h ss => by
  obtain ⟨h', s'⟩ := pub_ptr hs ss
  exact k a w h' s'
theorem E.ownEq {e : Exit} (he : l = l') (k : E C e Γ l' Q) : E C e Γ l Q := by subst he; exact k
theorem J.pubS {b n s : Nat} {c : Code} (hs : Ent (Γ s) (Rep.is (sb b n))) (hn : n ≤ 9223372036854775807) (kk : J C (upd Γ s ((kSl k).rep xs)) l c Q) : J C Γ (blkI b ((kArr n k).fp xs) :: l) c Q := fun a w h ss => by
  obtain ⟨h', s'⟩ := pub_sl hs hn ss
  exact kk a w h' s'
theorem JO.pubS {b n s : Nat} (hs : Ent (Γ s) (Rep.is (sb b n))) (hn : n ≤ 9223372036854775807) (kk : JO C ops is (upd Γ s ((kSl k).rep xs)) l Q) : JO C ops is Γ (blkI b ((kArr n k).fp xs) :: l) Q := fun a w h ss => by
  obtain ⟨h', s'⟩ := pub_sl hs hn ss
  exact kk a w h' s'
theorem E.pubS {b n s : Nat} {e : Exit} (hs : Ent (Γ s) (Rep.is (sb b n))) (hn : n ≤ 9223372036854775807) (kk : E C e (upd Γ s ((kSl k).rep xs)) l Q) : E C e Γ (blkI b ((kArr n k).fp xs) :: l) Q := fun a w h ss => by
  obtain ⟨h', s'⟩ := pub_sl hs hn ss
  exact kk a w h' s'

/-! #### numbers -/
section
variable {ki kj : IntKind} {m n : Int}
theorem op_shr (ho : o.op = .binOp .shr t x y t') (hx : Ent (opd Γ x) (Rep.is (.int ki m))) (hy : Ent (opd Γ y) (Rep.is (.int kj n))) (hn : 0 ≤ n ∧ n ≤ ki.bits) : OpC P V o Γ (plain (Rep.is (.int ki (m / 2 ^ n.toNat)))) := op_bin ho hx hy (by simp [go_sem]) (fun w => by
  have h1 : ¬ n < 0 := by omega
  have h2 : min n.toNat ki.bits = n.toNat := by omega
  simp only [binOp_shr, Op.shift, h1, if_false, h2]
  rw [Int.fdiv_eq_ediv_of_nonneg _ (by exact Int.pow_nonneg (by decide))]
  rfl)
theorem op_shl (ho : o.op = .binOp .shl t x y t') (hx : Ent (opd Γ x) (Rep.is (.int ki m))) (hy : Ent (opd Γ y) (Rep.is (.int kj n))) (hn : 0 ≤ n ∧ n ≤ ki.bits) : OpC P V o Γ (plain (Rep.is (.int ki (ki.wrap (m * 2 ^ n.toNat))))) := op_bin ho hx hy (by simp [go_sem]) (fun w => by
  have h1 : ¬ n < 0 := by omega
  have h2 : min n.toNat ki.bits = n.toNat := by omega
  simp only [binOp_shl, Op.shift, h1, if_false, h2]
  rfl)
theorem op_rem (ho : o.op = .binOp .rem t x y t') (hx : Ent (opd Γ x) (Rep.is (.int ki m))) (hy : Ent (opd Γ y) (Rep.is (.int ki n))) (hn : n ≠ 0) : OpC P V o Γ (plain (Rep.is (.int ki (m.tmod n)))) := op_bin ho hx hy (by simp [go_sem]) (fun w => by
  simp only [binOp_rem, Op.intDiv, hn, if_false]
  rfl)
theorem op_quo (ho : o.op = .binOp .quo t x y t') (hx : Ent (opd Γ x) (Rep.is (.int ki m))) (hy : Ent (opd Γ y) (Rep.is (.int ki n))) (hn : n ≠ 0) : OpC P V o Γ (plain (Rep.is (.int ki (ki.wrap (m.tdiv n))))) := op_bin ho hx hy (by simp [go_sem]) (fun w => by
  simp only [binOp_quo, Op.intDiv, hn, if_false]
  rfl)
end
/-! #### strings -/
def strOf (l : List UInt8) : ByteArray := ⟨l.toArray⟩
theorem op_b2s {l : List UInt8} (ho : o.op = .convert t t' x) (ht : SlT P t e 1) (he : P.underlying e = some (.int .u8)) (ht' : P.underlying t' = some .string) (hx : Ent (opd Γ x) ((kSl kU8).rep l)) : OpC P V o Γ (plain (Rep.is (.string (strOf l)))) := OpC.pure fun A w h hp hop => by
  obtain ⟨B, c, hv, h1, h2, h3⟩ := sl_form (hx _ _ (hop x (by simp [ho, Op.operands])))
  refine ⟨_, ?_, rfl⟩
  simp only [execOp, ho]
  rw [hv]
  refine run_v ?_
  rcases Nat.eq_zero_or_pos l.length with h0 | h0
  · have : l = [] := List.eq_nil_of_length_eq_zero h0
    subst this
    rw [run_convert_bytes_string w t t' e B _ c ht.1 he ht']
    cases B with
    | none => simp [Conv.bytesToString, strOf]; rfl
    | some ad =>
      have := run_convert_bytes_back (P := P) w t t' e ad c [] ht.1 he ht' (fun j hj => by simp at hj)
      rw [run_convert_bytes_string w t t' e _ _ c ht.1 he ht'] at this
      exact this
  · obtain ⟨ad, ds, rfl, hsp, hr, hat⟩ := h3 h0
    refine run_convert_bytes_back (P := P) w t t' e ad c l ht.1 he ht' (fun j hj => ?_)
    obtain ⟨c', c1, c2, rfl, h4, h5, _, _⟩ := hr.split (fun x c hx => kU8.len hx) j hj
    have : c' = [bv l[j]] := h5
    subst this
    have h6 := (hat.right hsp).left 0 (bv l[j]) rfl
    rw [h4, Addr.add_zero'] at h6
    have h7 : kU8.sz = 1 := rfl
    rw [h7, Nat.mul_one] at h6
    exact hp _ _ h6
end
end Go.Proofs.YtdioiepkbolnlaaGreatDoor
