/- Structs held against each other; package-level tables; the first of a list that .. . Nothing of the program is in it. -/
import Derived.Test.YtdioiepkbolnlaaGreatDoorNc
import Derived.Laws.StructEq
import Derived.ChangeKeysEq
set_option linter.unusedSimpArgs false
set_option linter.unusedVariables false
namespace Go.Proofs.YtdioiepkbolnlaaGreatDoor
open Go.RowKit
def eqF (d : Nat) (xs ys : Array Value) : List (String × TypeId × Nat) → Sem Bool
  | [] => pure true
  | (n, t, o) :: fs =>
    if n ≠ "_" then do
      let a ← part t xs o
      let b ← part t ys o
      let r ← Op.equalIn d t a b
      if (!r) = true then pure false else eqF d xs ys fs
    else eqF d xs ys fs
theorem eqF_of (d : Nat) (xs ys : Array Value) : ∀ fs : List Field, Op.eqFields d xs ys fs = eqF d xs ys (fs.map fun f => (f.name, f.type, f.offset))
  | [] => rfl
  | f :: fs => by simp only [Op.eqFields, eqF, List.map_cons, eqF_of d xs ys fs]
section
variable {P : Program} {w : World} {d : Nat} {xs ys : Array Value} {t : TypeId} {n : String} {o : Nat} {fs : List (String × TypeId × Nat)}
theorem eqF_nil : (eqF d xs ys []).run P w = .ok true w := rfl
theorem eqF_cons {a b : Value} {r : Bool} (hn : n ≠ "_") (ht : P.plainKey t = true) (ha : xs[o]? = some a) (hb : ys[o]? = some b) (hr : (Op.equalIn d t a b).run P w = .ok r w) {q : Bool} (hq : (eqF d xs ys fs).run P w = .ok q w) : (eqF d xs ys ((n, t, o) :: fs)).run P w = .ok (r && q) w := by
  simp only [eqF, hn, ne_eq, not_false_eq_true, if_true, Sem.run_bind, run_part_plain w ht ha, run_part_plain w ht hb, Result.andThen_ok, hr]
  cases r <;> simp [hq]
end
theorem grant_cells {h : PH} {a : Grant} {xs : Array Value} (hx : (kGrant.fp a).K h xs.toList) : xs = #[.int .i64 a.rts, .string a.pre, .bool a.exa, .int .i64 a.unt] := by
  have hx : RowF h (kGrantF a) xs.toList := hx
  unfold kGrantF at hx
  apply Array.toList_inj.1
  generalize xs.toList = l at hx
  cases hx with
  | cons h1 hx => cases hx with
    | cons h2 hx => cases hx with
      | cons h3 hx => cases hx with
        | cons h4 hx =>
          cases hx
          have e1 : _ = _ := h1
          have e2 : _ = _ := h2
          have e3 : _ = _ := h3
          have e4 : _ = _ := h4
          rw [e1, e2, e3, e4]; rfl
theorem toList_beq (a b : ByteArray) : (a.toList == b.toList) = decide (a = b) := toList_dec a b
/-- What the program's type of grants is. -/
def GrT (P : Program) (t i s b : TypeId) : Prop := P.underlying t = some (.struct (P.fieldsOf t)) ∧ P.stoodInHeld t = false ∧ P.eqGuardType P.depth t = false ∧ (P.fieldsOf t).toList.map (fun f => (f.name, f.type, f.offset)) = [("Rights", i, 0), ("Prefix", s, 1), ("Exact", b, 2), ("Until", i, 3)] ∧ P.underlying i = some (.int .i64) ∧ P.underlying s = some .string ∧ P.underlying b = some .bool ∧ P.plainKey i = true ∧ P.plainKey s = true ∧ P.plainKey b = true
theorem grant_equal {P : Program} {t i s b : TypeId} (hT : GrT P t i s b) {h : PH} {x y : Grant} {xs ys : Array Value} (hx : (kGrant.fp x).K h xs.toList) (hy : (kGrant.fp y).K h ys.toList) (w : World) : (Op.equalIn 10000 t (.agg xs) (.agg ys)).run P w = .ok (decide (x = y)) w := by
  obtain ⟨h1, h2, _, h3, hi, hs, hb, pi, ps, pb⟩ := hT
  rw [grant_cells hx, grant_cells hy, run_equalIn_struct w 9999 t _ _ h1 h2, eqF_of, h3]
  rw [eqF_cons (by decide) pi rfl rfl (run_equalIn_int w 9998 i .i64 .i64 _ _ hi) (eqF_cons (by decide) ps rfl rfl (run_equalIn_string w 9998 s _ _ hs) (eqF_cons (by decide) pb rfl rfl (run_equalIn_bool' w 9998 b _ _ hb) (eqF_cons (by decide) pi rfl rfl (run_equalIn_int w 9998 i .i64 .i64 _ _ hi) eqF_nil)))]
  congr 1
  rw [toList_beq, Bool.eq_iff_iff]
  cases x; cases y
  simp
section
variable {P : Program} {V : World → PH → Prop} {Γ : Nat → Rep} {o : Oper} {t t' e i s b : TypeId} {x y : Operand}
theorem agg_of {f : FP} {h : PH} {v : Value} (ha : f.agg = true) (e : f.V h v) : ∃ cs, v = .agg cs ∧ f.K h cs.toList := by
  rcases e with ⟨_, cs, e, hk⟩ | ⟨e, _⟩
  · exact ⟨cs, e, hk⟩
  · rw [ha] at e; cases e
theorem grant_eql {a c : Grant} (ho : o.op = .binOp .eql t x y t') (hT : GrT P t i s b) (hx : Ent (opd Γ x) (kGrant.rep a)) (hy : Ent (opd Γ y) (kGrant.rep c)) : OpC P V o Γ (plain (Rep.is (.bool (decide (a = c))))) := OpC.pure fun A w h hp hop => by
  obtain ⟨xs, ex, kx⟩ := agg_of rfl (hx _ _ (hop x (by simp [ho, Op.operands])))
  obtain ⟨ys, ey, ky⟩ := agg_of rfl (hy _ _ (hop y (by simp [ho, Op.operands])))
  refine ⟨_, ?_, rfl⟩
  simp only [execOp, ho]
  rw [ex, ey]
  refine run_v ?_
  simp only [Sem.run_bind, run_eqGuard_agg w _ _ _ _ _ _ hT.2.2.1, Result.andThen_ok, run_eql_struct, grant_equal hT kx ky]
theorem grant_neq {a c : Grant} (ho : o.op = .binOp .neq t x y t') (hT : GrT P t i s b) (hx : Ent (opd Γ x) (kGrant.rep a)) (hy : Ent (opd Γ y) (kGrant.rep c)) : OpC P V o Γ (plain (Rep.is (.bool (!decide (a = c))))) := OpC.pure fun A w h hp hop => by
  obtain ⟨xs, ex, kx⟩ := agg_of rfl (hx _ _ (hop x (by simp [ho, Op.operands])))
  obtain ⟨ys, ey, ky⟩ := agg_of rfl (hy _ _ (hop y (by simp [ho, Op.operands])))
  refine ⟨_, ?_, rfl⟩
  simp only [execOp, ho]
  rw [ex, ey]
  refine run_v ?_
  simp only [Sem.run_bind, run_eqGuard_agg w _ _ _ _ _ _ hT.2.2.1, Result.andThen_ok, run_neq_struct, grant_equal hT kx ky]
end
/-! #### arrays of bytes -/
theorem rows_u8 {h : PH} {xs : List UInt8} {cs : List Value} (r : Rows (kU8.K h) xs cs) : cs = xs.map bv := by
  induction r with
  | nil => rfl
  | @cons x l c cs hx _ ih => rw [ih, show c = [bv x] from hx]; rfl
def ArEq (P : Program) (t e n : Nat) : Prop := P.underlying t = some (.array n e) ∧ (P.info? e).isSome = true ∧ P.cellsOf e = 1 ∧ P.plainKey e = true ∧ P.underlying e = some (.int .u8) ∧ P.eqGuardType P.depth t = false
section
variable {P : Program} {w : World}
theorem items_u8 {e : TypeId} (he : P.plainKey e = true) (hu : P.underlying e = some (.int .u8)) {d : Nat} {us qs : List UInt8} {xs ys : Array Value} (hx : xs.toList = us.map bv) (hy : ys.toList = qs.map bv) : ∀ is : List Nat, (∀ i ∈ is, i < us.length ∧ i < qs.length) → (Op.eqItems (d + 1) e 1 xs ys is).run P w = .ok (is.all fun i => decide (us.getD i 0 = qs.getD i 0)) w
  | [], _ => rfl
  | i :: is, hi => by
    obtain ⟨h1, h2⟩ := hi i List.mem_cons_self
    have e1 : xs[i * 1]? = some (bv (us.getD i 0)) := by rw [Nat.mul_one, ← Array.getElem?_toList, hx]; simp [List.getD, h1]
    have e2 : ys[i * 1]? = some (bv (qs.getD i 0)) := by rw [Nat.mul_one, ← Array.getElem?_toList, hy]; simp [List.getD, h2]
    simp only [Op.eqItems, Sem.run_bind, run_part_plain w he e1, run_part_plain w he e2, Result.andThen_ok, run_equalIn_int w d e .u8 .u8 _ _ hu]
    have hb : (((us.getD i 0).toNat : Int) == ((qs.getD i 0).toNat : Int)) = decide (us.getD i 0 = qs.getD i 0) := by
      rw [Bool.eq_iff_iff]; simp only [beq_iff_eq, decide_eq_true_eq]
      exact ⟨fun h => UInt8.toNat_inj.1 (by omega), fun h => by rw [h]⟩
    rw [hb, List.all_cons]
    by_cases hd : us.getD i 0 = qs.getD i 0
    · simp only [hd, decide_true, Bool.not_true, Bool.false_eq_true, if_false, Bool.true_and]
      exact items_u8 he hu hx hy is (fun j hj => hi j (List.mem_cons_of_mem _ hj))
    · simp only [decide_eq_false hd, Bool.not_false, if_true, Bool.false_and, Sem.run_pure]
theorem range_all {us qs : List UInt8} {n : Nat} (ha : us.length = n) (hb : qs.length = n) : ((List.range n).all fun i => decide (us.getD i 0 = qs.getD i 0)) = decide (us = qs) := by
  rw [Bool.eq_iff_iff, List.all_eq_true]
  simp only [List.mem_range, decide_eq_true_eq]
  refine ⟨fun h => List.ext_getElem (by omega) (fun i h1 h2 => ?_), fun h i _ => by rw [h]⟩
  have := h i (by omega)
  simpa [List.getD, h1, h2] using this
theorem arr_equal9 {t e n d : Nat} (hT : ArEq P t e n) {h : PH} {x y : List UInt8} {xs ys : Array Value} (hx : ((kArr n kU8).fp x).K h xs.toList) (hy : ((kArr n kU8).fp y).K h ys.toList) : (Op.equalIn (d + 2) t (.agg xs) (.agg ys)).run P w = .ok (decide (x = y)) w := by
  obtain ⟨h1, h2, h3, h4, h5, _⟩ := hT
  obtain ⟨i, hi⟩ := Option.isSome_iff_exists.1 h2
  rw [run_equalIn_array w (d + 1) xs ys h1 hi, h3, items_u8 h4 h5 (rows_u8 hx.2) (rows_u8 hy.2) _ (fun i hi => ?_), range_all hx.1 hy.1]
  have := List.mem_range.1 hi
  have := hx.1; have := hy.1
  omega
theorem arr_equal {t e n : Nat} (hT : ArEq P t e n) {h : PH} {x y : List UInt8} {xs ys : Array Value} (hx : ((kArr n kU8).fp x).K h xs.toList) (hy : ((kArr n kU8).fp y).K h ys.toList) : (Op.equalIn 10000 t (.agg xs) (.agg ys)).run P w = .ok (decide (x = y)) w := by
  obtain ⟨h1, h2, h3, h4, h5, _⟩ := hT
  obtain ⟨i, hi⟩ := Option.isSome_iff_exists.1 h2
  rw [run_equalIn_array w 9999 xs ys h1 hi, h3, items_u8 h4 h5 (rows_u8 hx.2) (rows_u8 hy.2) _ (fun i hi => ?_), range_all hx.1 hy.1]
  have := List.mem_range.1 hi
  have := hx.1; have := hy.1
  omega
end
section
variable {P : Program} {V : World → PH → Prop} {Γ : Nat → Rep} {o : Oper} {t t' e n : TypeId} {x y : Operand}
theorem arr_eql {a c : List UInt8} (ho : o.op = .binOp .eql t x y t') (hT : ArEq P t e n) (hx : Ent (opd Γ x) ((kArr n kU8).rep a)) (hy : Ent (opd Γ y) ((kArr n kU8).rep c)) : OpC P V o Γ (plain (Rep.is (.bool (decide (a = c))))) := OpC.pure fun A w h hp hop => by
  obtain ⟨xs, ex, kx⟩ := agg_of rfl (hx _ _ (hop x (by simp [ho, Op.operands])))
  obtain ⟨ys, ey, ky⟩ := agg_of rfl (hy _ _ (hop y (by simp [ho, Op.operands])))
  refine ⟨_, ?_, rfl⟩
  simp only [execOp, ho]
  rw [ex, ey]
  refine run_v ?_
  simp only [Sem.run_bind, run_eqGuard_agg w _ _ _ _ _ _ hT.2.2.2.2.2, Result.andThen_ok, run_eql_struct, arr_equal hT kx ky]
theorem arr_neq {a c : List UInt8} (ho : o.op = .binOp .neq t x y t') (hT : ArEq P t e n) (hx : Ent (opd Γ x) ((kArr n kU8).rep a)) (hy : Ent (opd Γ y) ((kArr n kU8).rep c)) : OpC P V o Γ (plain (Rep.is (.bool (!decide (a = c))))) := OpC.pure fun A w h hp hop => by
  obtain ⟨xs, ex, kx⟩ := agg_of rfl (hx _ _ (hop x (by simp [ho, Op.operands])))
  obtain ⟨ys, ey, ky⟩ := agg_of rfl (hy _ _ (hop y (by simp [ho, Op.operands])))
  refine ⟨_, ?_, rfl⟩
  simp only [execOp, ho]
  rw [ex, ey]
  refine run_v ?_
  simp only [Sem.run_bind, run_eqGuard_agg w _ _ _ _ _ _ hT.2.2.2.2.2, Result.andThen_ok, run_neq_struct, arr_equal hT kx ky]
end
/-! #### entries: a struct whose last field is an array of bytes -/
theorem entry_cells {h : PH} {a : Entry} {xs : Array Value} (hx : (kEntry.fp a).K h xs.toList) : ∃ ds, xs.toList = [.int .i64 a.no, .int .i64 a.clock, .int .i64 a.kind, .int .i64 a.code, .int .i64 a.eid, .string a.str, .string a.sub] ++ ds ∧ ((kArr 32 kU8).fp a.sum).K h ds := by
  have hx : RowF h (kEntryF a) xs.toList := hx
  unfold kEntryF at hx
  generalize xs.toList = l at hx
  cases hx with
  | cons h1 hx => cases hx with
    | cons h2 hx => cases hx with
      | cons h3 hx => cases hx with
        | cons h4 hx => cases hx with
          | cons h5 hx => cases hx with
            | cons h6 hx => cases hx with
              | cons h7 hx => cases hx with
                | @cons _ _ c _ h8 hx =>
                  cases hx
                  have e1 : _ = _ := h1
                  have e2 : _ = _ := h2
                  have e3 : _ = _ := h3
                  have e4 : _ = _ := h4
                  have e5 : _ = _ := h5
                  have e6 : _ = _ := h6
                  have e7 : _ = _ := h7
                  refine ⟨c, ?_, h8⟩
                  rw [e1, e2, e3, e4, e5, e6, e7]; simp
def EnT (P : Program) (t i e s a u : TypeId) : Prop := P.underlying t = some (.struct (P.fieldsOf t)) ∧ P.stoodInHeld t = false ∧ P.eqGuardType P.depth t = false ∧ (P.fieldsOf t).toList.map (fun f => (f.name, f.type, f.offset)) = [("No", i, 0), ("Clock", i, 1), ("Kind", i, 2), ("Code", e, 3), ("Id", i, 4), ("Stream", s, 5), ("Subject", s, 6), ("Sum", a, 7)] ∧ P.underlying i = some (.int .i64) ∧ P.underlying e = some (.int .i64) ∧ P.underlying s = some .string ∧ P.plainKey i = true ∧ P.plainKey e = true ∧ P.plainKey s = true ∧ ArEq P a u 32 ∧ (P.info? a).map (·.size) = some 32
theorem eqF_arr {P : Program} {w : World} {d : Nat} {xs ys : Array Value} {t u o m : Nat} {nm : String} (hn : nm ≠ "_") (ht : P.underlying t = some (.array m u)) (hs : (P.info? t).map (·.size) = some m) {r : Bool} (hr : (Op.equalIn d t (.agg (xs.extract o (o + m))) (.agg (ys.extract o (o + m)))).run P w = .ok r w) : (eqF d xs ys [(nm, t, o)]).run P w = .ok r w := by
  have hp : ∀ zs : Array Value, (part t zs o).run P w = .ok (.agg (zs.extract o (o + m))) w := fun zs => by
    simp [part, Sem.run_bind, run_isAgg ht, aggD, run_sizeOf' hs]
  simp only [eqF, hn, ne_eq, not_false_eq_true, if_true, Sem.run_bind, hp, Result.andThen_ok, hr]
  cases r <;> rfl
theorem entry_equal {P : Program} {t i e s a u : TypeId} (hT : EnT P t i e s a u) {h : PH} {x y : Entry} {xs ys : Array Value} (hx : (kEntry.fp x).K h xs.toList) (hy : (kEntry.fp y).K h ys.toList) (w : World) : (Op.equalIn 10000 t (.agg xs) (.agg ys)).run P w = .ok (decide (x = y)) w := by
  obtain ⟨h1, h2, _, h3, hi, he, hs, pi, pe, ps, hA, hsz⟩ := hT
  obtain ⟨dx, ex, kx⟩ := entry_cells hx
  obtain ⟨dy, ey, ky⟩ := entry_cells hy
  have lx := ((kArr 32 kU8).fp x.sum).len kx
  have ly := ((kArr 32 kU8).fp y.sum).len ky
  have gx : ∀ (j : Nat) (v : Value), ([.int .i64 x.no, .int .i64 x.clock, .int .i64 x.kind, .int .i64 x.code, .int .i64 x.eid, .string x.str, .string x.sub] : List Value)[j]? = some v → xs[j]? = some v := fun j v hv => by
    rw [← Array.getElem?_toList, ex, List.getElem?_append_left (List.getElem?_eq_some_iff.1 hv).1]; exact hv
  have gy : ∀ (j : Nat) (v : Value), ([.int .i64 y.no, .int .i64 y.clock, .int .i64 y.kind, .int .i64 y.code, .int .i64 y.eid, .string y.str, .string y.sub] : List Value)[j]? = some v → ys[j]? = some v := fun j v hv => by
    rw [← Array.getElem?_toList, ey, List.getElem?_append_left (List.getElem?_eq_some_iff.1 hv).1]; exact hv
  have sx : ((kArr 32 kU8).fp x.sum).K h (xs.extract 7 39).toList := by
    have : (xs.extract 7 39).toList = dx := by
      rw [Array.toList_extract, ex, List.extract_eq_take_drop]
      have l2 : dx.length = 32 := lx
      simp [List.take_of_length_le (Nat.le_of_eq l2)]
    rw [this]; exact kx
  have sy : ((kArr 32 kU8).fp y.sum).K h (ys.extract 7 39).toList := by
    have : (ys.extract 7 39).toList = dy := by
      rw [Array.toList_extract, ey, List.extract_eq_take_drop]
      have l2 : dy.length = 32 := ly
      simp [List.take_of_length_le (Nat.le_of_eq l2)]
    rw [this]; exact ky
  have hsum := arr_equal9 (w := w) (d := 9997) hA sx sy
  rw [run_equalIn_struct w 9999 t _ _ h1 h2, eqF_of, h3]
  rw [eqF_cons (by decide) pi (gx 0 _ rfl) (gy 0 _ rfl) (run_equalIn_int w 9998 i .i64 .i64 _ _ hi) (eqF_cons (by decide) pi (gx 1 _ rfl) (gy 1 _ rfl) (run_equalIn_int w 9998 i .i64 .i64 _ _ hi) (eqF_cons (by decide) pi (gx 2 _ rfl) (gy 2 _ rfl) (run_equalIn_int w 9998 i .i64 .i64 _ _ hi) (eqF_cons (by decide) pe (gx 3 _ rfl) (gy 3 _ rfl) (run_equalIn_int w 9998 e .i64 .i64 _ _ he) (eqF_cons (by decide) pi (gx 4 _ rfl) (gy 4 _ rfl) (run_equalIn_int w 9998 i .i64 .i64 _ _ hi) (eqF_cons (by decide) ps (gx 5 _ rfl) (gy 5 _ rfl) (run_equalIn_string w 9998 s _ _ hs) (eqF_cons (by decide) ps (gx 6 _ rfl) (gy 6 _ rfl) (run_equalIn_string w 9998 s _ _ hs) (eqF_arr (by decide) hA.1 hsz hsum)))))))]
  congr 1
  rw [toList_beq, toList_beq, Bool.eq_iff_iff]
  cases x; cases y
  simp
section
variable {P : Program} {V : World → PH → Prop} {Γ : Nat → Rep} {o : Oper} {t t' e i s a u : TypeId} {x y : Operand}
theorem entry_eql {p q : Entry} (ho : o.op = .binOp .eql t x y t') (hT : EnT P t i e s a u) (hx : Ent (opd Γ x) (kEntry.rep p)) (hy : Ent (opd Γ y) (kEntry.rep q)) : OpC P V o Γ (plain (Rep.is (.bool (decide (p = q))))) := OpC.pure fun A w h hp hop => by
  obtain ⟨xs, ex, kx⟩ := agg_of rfl (hx _ _ (hop x (by simp [ho, Op.operands])))
  obtain ⟨ys, ey, ky⟩ := agg_of rfl (hy _ _ (hop y (by simp [ho, Op.operands])))
  refine ⟨_, ?_, rfl⟩
  simp only [execOp, ho]
  rw [ex, ey]
  refine run_v ?_
  simp only [Sem.run_bind, run_eqGuard_agg w _ _ _ _ _ _ hT.2.2.1, Result.andThen_ok, run_eql_struct, entry_equal hT kx ky]
end
section
variable {P : Program} {V : World → PH → Prop} {Γ : Nat → Rep} {o : Oper} {t t' e i s b : TypeId} {x y : Operand}
/-- An element of a package-level table. -/
theorem op_indexG {α : Type} {k : Kind α} {xs : List α} {n g : Nat} {ik : IntKind} {j : Int} (d : α) (ho : o.op = .indexAddr t (.global g) y) (ht : ArT P t n e k.sz) (hg : ∀ h, PLe tab h → (ptr ((kArr n k).fp xs)).p h (.pointer (some ⟨g, 0, none⟩))) (hy : Ent (opd Γ y) (Rep.is (.int ik j))) (hj : 0 ≤ j ∧ j < n) : OpC P V o Γ (plain (ptr (k.fp (xs.getD j.toNat d)))) := OpC.pure fun A w h hp hop => by
  obtain ⟨ad, cs, he, hsp, hk, hat⟩ := hg h hp.tab
  have hi : A.eval y = _ := hy _ _ (hop y (by simp [ho, Op.operands]))
  obtain ⟨hn, hr⟩ := hk
  have hlt : j.toNat < xs.length := by omega
  obtain ⟨c', c1, c2, rfl, h4, h5, _, _⟩ := hr.split (fun x c hx => k.len hx) j.toNat hlt
  refine ⟨.pointer (some (ad.add (j.toNat * k.sz))), ?_, _, c', rfl, spot_add _ _ hsp, ?_, ?_⟩
  · simp only [execOp, ho]
    rw [show A.eval (.global g) = .pointer (some ad) from he, hi]
    refine run_v ?_
    simp [Instr.indexAt, asIntOf, run_underlying ht.1, hj.1, hj.2, run_sizeOf' ht.2.1, Instr.sureAddr]
  · simpa [Kind.fp, List.getD, hlt] using h5
  · rw [← h4]; exact (hat.right hsp).left
end
def ofTab : List Int := [0, 15, 49, 48, 2, 64, 128, 48, 16]
theorem of_ptr (h : PH) (hl : PLe tab h) : (ptr ((kArr 9 (kI .u64)).fp ofTab)).p h (.pointer (some ⟨0, 0, none⟩)) := by
  refine ⟨_, [.int .u64 0, .int .u64 15, .int .u64 49, .int .u64 48, .int .u64 2, .int .u64 64, .int .u64 128, .int .u64 48, .int .u64 16], rfl, rfl, ⟨rfl, ?_⟩, fun j u hu => hl _ _ ?_⟩
  · exact Rows.cons (c := [_]) rfl (Rows.cons (c := [_]) rfl (Rows.cons (c := [_]) rfl (Rows.cons (c := [_]) rfl (Rows.cons (c := [_]) rfl (Rows.cons (c := [_]) rfl (Rows.cons (c := [_]) rfl (Rows.cons (c := [_]) rfl (Rows.cons (c := [_]) rfl .nil))))))))
  · rw [Addr.add_lit, Nat.zero_add]
    have hj := (List.getElem?_eq_some_iff.1 hu).1
    simp only [List.length_cons, List.length_nil] at hj
    match j, hj with
    | 0, _ => exact hu
    | 1, _ => exact hu
    | 2, _ => exact hu
    | 3, _ => exact hu
    | 4, _ => exact hu
    | 5, _ => exact hu
    | 6, _ => exact hu
    | 7, _ => exact hu
    | 8, _ => exact hu
/-! #### the first of a list -/
def idxF {α : Type} (p : α → Bool) (l : List α) : Int := match l.findIdx? p with | some i => i | none => -1
theorem any_take_step {α : Type} {p : α → Bool} {l : List α} {k : Nat} {d : α} (h : (l.take k).any p = false) (hk : k < l.length) (hp : p (l.getD k d) = false) : (l.take (k + 1)).any p = false := by
  have : l.getD k d = l[k] := by simp [List.getD, hk]
  rw [this] at hp
  rw [List.take_succ_eq_append_getElem hk, List.any_append, h]; simp [hp]
theorem idx_hit {α : Type} {p : α → Bool} {l : List α} {k : Nat} {d : α} (h : (l.take k).any p = false) (hk : k < l.length) (hp : p (l.getD k d) = true) : (k : Int) = idxF p l := by
  have e : l.getD k d = l[k] := by simp [List.getD, hk]
  rw [e] at hp
  have : l.findIdx? p = some k := by
    rw [List.findIdx?_eq_some_iff_getElem]
    refine ⟨hk, hp, fun j hj => ?_⟩
    have h1 := List.any_eq_false.1 h l[j] (by
      rw [List.mem_take_iff_getElem]
      exact ⟨j, by omega, rfl⟩)
    simpa using h1
  simp [idxF, this]
theorem idx_none {α : Type} {p : α → Bool} {l : List α} {k : Nat} (h : (l.take k).any p = false) (hk : l.length ≤ k) : (-1 : Int) = idxF p l := by
  rw [List.take_of_length_le hk] at h
  have : l.findIdx? p = none := by
    rw [List.findIdx?_eq_none_iff]
    intro x hx
    have := List.any_eq_false.1 h x hx
    simpa using this
  simp [idxF, this]
theorem idx_any {α : Type} (p : α → Bool) (l : List α) : decide (0 ≤ idxF p l) = l.any p := by
  unfold idxF
  cases hf : l.findIdx? p with
  | none =>
    rw [List.findIdx?_eq_none_iff] at hf
    have : l.any p = false := List.any_eq_false.2 (fun x hx => by simp [hf x hx])
    rw [this]; rfl
  | some i =>
    rw [List.findIdx?_eq_some_iff_getElem] at hf
    obtain ⟨h1, h2, _⟩ := hf
    have : l.any p = true := List.any_eq_true.2 ⟨_, List.getElem_mem h1, h2⟩
    rw [this]; simp
end Go.Proofs.YtdioiepkbolnlaaGreatDoor
