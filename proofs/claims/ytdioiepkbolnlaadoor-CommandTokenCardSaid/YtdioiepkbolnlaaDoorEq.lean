/- Structs held against each other; package-level tables; the first of a list that .. . Nothing of the program is in it. -/
import Derived.Test.YtdioiepkbolnlaaDoorNc
import Derived.Laws.StructEq
import Derived.ChangeKeysEq
set_option linter.unusedSimpArgs false
set_option linter.unusedVariables false
namespace Go.Proofs.YtdioiepkbolnlaaDoor
open Go.RowKit
def eqF (d : Nat) (xs ys : Array Value) : List (String × TypeId × Nat) → Sem Bool
  | [] => pure true
  | (n, t, o) :: fs =>
    if n ≠ "_" then do
      let a ← part t xs o
      let b ← part t ys o
      let r ← Op.equalIn d t a b
      if (!r) = true then pure false else eqF d xs ys fs
    else eqF d xs ys fs
theorem eqF_of (d : Nat) (xs ys : Array Value) : ∀ fs : List Field, Op.eqFields d xs ys fs = eqF d xs ys (fs.map fun f => (f.name, f.type, f.offset))
  | [] => rfl
  | f :: fs => by simp only [Op.eqFields, eqF, List.map_cons, eqF_of d xs ys fs]
section
variable {P : Program} {w : World} {d : Nat} {xs ys : Array Value} {t : TypeId} {n : String} {o : Nat} {fs : List (String × TypeId × Nat)}
theorem eqF_nil : (eqF d xs ys []).run P w = .ok true w := rfl
theorem eqF_cons {a b : Value} {r : Bool} (hn : n ≠ "_") (ht : P.plainKey t = true) (ha : xs[o]? = some a) (hb : ys[o]? = some b) (hr : (Op.equalIn d t a b).run P w = .ok r w) {q : Bool} (hq : (eqF d xs ys fs).run P w = .ok q w) : (eqF d xs ys ((n, t, o) :: fs)).run P w = .ok (r && q) w := by
  simp only [eqF, hn, ne_eq, not_false_eq_true, if_true, Sem.run_bind, run_part_plain w ht ha, run_part_plain w ht hb, Result.andThen_ok, hr]
  cases r <;> simp [hq]
end
theorem grant_cells {h : PH} {a : Grant} {xs : Array Value} (hx : (kGrant.fp a).K h xs.toList) : xs = #[.int .i64 a.rts, .string a.pre, .bool a.exa, .int .i64 a.unt] := by
  have hx : RowF h (kGrantF a) xs.toList := hx
  unfold kGrantF at hx
  apply Array.toList_inj.1
  generalize xs.toList = l at hx
  cases hx with
  | cons h1 hx => cases hx with
    | cons h2 hx => cases hx with
      | cons h3 hx => cases hx with
        | cons h4 hx =>
          cases hx
          have e1 : _ = _ := h1
          have e2 : _ = _ := h2
          have e3 : _ = _ := h3
          have e4 : _ = _ := h4
          rw [e1, e2, e3, e4]; rfl
theorem toList_beq (a b : ByteArray) : (a.toList == b.toList) = decide (a = b) := toList_dec a b
/-- What the program's type of grants is. -/
def GrT (P : Program) (t i s b : TypeId) : Prop := P.underlying t = some (.struct (P.fieldsOf t)) ∧ P.stoodInHeld t = false ∧ P.eqGuardType P.depth t = false ∧ (P.fieldsOf t).toList.map (fun f => (f.name, f.type, f.offset)) = [("Rights", i, 0), ("Prefix", s, 1), ("Exact", b, 2), ("Until", i, 3)] ∧ P.underlying i = some (.int .i64) ∧ P.underlying s = some .string ∧ P.underlying b = some .bool ∧ P.plainKey i = true ∧ P.plainKey s = true ∧ P.plainKey b = true
theorem grant_equal {P : Program} {t i s b : TypeId} (hT : GrT P t i s b) {h : PH} {x y : Grant} {xs ys : Array Value} (hx : (kGrant.fp x).K h xs.toList) (hy : (kGrant.fp y).K h ys.toList) (w : World) : (Op.equalIn 10000 t (.agg xs) (.agg ys)).run P w = .ok (decide (x = y)) w := by
  obtain ⟨h1, h2, _, h3, hi, hs, hb, pi, ps, pb⟩ := hT
  rw [grant_cells hx, grant_cells hy, run_equalIn_struct w 9999 t _ _ h1 h2, eqF_of, h3]
  rw [eqF_cons (by decide) pi rfl rfl (run_equalIn_int w 9998 i .i64 .i64 _ _ hi) (eqF_cons (by decide) ps rfl rfl (run_equalIn_string w 9998 s _ _ hs) (eqF_cons (by decide) pb rfl rfl (run_equalIn_bool' w 9998 b _ _ hb) (eqF_cons (by decide) pi rfl rfl (run_equalIn_int w 9998 i .i64 .i64 _ _ hi) eqF_nil)))]
  congr 1
  rw [toList_beq, Bool.eq_iff_iff]
  cases x; cases y
  simp
section
variable {P : Program} {V : World → PH → Prop} {Γ : Nat → Rep} {o : Oper} {t t' e i s b : TypeId} {x y : Operand}
theorem agg_of {f : FP} {h : PH} {v : Value} (ha : f.agg = true) (e : f.V h v) : ∃ cs, v = .agg cs ∧ f.K h cs.toList := by
  rcases e with ⟨_, cs, e, hk⟩ | ⟨e, _⟩
  · exact ⟨cs, e, hk⟩
  · rw [ha] at e; cases e
theorem grant_eql {a c : Grant} (ho : o.op = .binOp .eql t x y t') (hT : GrT P t i s b) (hx : Ent (opd Γ x) (kGrant.rep a)) (hy : Ent (opd Γ y) (kGrant.rep c)) : OpC P V o Γ (plain (Rep.is (.bool (decide (a = c))))) := OpC.pure fun A w h hp hop => by
  obtain ⟨xs, ex, kx⟩ := agg_of rfl (hx _ _ (hop x (by simp [ho, Op.operands])))
  obtain ⟨ys, ey, ky⟩ := agg_of rfl (hy _ _ (hop y (by simp [ho, Op.operands])))
  refine ⟨_, ?_, rfl⟩
  simp only [execOp, ho]
  rw [ex, ey]
  refine run_v ?_
  simp only [Sem.run_bind, run_eqGuard_agg w _ _ _ _ _ _ hT.2.2.1, Result.andThen_ok, run_eql_struct, grant_equal hT kx ky]
theorem grant_neq {a c : Grant} (ho : o.op = .binOp .neq t x y t') (hT : GrT P t i s b) (hx : Ent (opd Γ x) (kGrant.rep a)) (hy : Ent (opd Γ y) (kGrant.rep c)) : OpC P V o Γ (plain (Rep.is (.bool (!decide (a = c))))) := OpC.pure fun A w h hp hop => by
  obtain ⟨xs, ex, kx⟩ := agg_of rfl (hx _ _ (hop x (by simp [ho, Op.operands])))
  obtain ⟨ys, ey, ky⟩ := agg_of rfl (hy _ _ (hop y (by simp [ho, Op.operands])))
  refine ⟨_, ?_, rfl⟩
  simp only [execOp, ho]
  rw [ex, ey]
  refine run_v ?_
  simp only [Sem.run_bind, run_eqGuard_agg w _ _ _ _ _ _ hT.2.2.1, Result.andThen_ok, run_neq_struct, grant_equal hT kx ky]
end
/-! #### arrays of bytes -/
theorem rows_u8 {h : PH} {xs : List UInt8} {cs : List Value} (r : Rows (kU8.K h) xs cs) : cs = xs.map bv := by
  induction r with
  | nil => rfl
  | @cons x l c cs hx _ ih => rw [ih, show c = [bv x] from hx]; rfl
def ArEq (P : Program) (t e n : Nat) : Prop := P.underlying t = some (.array n e) ∧ (P.info? e).isSome = true ∧ P.cellsOf e = 1 ∧ P.plainKey e = true ∧ P.underlying e = some (.int .u8) ∧ P.eqGuardType P.depth t = false
section
variable {P : Program} {w : World}
theorem items_u8 {e : TypeId} (he : P.plainKey e = true) (hu : P.underlying e = some (.int .u8)) {d : Nat} {us qs : List UInt8} {xs ys : Array Value} (hx : xs.toList = us.map bv) (hy : ys.toList = qs.map bv) : ∀ is : List Nat, (∀ i ∈ is, i < us.length ∧ i < qs.length) → (Op.eqItems (d + 1) e 1 xs ys is).run P w = .ok (is.all fun i => decide (us.getD i 0 = qs.getD i 0)) w
  | [], _ => rfl
  | i :: is, hi => by
    obtain ⟨h1, h2⟩ := hi i List.mem_cons_self
    have e1 : xs[i * 1]? = some (bv (us.getD i 0)) := by rw [Nat.mul_one, ← Array.getElem?_toList, hx]; simp [List.getD, h1]
    have e2 : ys[i * 1]? = some (bv (qs.getD i 0)) := by rw [Nat.mul_one, ← Array.getElem?_toList, hy]; simp [List.getD, h2]
    simp only [Op.eqItems, Sem.run_bind, run_part_plain w he e1, run_part_plain w he e2, Result.andThen_ok, run_equalIn_int w d e .u8 .u8 _ _ hu]
    have hb : (((us.getD i 0).toNat : Int) == ((qs.getD i 0).toNat : Int)) = decide (us.getD i 0 = qs.getD i 0) := by
      rw [Bool.eq_iff_iff]; simp only [beq_iff_eq, decide_eq_true_eq]
      exact ⟨fun h => UInt8.toNat_inj.1 (by omega), fun h => by rw [h]⟩
    rw [hb, List.all_cons]
    by_cases hd : us.getD i 0 = qs.getD i 0
    · simp only [hd, decide_true, Bool.not_true, Bool.false_eq_true, if_false, Bool.true_and]
      exact items_u8 he hu hx hy is (fun j hj => hi j (List.mem_cons_of_mem _ hj))
    · simp only [decide_eq_false hd, Bool.not_false, if_true, Bool.false_and, Sem.run_pure]
theorem range_all {us qs : List UInt8} {n : Nat} (ha : us.length = n) (hb : qs.length = n) : ((List.range n).all fun i => decide (us.getD i 0 = qs.getD i 0)) = decide (us = qs) := by
  rw [Bool.eq_iff_iff, List.all_eq_true]
  simp only [List.mem_range, decide_eq_true_eq]
  refine ⟨fun h => List.ext_getElem (by omega) (fun i h1 h2 => ?_), fun h i _ => by rw [h]⟩
  have := h i (by omega)
  simpa [List.getD, h1, h2] using this
theorem arr_equal {t e n : Nat} (hT : ArEq P t e n) {h : PH} {x y : List UInt8} {xs ys : Array Value} (hx : ((kArr n kU8).fp x).K h xs.toList) (hy : ((kArr n kU8).fp y).K h ys.toList) : (Op.equalIn 10000 t (.agg xs) (.agg ys)).run P w = .ok (decide (x = y)) w := by
  obtain ⟨h1, h2, h3, h4, h5, _⟩ := hT
  obtain ⟨i, hi⟩ := Option.isSome_iff_exists.1 h2
  rw [run_equalIn_array w 9999 xs ys h1 hi, h3, items_u8 h4 h5 (rows_u8 hx.2) (rows_u8 hy.2) _ (fun i hi => ?_), range_all hx.1 hy.1]
  have := List.mem_range.1 hi
  have := hx.1; have := hy.1
  omega
end
section
variable {P : Program} {V : World → PH → Prop} {Γ : Nat → Rep} {o : Oper} {t t' e n : TypeId} {x y : Operand}
theorem arr_eql {a c : List UInt8} (ho : o.op = .binOp .eql t x y t') (hT : ArEq P t e n) (hx : Ent (opd Γ x) ((kArr n kU8).rep a)) (hy : Ent (opd Γ y) ((kArr n kU8).rep c)) : OpC P V o Γ (plain (Rep.is (.bool (decide (a = c))))) := OpC.pure fun A w h hp hop => by
  obtain ⟨xs, ex, kx⟩ := agg_of rfl (hx _ _ (hop x (by simp [ho, Op.operands])))
  obtain ⟨ys, ey, ky⟩ := agg_of rfl (hy _ _ (hop y (by simp [ho, Op.operands])))
  refine ⟨_, ?_, rfl⟩
  simp only [execOp, ho]
  rw [ex, ey]
  refine run_v ?_
  simp only [Sem.run_bind, run_eqGuard_agg w _ _ _ _ _ _ hT.2.2.2.2.2, Result.andThen_ok, run_eql_struct, arr_equal hT kx ky]
theorem arr_neq {a c : List UInt8} (ho : o.op = .binOp .neq t x y t') (hT : ArEq P t e n) (hx : Ent (opd Γ x) ((kArr n kU8).rep a)) (hy : Ent (opd Γ y) ((kArr n kU8).rep c)) : OpC P V o Γ (plain (Rep.is (.bool (!decide (a = c))))) := OpC.pure fun A w h hp hop => by
  obtain ⟨xs, ex, kx⟩ := agg_of rfl (hx _ _ (hop x (by simp [ho, Op.operands])))
  obtain ⟨ys, ey, ky⟩ := agg_of rfl (hy _ _ (hop y (by simp [ho, Op.operands])))
  refine ⟨_, ?_, rfl⟩
  simp only [execOp, ho]
  rw [ex, ey]
  refine run_v ?_
  simp only [Sem.run_bind, run_eqGuard_agg w _ _ _ _ _ _ hT.2.2.2.2.2, Result.andThen_ok, run_neq_struct, arr_equal hT kx ky]
end
section
variable {P : Program} {V : World → PH → Prop} {Γ : Nat → Rep} {o : Oper} {t t' e i s b : TypeId} {x y : Operand}
/-- An element of a package-level table. -/
theorem op_indexG {α : Type} {k : Kind α} {xs : List α} {n g : Nat} {ik : IntKind} {j : Int} (d : α) (ho : o.op = .indexAddr t (.global g) y) (ht : ArT P t n e k.sz) (hg : ∀ h, PLe tab h → (ptr ((kArr n k).fp xs)).p h (.pointer (some ⟨g, 0, none⟩))) (hy : Ent (opd Γ y) (Rep.is (.int ik j))) (hj : 0 ≤ j ∧ j < n) : OpC P V o Γ (plain (ptr (k.fp (xs.getD j.toNat d)))) := OpC.pure fun A w h hp hop => by
  obtain ⟨ad, cs, he, hsp, hk, hat⟩ := hg h hp.tab
  have hi : A.eval y = _ := hy _ _ (hop y (by simp [ho, Op.operands]))
  obtain ⟨hn, hr⟩ := hk
  have hlt : j.toNat < xs.length := by omega
  obtain ⟨c', c1, c2, rfl, h4, h5, _, _⟩ := hr.split (fun x c hx => k.len hx) j.toNat hlt
  refine ⟨.pointer (some (ad.add (j.toNat * k.sz))), ?_, _, c', rfl, spot_add _ _ hsp, ?_, ?_⟩
  · simp only [execOp, ho]
    rw [show A.eval (.global g) = .pointer (some ad) from he, hi]
    refine run_v ?_
    simp [Instr.indexAt, asIntOf, run_underlying ht.1, hj.1, hj.2, run_sizeOf' ht.2.1, Instr.sureAddr]
  · simpa [Kind.fp, List.getD, hlt] using h5
  · rw [← h4]; exact (hat.right hsp).left
end
def ofTab : List Int := [0, 15, 49, 48, 2, 64, 128, 48, 16]
theorem of_ptr (h : PH) (hl : PLe tab h) : (ptr ((kArr 9 (kI .u64)).fp ofTab)).p h (.pointer (some ⟨0, 0, none⟩)) := by
  refine ⟨_, [.int .u64 0, .int .u64 15, .int .u64 49, .int .u64 48, .int .u64 2, .int .u64 64, .int .u64 128, .int .u64 48, .int .u64 16], rfl, rfl, ⟨rfl, ?_⟩, fun j u hu => hl _ _ ?_⟩
  · exact Rows.cons (c := [_]) rfl (Rows.cons (c := [_]) rfl (Rows.cons (c := [_]) rfl (Rows.cons (c := [_]) rfl (Rows.cons (c := [_]) rfl (Rows.cons (c := [_]) rfl (Rows.cons (c := [_]) rfl (Rows.cons (c := [_]) rfl (Rows.cons (c := [_]) rfl .nil))))))))
  · rw [Addr.add_lit, Nat.zero_add]
    have hj := (List.getElem?_eq_some_iff.1 hu).1
    simp only [List.length_cons, List.length_nil] at hj
    match j, hj with
    | 0, _ => exact hu
    | 1, _ => exact hu
    | 2, _ => exact hu
    | 3, _ => exact hu
    | 4, _ => exact hu
    | 5, _ => exact hu
    | 6, _ => exact hu
    | 7, _ => exact hu
    | 8, _ => exact hu
/-! #### the first of a list -/
def idxF {α : Type} (p : α → Bool) (l : List α) : Int := match l.findIdx? p with | some i => i | none => -1
theorem any_take_step {α : Type} {p : α → Bool} {l : List α} {k : Nat} {d : α} (h : (l.take k).any p = false) (hk : k < l.length) (hp : p (l.getD k d) = false) : (l.take (k + 1)).any p = false := by
  have : l.getD k d = l[k] := by simp [List.getD, hk]
  rw [this] at hp
  rw [List.take_succ_eq_append_getElem hk, List.any_append, h]; simp [hp]
theorem idx_hit {α : Type} {p : α → Bool} {l : List α} {k : Nat} {d : α} (h : (l.take k).any p = false) (hk : k < l.length) (hp : p (l.getD k d) = true) : (k : Int) = idxF p l := by
  have e : l.getD k d = l[k] := by simp [List.getD, hk]
  rw [e] at hp
  have : l.findIdx? p = some k := by
    rw [List.findIdx?_eq_some_iff_getElem]
    refine ⟨hk, hp, fun j hj => ?_⟩
    have h1 := List.any_eq_false.1 h l[j] (by
      rw [List.mem_take_iff_getElem]
      exact ⟨j, by omega, rfl⟩)
    simpa using h1
  simp [idxF, this]
theorem idx_none {α : Type} {p : α → Bool} {l : List α} {k : Nat} (h : (l.take k).any p = false) (hk : l.length ≤ k) : (-1 : Int) = idxF p l := by
  rw [List.take_of_length_le hk] at h
  have : l.findIdx? p = none := by
    rw [List.findIdx?_eq_none_iff]
    intro x hx
    have := List.any_eq_false.1 h x hx
    simpa using this
  simp [idxF, this]
theorem idx_any {α : Type} (p : α → Bool) (l : List α) : decide (0 ≤ idxF p l) = l.any p := by
  unfold idxF
  cases hf : l.findIdx? p with
  | none =>
    rw [List.findIdx?_eq_none_iff] at hf
    have : l.any p = false := List.any_eq_false.2 (fun x hx => by simp [hf x hx])
    rw [this]; rfl
  | some i =>
    rw [List.findIdx?_eq_some_iff_getElem] at hf
    obtain ⟨h1, h2, _⟩ := hf
    have : l.any p = true := List.any_eq_true.2 ⟨_, List.getElem_mem h1, h2⟩
    rw [this]; simp
end Go.Proofs.YtdioiepkbolnlaaDoor
