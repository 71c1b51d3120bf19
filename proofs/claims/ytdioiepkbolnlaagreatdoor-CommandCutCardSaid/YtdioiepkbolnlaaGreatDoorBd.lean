/- Literals of structs and slices; strings and bytes; made slices. Nothing of the program is in it. -/
import Derived.Test.YtdioiepkbolnlaaGreatDoorRes
set_option linter.unusedSimpArgs false
set_option linter.unusedVariables false
namespace Go.Proofs.YtdioiepkbolnlaaGreatDoor
open Go.RowKit

def PartsE (Γ : Nat → Rep) (pl : Nat → Option (Nat × Nat)) : List FP → List (Nat × Operand) → List FP → Prop
  | l, [], l' => l' = l
  | l, (i, x) :: ps, l' => ∃ g0 g, l[i]? = some g0 ∧ g.n = g0.n ∧ Ent (opd Γ x) g.rep ∧ pl i = some (fsum (l.take i), g.n) ∧ PartsE Γ pl (l.set i g) ps l'
theorem foldl_set (off : Nat) : ∀ (vs : List Value) (j : Nat) (cells : Array Value), off + j + vs.length ≤ cells.size →
    ((vs.zipIdx j).foldl (fun cs (p : Value × Nat) => cs.setIfInBounds (off + p.2) p.1) cells).toList = cells.toList.take (off + j) ++ vs ++ cells.toList.drop (off + j + vs.length)
  | [], j, cells, _ => by simp
  | v :: vs, j, cells, h => by
    simp only [List.zipIdx_cons, List.foldl_cons]
    simp only [List.length_cons] at h
    rw [foldl_set off vs (j + 1) _ (by simp; omega)]
    simp only [Array.toList_setIfInBounds, List.length_cons]
    have hj : off + j < cells.toList.length := by rw [Array.length_toList]; omega
    rw [List.set_eq_take_append_cons_drop, if_pos hj]
    have e1 : (cells.toList.take (off + j) ++ v :: cells.toList.drop (off + j + 1)).take (off + (j + 1)) = cells.toList.take (off + j) ++ [v] := by
      rw [List.take_append, List.take_of_length_le (by simp; omega), List.length_take, Nat.min_eq_left (by omega), show off + (j + 1) - (off + j) = 1 by omega]; simp
    have e2 : (cells.toList.take (off + j) ++ v :: cells.toList.drop (off + j + 1)).drop (off + (j + 1) + vs.length) = cells.toList.drop (off + j + (vs.length + 1)) := by
      rw [List.drop_append, List.drop_of_length_le (by simp; omega), List.length_take, Nat.min_eq_left (by omega), show off + (j + 1) + vs.length - (off + j) = vs.length + 1 by omega]
      simp; congr 1; omega
    rw [e1, e2]; simp
theorem foldl_arr (off : Nat) (v : Array Value) (cells : Array Value) (h : off + v.size ≤ cells.size) :
    (v.zipIdx.foldl (fun cs (p : Value × Nat) => cs.setIfInBounds (off + p.2) p.1) cells).toList = cells.toList.take off ++ v.toList ++ cells.toList.drop (off + v.size) := by
  have := foldl_set off v.toList 0 cells (by simpa using h)
  rw [← Array.foldl_toList, Array.toList_zipIdx]
  simpa using this
theorem fill_rowF {Γ : Nat → Rep} {pl : Nat → Option (Nat × Nat)} {h : PH} {a : Act} : ∀ (ps : List (Nat × Operand)) (l l' : List FP) (cells : Array Value), RowF h l cells.toList → PartsE Γ pl l ps l' → (∀ p ∈ ps, (opd Γ p.2).p h (a.eval p.2)) →
    ∃ cells', Instr.fill pl cells (ps.map fun (i, x) => (i, a.eval x)) = some cells' ∧ RowF h l' cells'.toList
  | [], l, l', cells, hr, he, _ => ⟨cells, rfl, by rw [show l' = l from he]; exact hr⟩
  | (i, x) :: ps, l, l', cells, hr, he, ho => by
    obtain ⟨g0, g, h1, h2, h3, h4, h5⟩ := he
    have hv : g.V h (a.eval x) := h3 _ _ (ho (i, x) List.mem_cons_self)
    have hc := hv.cells
    have hlen : (a.eval x).cells.size = g.n := by rw [← g.len hc]; simp
    obtain ⟨c, c1, c2, e, e1, e2, e3, e4⟩ := hr.split i g0 h1
    have hsz : cells.size = c1.length + (c.length + c2.length) := by rw [← Array.length_toList, e]; simp
    have hcl := g0.len e2
    have hfit : fsum (l.take i) + (a.eval x).cells.size ≤ cells.size := by omega
    have hrow : RowF h (l.set i g) ((a.eval x).cells.zipIdx.foldl (fun cs (p : Value × Nat) => cs.setIfInBounds (fsum (l.take i) + p.2) p.1) cells).toList := by
      rw [foldl_arr _ _ _ hfit, e, ← e1, List.take_left' rfl, ← List.append_assoc c1 c c2, List.drop_left' (by simp [hcl, hlen, h2]), List.set_eq_take_append_cons_drop, if_pos (List.getElem?_eq_some_iff.1 h1).1, List.append_assoc]
      exact e3.append (.cons hc e4)
    obtain ⟨cells', h6, h7⟩ := fill_rowF ps (l.set i g) l' _ hrow h5 (fun p hp => ho p (List.mem_cons_of_mem _ hp))
    refine ⟨cells', ?_, h7⟩
    simp only [List.map_cons, Instr.fill, h4]
    rw [if_neg (by simp [hlen]; omega)]
    exact h6
section
variable {P : Program} {V : World → PH → Prop} {Γ : Nat → Rep} {o : Oper} {t e : TypeId} {x y : Operand}
/-- A struct's literal. -/
theorem op_build {f : FP} {parts : Array (Nat × Operand)} {pl : Nat → Option (Nat × Nat)} {zc : Array Value} {l0 l' : List FP} (ho : o.op = .build t parts) (hb : ∀ ps, P.built t ps = Instr.fill pl zc ps) (hz : ∀ h, RowF h l0 zc.toList) (hp : PartsE Γ pl l0 parts.toList l') (hf : ∀ h cs, RowF h l' cs → f.K h cs) (ha : f.agg = true) : OpC P V o Γ (plain f.rep) := OpC.pure fun A w h hpub hop => by
  obtain ⟨cells, h1, h2⟩ := fill_rowF (a := A) parts.toList l0 l' zc (hz h) hp (fun p hp => hop p.2 (by
    simp only [ho, Op.operands, List.toList_toArray, List.mem_map]
    exact ⟨p, by simpa using hp, rfl⟩))
  refine ⟨.agg cells, ?_, .inl ⟨ha, cells, rfl, hf h _ h2⟩⟩
  simp only [execOp, ho]
  refine run_v (run_build (P := P) w t _ cells ?_)
  rw [hb]
  simpa using h1
def anyF (n : Nat) : FP := ⟨n, true, fun e => (by cases e), fun _ cs => cs.length = n ∧ ∀ u ∈ cs, u.oneCell' = true, fun e => e.1, fun e => e.2, fun _ e => e⟩
theorem RowF.anys (h : PH) (n : Nat) : ∀ (m : Nat) (cs : List Value), cs.length = m * n → (∀ u ∈ cs, u.oneCell' = true) → RowF h (List.replicate m (anyF n)) cs
  | 0, cs, hl, _ => by
    have : cs = [] := List.eq_nil_of_length_eq_zero (by simpa using hl)
    subst this; exact .nil
  | m + 1, cs, hl, h1 => by
    rw [← List.take_append_drop n cs, List.replicate_succ]
    have hl' : n ≤ cs.length := by rw [hl, Nat.add_mul]; omega
    exact .cons ⟨by simp [hl'], fun u hu => h1 u (List.mem_of_mem_take hu)⟩ (RowF.anys h n m _ (by rw [List.length_drop, hl, Nat.add_mul]; omega) (fun u hu => h1 u (List.mem_of_mem_drop hu)))
theorem RowF.rows {α : Type} {k : Kind α} {h : PH} : ∀ {xs : List α} {cs : List Value}, RowF h (xs.map k.fp) cs → Rows (k.K h) xs cs
  | [], _, e => by cases e; exact .nil
  | x :: xs, _, e => by
    cases e with
    | cons hx hr => exact .cons hx (RowF.rows hr)
/-- A slice's literal. -/
theorem op_slit {α : Type} {k : Kind α} {xs : List α} {n : Nat} {z : Value} {parts : Array (Nat × Operand)} (ho : o.op = .buildSlice t n parts) (ht : P.underlying t = some (.slice e)) (hs : (P.info? e).map (·.size) = some k.sz) (hz : ∀ w, (zeroValue e).run P w = .ok z w) (hz1 : z.cells.toList.all (·.oneCell') = true) (hzs : z.cells.size = k.sz) (hn : 0 < n * k.sz) (hbig : n * k.sz ≤ 2 ^ 24) (hxs : xs.length = n)
    (hp : PartsE Γ (fun i => some (i * k.sz, k.sz)) (List.replicate n (anyF k.sz)) parts.toList (xs.map k.fp)) : OpC P V o Γ (plain ((kSl k).rep xs)) := OpC.of fun A w h hpub _ hop => by
  have hksz : 0 < k.sz := Nat.pos_of_mul_pos_left hn
  have h0 : RowF h (List.replicate n (anyF k.sz)) ((Array.range (n * k.sz)).map (fun j => z.cells[j % z.cells.size]!)).toList := by
    refine RowF.anys h k.sz n _ (by simp) (fun u hu => ?_)
    simp only [Array.toList_map, List.mem_map] at hu
    obtain ⟨j, _, rfl⟩ := hu
    have hlt : j % z.cells.size < z.cells.size := Nat.mod_lt _ (by omega)
    have := (List.all_eq_true.1 hz1) (z.cells[j % z.cells.size]) (by simp)
    simpa [hlt] using this
  obtain ⟨cells, h1, h2⟩ := fill_rowF (a := A) parts.toList _ _ _ h0 hp (fun p hp => hop p.2 (by
    simp only [ho, Op.operands, List.toList_toArray, List.mem_map]
    exact ⟨p, by simpa using hp, rfl⟩))
  have hst := Step.pubRow hpub cells e
  refine ⟨.slice (some ⟨w.heap.size, 0, none⟩) n n, _, _, ?_, hst, ?_⟩
  · simp only [execOp, ho]
    refine run_v ?_
    have h3 : ((parts.map fun (i, x) => (i, A.eval x)).toList) = parts.toList.map fun (i, x) => (i, A.eval x) := by simp
    have hne : ¬ n * k.sz = 0 := by omega
    have hnb : ¬ 16777216 < n * k.sz := by simpa using hbig
    simp only [Instr.buildSlice, run_underlying ht, run_sizeOf' hs, Sem.run_bind, Result.andThen_ok]
    simp [hne, hnb, hz, h3, h1, newRow]
  · rw [← hxs]
    exact sl_mk (Nat.le_refl _) (by rw [hxs]; have : n ≤ n * k.sz := Nat.le_mul_of_pos_right n hksz
                                    omega) (fun _ => ⟨_, cells.toList, rfl, rfl, (RowF.rows h2).imp (fun x c hx => k.mono hst.le hx), At.pubRow _ _ _⟩)
end
end Go.Proofs.YtdioiepkbolnlaaGreatDoor
