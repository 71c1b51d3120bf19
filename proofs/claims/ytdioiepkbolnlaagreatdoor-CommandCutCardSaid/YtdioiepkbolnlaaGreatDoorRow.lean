/- Rows that are appended to; results. Nothing of the program is in it. -/
import Derived.Test.YtdioiepkbolnlaaGreatDoorOwn
import Derived.Deep.Upon
set_option linter.unusedSimpArgs false
set_option linter.unusedVariables false
namespace Go.Proofs.YtdioiepkbolnlaaGreatDoor
open Go.RowKit

/-- A slice of the call's own: what it has is published, what room is behind it nobody sees. -/
def rowI {α : Type} (v : Value) (k : Kind α) (e : TypeId) (xs : List α) : OI where
  B := fun b => v.ownBlock = some b
  p := fun w h => (v = .slice none 0 0 ∧ xs = []) ∨ ∃ g cap cur cs, v = .slice (some ⟨g, 0, none⟩) xs.length cap ∧ w.heap[g]? = some (.cells cur e (0, 0)) ∧ xs.length ≤ cap ∧ cap ≤ maxLen ∧ cur.size = cap * k.sz ∧ Rows (k.K h) xs cs ∧
    cur.toList.take (xs.length * k.sz) = cs ∧ (∀ j u, cs[j]? = some u → h ⟨g, j, none⟩ = some u) ∧ (∀ a u, a.block = g → h a = some u → a.spot = none ∧ a.off < xs.length * k.sz)
  fr := by
    rintro w w' h h' (⟨rfl, rfl⟩ | ⟨g, cap, cur, cs, rfl, hc, h1, h2, h3, h4, h5, h6, h7⟩) hs hb hl hn
    · exact .inl ⟨rfl, rfl⟩
    · exact .inr ⟨g, cap, cur, cs, rfl, (hb g rfl).trans hc, h1, h2, h3, h4.imp (fun x c hx => k.mono hl hx), h5, fun j u hu => hl _ _ (h6 j u hu), fun a u ha e => h7 a u ha (hn a u (by show some _ = some _; rw [ha]) e)⟩
  lt := by
    rintro w h (⟨rfl, rfl⟩ | ⟨g, cap, cur, cs, rfl, hc, _⟩) b hb
    · cases hb
    · have : g = b := by injection hb
      subst this
      exact (Array.getElem?_eq_some_iff.1 hc).1
/-- The value, and that it reads so. -/
def rv {α : Type} (v : Value) (k : Kind α) (xs : List α) : Rep := ⟨fun h u => u = v ∧ ((kSl k).rep xs).p h v, fun l e => ⟨e.1, ((kSl k).rep xs).mono l e.2⟩⟩
theorem rv_is {α : Type} (v : Value) (k : Kind α) (xs : List α) : Ent (rv v k xs) (Rep.is v) := fun h u e => e.1
theorem rv_sl {α : Type} (v : Value) (k : Kind α) (xs : List α) : Ent (rv v k xs) ((kSl k).rep xs) := fun h u e => by
  obtain ⟨rfl, e⟩ := e
  exact e
theorem row_reads {α : Type} {v : Value} {k : Kind α} {e : TypeId} {xs : List α} {w : World} {h : PH} (r : (rowI v k e xs).p w h) : ((kSl k).rep xs).p h v := by
  rcases r with ⟨rfl, rfl⟩ | ⟨g, cap, cur, cs, rfl, hc, h1, h2, h3, h4, h5, h6, h7⟩
  · exact nil_sl k _ _ rfl
  · refine sl_mk h1 (by simp only [maxLen] at h2; omega) (fun _ => ⟨_, cs, rfl, rfl, h4, fun j u hu => ?_⟩)
    have : (⟨g, 0, none⟩ : Addr).add j = ⟨g, j, none⟩ := by unfold Addr.add; split <;> simp_all
    rw [this]; exact h6 j u hu
theorem rowI_nil {α : Type} (k : Kind α) (e : TypeId) (w : World) (h : PH) : (rowI (.slice none 0 0) k e ([] : List α)).p w h := .inl ⟨rfl, rfl⟩

/-- What a block publishes: its first cells. -/
def pubL (h : PH) (g : Nat) (cs : List Value) : PH := fun a => if a.block = g ∧ a.spot = none ∧ a.off < cs.length then cs[a.off]? else h a
section
variable {P : Program} {α : Type} {k : Kind α} {xs ys : List α} {w : World} {h : PH}
theorem run_append_roomS (t tx ty e : TypeId) (i : TypeInfo) (ht : P.underlying t = some (.slice e)) (hi : P.info? e = some i) (g sLen sCap : Nat) (cur : Array Value) (hg : w.heap[g]? = some (.cells cur e (0, 0))) (x : Value) (n : Nat) (news : List Value) (hs : Src P i.size tx x n news w)
    (hroom : sLen + n ≤ sCap) (hfit : sLen * i.size + news.length ≤ cur.size) :
    (Builtin.append_ #[t, tx] ty #[.slice (some ⟨g, 0, none⟩) sLen sCap, x]).run P w = .ok (.slice (some ⟨g, 0, none⟩) (sLen + n) sCap) (w.setRow g (cur.toList.take (sLen * i.size) ++ news ++ cur.toList.drop (sLen * i.size + news.length)).toArray) := by
  have hst := run_storeCells_at P g (sLen * i.size) e news 0 cur w hg (by simpa using hfit) hs.one
  simp only [Nat.add_zero] at hst
  rcases hs.kind with ⟨e', hk⟩ | hk <;> simp [Builtin.append_, run_underlying ht, run_underlying hk, sizeOf, typeInfo, hi, hs.len, hroom, hs.cells, Addr.add_lit, hst]
/-- 'append' to a row of the call's own, of whatever is appended. -/
theorem run_append_src (t tx ty e : TypeId) (z : Value) (bytes : Nat) (ht : P.underlying t = some (.slice e)) (hi : (P.info? e).map (fun i => (i.zero, i.size, i.bytes)) = some (some z, k.sz, bytes)) (hzs : z.cells.size = k.sz) (hsz : 0 < k.sz)
    (hp : Pub h w) {v y : Value} (r : (rowI v k e xs).p w h) {ds : List Value} (hsrc : Src P k.sz tx y ys.length ds w) (hrow : Rows (k.K h) ys ds) (h63 : xs.length + ys.length ≤ 9223372036854775807) (hbytes : (xs.length + ys.length) * bytes ≤ 140737488355328) :
    ∃ v' w' h', (Builtin.append_ #[t, tx] ty #[v, y]).run P w = .ok v' w' ∧ MStep (fun b => v.ownBlock = some b) w h w' h' ∧ (rowI v' k e (xs ++ ys)).p w' h' ∧ ∀ b, v'.ownBlock = some b → v.ownBlock = some b ∨ w.heap.size ≤ b := by
  obtain ⟨i, hi2, hzz⟩ := Option.map_eq_some_iff.1 hi
  simp only [Prod.mk.injEq] at hzz
  obtain ⟨hz, hsize, hby⟩ := hzz
  rcases Nat.eq_zero_or_pos ys.length with hy0 | hy0
  · -- nothing comes
    have hys : ys = [] := List.eq_nil_of_length_eq_zero hy0
    subst hys
    rw [List.append_nil]
    have hd0 : ds = [] := List.eq_nil_of_length_eq_zero (by simpa using hsrc.newsLen)
    subst hd0
    rw [← hsize] at hsrc
    refine ⟨v, w, h, ?_, (Step.refl hp).m _, r, fun b hb => .inl hb⟩
    rcases r with ⟨rfl, rfl⟩ | ⟨g, cap, cur, cs, rfl, hc, h1, h2, h3, h4, h5, h6, h7⟩
    · exact run_append_nothing w t tx ty e i ht hi2 none 0 0 (Nat.le_refl _) y hsrc
    · exact run_append_nothing w t tx ty e i ht hi2 _ _ _ h1 y hsrc
  · have hdl := hsrc.newsLen
    have hone := hsrc.one
    -- a row grown into a new block
    have grown : ∀ (cs : List Value) (old : Nat), Rows (k.K h) xs cs → old < xs.length + ys.length → ∀ B : Nat → Prop, ∃ h',
        MStep B w h (w.drew.alloc (.cells (cs.toArray ++ ds.toArray ++ Builtin.zeroCells z.cells (grownCap w (xs.length + ys.length) old e - (xs.length + ys.length))) e)) h' ∧
        (rowI (.slice (some ⟨w.heap.size, 0, none⟩) (xs.length + ys.length) (grownCap w (xs.length + ys.length) old e)) k e (xs ++ ys)).p (w.drew.alloc (.cells (cs.toArray ++ ds.toArray ++ Builtin.zeroCells z.cells (grownCap w (xs.length + ys.length) old e - (xs.length + ys.length))) e)) h' := by
      intro cs old hcs ho B
      have hcl := hcs.length (fun x c hx => k.len hx)
      have hge := grownCap_ge w (xs.length + ys.length) old e
      have hle := grownCap_le_maxLen w (xs.length + ys.length) old e (by simp only [maxLen]; omega)
      have hb : Below w.heap.size w (w.drew.alloc (.cells (cs.toArray ++ ds.toArray ++ Builtin.zeroCells z.cells (grownCap w (xs.length + ys.length) old e - (xs.length + ys.length))) e)) := (Below.refl _ _).drew.alloc (Nat.le_refl _) _
      have hnew : (w.drew.alloc (.cells (cs.toArray ++ ds.toArray ++ Builtin.zeroCells z.cells (grownCap w (xs.length + ys.length) old e - (xs.length + ys.length))) e)).heap[w.heap.size]? = some (.cells (cs.toArray ++ ds.toArray ++ Builtin.zeroCells z.cells (grownCap w (xs.length + ys.length) old e - (xs.length + ys.length))) e) := heap_alloc_new w.drew (.cells (cs.toArray ++ ds.toArray ++ Builtin.zeroCells z.cells (grownCap w (xs.length + ys.length) old e - (xs.length + ys.length))) e)
      have hle' : PLe h (pubL h w.heap.size (cs ++ ds)) := fun a u hu => by
        have := hp.lt hu
        unfold pubL
        rw [if_neg (by omega)]; exact hu
      refine ⟨pubL h w.heap.size (cs ++ ds), Step.m ⟨hb, hle', fun a u ha hu => ?_, ⟨fun a u hu => ?_, hp.tab.trans hle'⟩⟩ B, .inr ⟨w.heap.size, _, _, cs ++ ds, by simp, hnew, by simpa using hge, hle, ?_, (hcs.append hrow).imp (fun x c hx => k.mono hle' hx), ?_, fun j u hu => ?_, fun a u ha hu => ?_⟩⟩
      · unfold pubL at hu
        rw [if_neg (by omega)] at hu; exact hu
      · unfold pubL at hu
        by_cases hc : a.block = w.heap.size ∧ a.spot = none ∧ a.off < (cs ++ ds).length
        · rw [if_pos hc] at hu
          have : a = ⟨w.heap.size, a.off, none⟩ := by cases a; simp_all
          rw [this, cell_of_row _ _ _ _ _ _ hnew]
          have h9 : (cs.toArray ++ ds.toArray ++ Builtin.zeroCells z.cells (grownCap w (xs.length + ys.length) old e - (xs.length + ys.length)))[a.off]? = (cs ++ ds)[a.off]? := by
            rw [Array.getElem?_append_left (by simpa using hc.2.2), ← Array.getElem?_toList]; simp
          rw [h9]; exact hu
        · rw [if_neg hc] at hu
          exact (hb.cell (hp.lt hu)).trans (hp a u hu)
      · simp only [Array.size_append, List.size_toArray, size_zeroCells, hzs, hcl, hdl, ← Nat.add_mul]
        congr 1; omega
      · simp only [Array.toList_append, List.append_assoc, List.length_append]
        rw [← List.append_assoc, List.take_left' (by simp [hcl, hdl, Nat.add_mul])]
      · unfold pubL
        have := (List.getElem?_eq_some_iff.1 hu).1
        rw [if_pos ⟨rfl, rfl, this⟩]; exact hu
      · unfold pubL at hu
        by_cases hc : a.block = w.heap.size ∧ a.spot = none ∧ a.off < (cs ++ ds).length
        · exact ⟨hc.2.1, by have := hc.2.2; simp only [List.length_append, hcl, hdl, ← Nat.add_mul] at this; simpa using this⟩
        · rw [if_neg hc] at hu
          have := hp.lt hu; omega
    subst hby
    have hsrc' : Src P i.size tx y ys.length ds w := by rw [hsize]; exact hsrc
    rcases r with ⟨rfl, rfl⟩ | ⟨g, cap, cur, cs, rfl, hc, h1, h2, h3, h4, h5, h6, h7⟩
    · obtain ⟨h', m, rr⟩ := grown [] 0 .nil (by simpa using hy0) (fun b => Value.ownBlock (.slice none 0 0) = some b)
      have hr := run_append_grow_src (P := P) w t tx ty e i z ht hi2 hz none 0 0 [] (by simp [Builtin.firstCells]) y ys.length ds hsrc' (by omega) (by omega) (by rw [Nat.zero_add, nextslicecap_zero hy0]; simp only [List.length_nil, Nat.zero_add] at hbytes; omega)
      simp only [Nat.zero_add, List.nil_append] at hr
      simp only [List.length_nil, Nat.zero_add, Array.empty_append, List.nil_append] at m rr
      exact ⟨_, _, h', hr, by simpa using m, by simpa using rr, fun b hb => .inr (Nat.le_of_eq (Option.some.inj (show some w.heap.size = some b from hb)))⟩
    · by_cases hroom : xs.length + ys.length ≤ cap
      · have hcl := h4.length (fun x c hx => k.len hx)
        have hfit : xs.length * k.sz + ds.length ≤ cur.size := by rw [hdl, h3, ← Nat.add_mul]; exact Nat.mul_le_mul_right _ hroom
        have hr := run_append_roomS (P := P) t tx ty e i ht hi2 g xs.length cap cur hc y ys.length ds hsrc' hroom (by rw [hsize]; exact hfit)
        rw [hsize] at hr
        have hsz2 : (cur.toList.take (xs.length * k.sz) ++ ds ++ cur.toList.drop (xs.length * k.sz + ds.length)).toArray.size = cur.size := by
          simp only [List.size_toArray, List.length_append, List.length_take, List.length_drop, Array.length_toList]
          omega
        have hle' : PLe h (pubL h g (cs ++ ds)) := fun a u hu => by
          unfold pubL
          by_cases hcc : a.block = g ∧ a.spot = none ∧ a.off < (cs ++ ds).length
          · rw [if_pos hcc]
            obtain ⟨h8, h9⟩ := h7 a u hcc.1 hu
            rw [List.getElem?_append_left (by omega)]
            have := h6 a.off (cs[a.off]'(by omega)) (by simp)
            have he : a = ⟨g, a.off, none⟩ := by cases a; simp_all
            rw [he] at hu
            rw [this] at hu
            rw [← hu]; simp
          · rw [if_neg hcc]; exact hu
        refine ⟨_, _, pubL h g (cs ++ ds), hr, ⟨rfl, rfl, rfl, by simp, fun q _ hq => setRow_other w g q _ (fun e => hq (by simp [Value.ownBlock, e])), hle', fun a u ha hnb hu => ?_, ⟨fun a u hu => ?_, hp.tab.trans hle'⟩⟩, .inr ⟨g, cap, _, cs ++ ds, by simp, setRow_heap w g cur _ e _ hc, by simpa using hroom, h2, by rw [hsz2]; exact h3, (h4.append hrow).imp (fun x c hx => k.mono hle' hx), ?_, fun j u hu => ?_, fun a u ha hu => ?_⟩, fun b hb => .inl hb⟩
        · unfold pubL at hu
          rw [if_neg (fun hcc => hnb (by simp [Value.ownBlock, hcc.1]))] at hu; exact hu
        · unfold pubL at hu
          by_cases hcc : a.block = g ∧ a.spot = none ∧ a.off < (cs ++ ds).length
          · rw [if_pos hcc] at hu
            have he : a = ⟨g, a.off, none⟩ := by cases a; simp_all
            rw [he, cell_of_row _ _ _ _ _ _ (setRow_heap w g cur _ e _ hc), h5]
            rw [← Array.getElem?_toList, List.toList_toArray, List.getElem?_append_left hcc.2.2]
            exact hu
          · rw [if_neg hcc] at hu
            have hne : a.block ≠ g := fun e => by
              obtain ⟨h8, h9⟩ := h7 a u e hu
              exact hcc ⟨e, h8, by rw [List.length_append]; omega⟩
            rw [World.cell?_of_block (w := w) (setRow_other w g a.block _ hne)]
            exact hp a u hu
        · rw [List.toList_toArray, h5, List.take_left' (by simp [hcl, hdl, Nat.add_mul])]
        · unfold pubL
          have := (List.getElem?_eq_some_iff.1 hu).1
          rw [if_pos ⟨rfl, rfl, this⟩]; exact hu
        · unfold pubL at hu
          by_cases hcc : a.block = g ∧ a.spot = none ∧ a.off < (cs ++ ds).length
          · exact ⟨hcc.2.1, by have := hcc.2.2; simp only [List.length_append, hcl, hdl, ← Nat.add_mul] at this; simpa using this⟩
          · rw [if_neg hcc] at hu
            obtain ⟨h8, h9⟩ := h7 a u ha hu
            exact absurd ⟨ha, h8, by rw [List.length_append]; omega⟩ hcc
      · have hcl := h4.length (fun x c hx => k.len hx)
        have holds : ∀ j u, cs[j]? = some u → w.cell? ((⟨g, 0, none⟩ : Addr).add j) = some u := fun j u hu => by
          have : (⟨g, 0, none⟩ : Addr).add j = ⟨g, j, none⟩ := by unfold Addr.add; split <;> simp_all
          rw [this]; exact hp _ _ (h6 j u hu)
        have hr := run_append_grow_src (P := P) w t tx ty e i z ht hi2 hz (some ⟨g, 0, none⟩) xs.length cap cs (run_firstCells_some w.drew i.size xs.length ⟨g, 0, none⟩ xs.length cap cs (by rw [hsize]; exact hcl) (by simpa using holds)) y ys.length ds hsrc' (by omega) (by omega) (growslice_fits (by omega) hbytes)
        rw [show (cs ++ ds).toArray = cs.toArray ++ ds.toArray from by simp] at hr
        obtain ⟨h', m, rr⟩ := grown cs cap h4 (by omega) (fun b => Value.ownBlock (.slice (some ⟨g, 0, none⟩) xs.length cap) = some b)
        exact ⟨_, _, h', hr, m, rr, fun b hb => .inr (Nat.le_of_eq (Option.some.inj (show some w.heap.size = some b from hb)))⟩
/-- 'append' to a row of the call's own. -/
theorem run_append_row (t ty e : TypeId) (z : Value) (bytes : Nat) (ht : P.underlying t = some (.slice e)) (hi : (P.info? e).map (fun i => (i.zero, i.size, i.bytes)) = some (some z, k.sz, bytes)) (hzs : z.cells.size = k.sz) (hsz : 0 < k.sz)
    (hp : Pub h w) {v y : Value} (r : (rowI v k e xs).p w h) (hy : ((kSl k).rep ys).p h y) (h63 : xs.length + ys.length ≤ 9223372036854775807) (hbytes : (xs.length + ys.length) * bytes ≤ 140737488355328) :
    ∃ v' w' h', (Builtin.append_ #[t, t] ty #[v, y]).run P w = .ok v' w' ∧ MStep (fun b => v.ownBlock = some b) w h w' h' ∧ (rowI v' k e (xs ++ ys)).p w' h' ∧ ∀ b, v'.ownBlock = some b → v.ownBlock = some b ∨ w.heap.size ≤ b := by
  obtain ⟨A, c, rfl, hc1, hc2, hA⟩ := sl_form hy
  rcases Nat.eq_zero_or_pos ys.length with hy0 | hy0
  · have hys : ys = [] := List.eq_nil_of_length_eq_zero hy0
    subst hys
    have hs : Src P k.sz t (.slice A ([] : List α).length c) ([] : List α).length [] w := by
      cases A with
      | none => exact Src.ofNil w ht c
      | some ad => exact Src.ofSlice w ht ad 0 c [] (by simp) (fun j u hu => by simp at hu) (fun u hu => by cases hu)
    exact run_append_src t t ty e z bytes ht hi hzs hsz hp r hs .nil h63 hbytes
  · obtain ⟨ad, ds, rfl, hsp, hrow, hat⟩ := hA hy0
    exact run_append_src t t ty e z bytes ht hi hzs hsz hp r (Src.ofSlice w ht ad _ c ds (hrow.length (fun x c hx => k.len hx)) (fun j u hu => hp _ _ (hat j u hu)) (hrow.all (fun x c hx => k.one hx))) hrow h63 hbytes
end
end Go.Proofs.YtdioiepkbolnlaaGreatDoor
