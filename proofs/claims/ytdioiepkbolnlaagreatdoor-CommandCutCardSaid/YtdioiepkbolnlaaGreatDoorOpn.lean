/- From what a row reads of the arguments to what the walk's slots hold: all cells of the world in which the call begins are published. -/
import Derived.Test.YtdioiepkbolnlaaGreatDoorKt
import Derived.OpenShut
import Derived.Deep.Slices
import Derived.Lib.LaidU8
import Derived.Carry
import Derived.SizedLaws
set_option linter.unusedSimpArgs false
set_option linter.unusedVariables false
namespace Go.Proofs.YtdioiepkbolnlaaGreatDoor
open Go.RowKit
/-- All that the world holds. -/
def whole (W : World) : PH := fun a => W.cell? a
theorem whole_pub {W : World} (ht : PLe tab (whole W)) : Pub (whole W) W := ⟨fun _ _ e => e, ht⟩
section
variable {H : Type} {enc : TypeId × Value → H} {P : Program} {W : World} {α : Type}
/-- What reads as a type's value is of the kind; and what is known of it. -/
def Opens (enc : TypeId × Value → H) (P : Program) (W : World) (k : Kind α) (t : TypeId) (F : α → Prop) : Prop :=
  ∀ fuel cs x, DataW.trod enc P W 0 (fun _ => true) true fuel t cs = some x → (∀ n ∈ x.1.weights P t, n ≤ reachBytes) → ∃ y, k.K (whole W) y cs ∧ F y
theorem weights_all {e : TypeId} : ∀ {l : List (DataW H)} {d : DataW H}, d ∈ l → ∀ n ∈ d.weights P e, n ∈ DataW.weightsAll P e l
  | [], _, h, _, _ => by cases h
  | a :: l, d, h, n, hn => by
    rw [DataW.weightsAll]
    rcases List.mem_cons.1 h with rfl | h
    · exact List.mem_append_left _ hn
    · exact List.mem_append_right _ (weights_all h n hn)
theorem in64_wf {n : Int} (h : (Lit.int .i64 n).wf = true) : In64 n := by
  simp only [Lit.wf, Bool.and_eq_true, decide_eq_true_eq, IntKind.min, IntKind.max, IntKind.signed, IntKind.bits, if_true] at h
  simp only [Nat.reduceSub, Int.reducePow, Int.reduceSub] at h
  exact ⟨by omega, by omega⟩
theorem u8_wf {n : Int} (h : (Lit.int .u8 n).wf = true) : 0 ≤ n ∧ n < 256 := by
  simp only [Lit.wf, Bool.and_eq_true, decide_eq_true_eq, IntKind.min, IntKind.max, IntKind.signed, IntKind.bits, Bool.false_eq_true, if_false] at h
  simp only [Int.reducePow, Int.reduceSub] at h
  exact ⟨by omega, by omega⟩
theorem opens_i64 {t : TypeId} (ht : P.underlying t = some (.int .i64)) : Opens enc P W (kI .i64) t In64 := fun fuel cs x h _ => by
  obtain ⟨n, rfl, _, hw⟩ := DataW.trod_int ht h
  exact ⟨n, rfl, in64_wf hw⟩
theorem opens_u8 {t : TypeId} (ht : P.underlying t = some (.int .u8)) : Opens enc P W kU8 t (fun _ => True) := fun fuel cs x h _ => by
  obtain ⟨n, rfl, _, hw⟩ := DataW.trod_int ht h
  have := u8_wf hw
  refine ⟨UInt8.ofNat n.toNat, ?_, trivial⟩
  show [Value.int .u8 n] = [bv (UInt8.ofNat n.toNat)]
  have e : ((UInt8.ofNat n.toNat).toNat : Int) = n := by rw [UInt8.toNat_ofNat']; omega
  rw [bv, e]
theorem opens_bool {t : TypeId} (ht : P.underlying t = some .bool) : Opens enc P W kB t (fun _ => True) := fun fuel cs x h _ => by
  obtain ⟨b, rfl, _⟩ := DataW.trod_bool ht h
  exact ⟨b, rfl, trivial⟩
theorem opens_str {t : TypeId} (ht : P.underlying t = some .string) : Opens enc P W kS t (fun s => s.size ≤ 140737488351232) := fun fuel cs x h hw => by
  obtain ⟨s, rfl, e, hs⟩ := DataW.trod_string ht h
  refine ⟨s, rfl, ?_⟩
  have := hw s.data.toList.length (by rw [e, DataW.weights]; exact List.mem_singleton.2 rfl)
  rw [chars_length] at this
  exact this
theorem rows_of {k : Kind α} {h : PH} {F : α → Prop} : ∀ (n : Nat) (c : Nat → List Value), (∀ i, i < n → ∃ y, k.K h y (c i) ∧ F y) → ∃ ys : List α, ys.length = n ∧ Rows (k.K h) ys ((List.range n).flatMap c) ∧ ∀ y ∈ ys, F y
  | 0, c, _ => ⟨[], rfl, .nil, fun y hy => by cases hy⟩
  | n + 1, c, hc => by
    obtain ⟨ys, h1, h2, h3⟩ := rows_of n c (fun i hi => hc i (by omega))
    obtain ⟨y, g1, g2⟩ := hc n (by omega)
    refine ⟨ys ++ [y], by simp [h1], ?_, fun z hz => ?_⟩
    · rw [List.range_succ, List.flatMap_append]
      exact h2.append (by simpa using Rows.one_ g1)
    · rcases List.mem_append.1 hz with hz | hz
      · exact h3 z hz
      · rw [List.mem_singleton.1 hz]; exact g2
theorem flat_get {n m : Nat} (c : Nat → List Value) (hc : ∀ i, i < n → (c i).length = m) : ∀ j u, ((List.range n).flatMap c)[j]? = some u → ∃ i q, i < n ∧ q < m ∧ j = i * m + q ∧ (c i)[q]? = some u := by
  induction n with
  | zero => intro j u h; simp at h
  | succ n ih =>
    intro j u h
    have hl : ((List.range n).flatMap c).length = n * m := by
      have : ∀ k, k ≤ n → ((List.range k).flatMap c).length = k * m := by
        intro k
        induction k with
        | zero => intro _; simp
        | succ k ihk => intro hk; rw [List.range_succ, List.flatMap_append, List.length_append, ihk (by omega)]; simp [hc k (by omega), Nat.add_mul]
      exact this n (Nat.le_refl _)
    rw [List.range_succ, List.flatMap_append] at h
    by_cases hj : j < n * m
    · rw [List.getElem?_append_left (by omega)] at h
      obtain ⟨i, q, h1, h2, h3, h4⟩ := ih (fun i hi => hc i (by omega)) j u h
      exact ⟨i, q, by omega, h2, h3, h4⟩
    · rw [List.getElem?_append_right (by omega), hl] at h
      have h' : (c n)[j - n * m]? = some u := by simpa using h
      have := (List.getElem?_eq_some_iff.1 h').1
      rw [hc n (by omega)] at this
      exact ⟨n, j - n * m, by omega, this, by omega, h'⟩
theorem opens_sl {k : Kind α} {t e : TypeId} {F : α → Prop} (ht : P.underlying t = some (.slice e)) (hc : P.cellsOf e = k.sz) (hpos : 0 < k.sz) (hby : 1 ≤ P.bytesOf e) (ho : Opens enc P W k e F) : Opens enc P W (kSl k) t (fun l => (∀ y ∈ l, F y) ∧ l.length ≤ 140737488351232) := fun fuel cs x h hw => by
  rcases Deep.open_slice ht h with ⟨rfl, _⟩ | ⟨a, len, cap, m, n, D, Pl, rfl, _, hl, hm, hmm, hxe, hx⟩
  · exact ⟨[], znil k _, fun y hy => (by cases hy), Nat.zero_le _⟩
  · simp only [if_true] at hmm
    rw [hxe] at hw
    simp only [DataW.weights, ht] at hw
    have hlen : len ≤ 140737488351232 := by
      have h1 := hw _ List.mem_cons_self
      simp only [List.length_map, List.length_range] at h1
      have h2 : (len + (m - len)) * 1 ≤ (len + (m - len)) * P.bytesOf e := Nat.mul_le_mul_left _ hby
      have h3 : reachBytes = 140737488351232 := rfl
      omega
    have hD : ∀ i, i < len → ∀ n ∈ (D i).weights P e, n ≤ reachBytes := fun i hi n hn => hw n (List.mem_cons_of_mem _ (List.mem_append_left _ (weights_all (List.mem_map.2 ⟨i, List.mem_range.2 hi, rfl⟩) n hn)))
    have hch : ∃ c : Nat → List Value, ∀ i, i < len → (W.cells? 0 (a.add (i * k.sz)) k.sz = some (c i)) ∧ ∃ y, k.K (whole W) y (c i) ∧ F y := by
      refine ⟨fun i => ((W.cells? 0 (a.add (i * k.sz)) k.sz).getD []), fun i hi => ?_⟩
      obtain ⟨cs', h1, h2⟩ := hx i (by omega)
      rw [hc] at h1
      show W.cells? 0 (a.add (i * k.sz)) k.sz = some ((W.cells? 0 (a.add (i * k.sz)) k.sz).getD []) ∧ ∃ y, k.K (whole W) y ((W.cells? 0 (a.add (i * k.sz)) k.sz).getD []) ∧ F y
      rw [h1]
      exact ⟨rfl, ho _ _ _ h2 (hD i hi)⟩
    obtain ⟨c, hc'⟩ := hch
    obtain ⟨ys, h1, h2, h3⟩ := rows_of len c (fun i hi => (hc' i hi).2)
    refine ⟨ys, ?_, h3, by omega⟩
    have hrow : 0 < ys.length → ∃ b ds, (some a : Option Addr) = some b ∧ b.spot = none ∧ Rows (k.K (whole W)) ys ds ∧ At (whole W) b ds := fun hp => by
      have hsp : a.spot = none := by
        obtain ⟨_, g2, g3⟩ := World.cells?_some (hc' 0 (by omega)).1
        have g4 := g3 0 hpos
        rw [Nat.zero_mul] at g4
        have : a.add 0 = a := by simp [Addr.add]
        rw [this, this] at g4
        obtain ⟨v, hv⟩ : ∃ v, (c 0)[0]? = some v := ⟨(c 0)[0]'(by omega), by simp⟩
        exact World.cell?_spot (g4.trans hv)
      refine ⟨a, _, rfl, hsp, h2, fun j u hu => ?_⟩
      obtain ⟨i, q, hi, hq, rfl, hu'⟩ := flat_get (m := k.sz) c (fun i hi => by
        obtain ⟨y, hy, _⟩ := (hc' i hi).2
        exact k.len hy) j u hu
      obtain ⟨_, _, g3⟩ := World.cells?_some (hc' i hi).1
      have := g3 q hq
      rw [Addr.add_add' _ _ _ hsp, hu'] at this
      exact this
    refine ⟨some a, cap, by rw [h1], by omega, by simp only [maxLen] at hm; omega, hrow⟩
theorem opens_arr {k : Kind α} {t e : TypeId} {F : α → Prop} {n : Nat} (ht : P.underlying t = some (.array n e)) (hc : P.cellsOf e = k.sz) (hct : P.cellsOf t = n * k.sz) (ho : Opens enc P W k e F) : Opens enc P W (kArr n k) t (fun l => (∀ y ∈ l, F y) ∧ l.length = n) := fun fuel cs x h hw => by
  obtain ⟨xs, m, _, hxe, hl, hxl, hel⟩ := DataW.trod_array ht h
  rw [hxe] at hw
  simp only [DataW.weights, ht] at hw
  rw [hc] at hel
  rw [hct] at hl
  obtain ⟨ys, h1, h2, h3⟩ := rows_of (k := k) (h := whole W) (F := F) n (fun i => (cs.drop (i * k.sz)).take k.sz) (fun i hi => by
    have := hel i hi
    rw [List.getElem?_eq_getElem (by omega)] at this
    exact ho _ _ _ this (fun n hn => hw n (weights_all (List.mem_map.2 ⟨xs[i], List.getElem_mem (by omega), rfl⟩) n hn)))
  have hfl : ∀ q, q ≤ n → (List.range q).flatMap (fun i => (cs.drop (i * k.sz)).take k.sz) = cs.take (q * k.sz) := by
    intro q
    induction q with
    | zero => intro _; simp
    | succ q ih =>
      intro hq
      rw [List.range_succ, List.flatMap_append, ih (by omega)]
      simp only [List.flatMap_cons, List.flatMap_nil, List.append_nil]
      rw [Nat.add_mul, Nat.one_mul, List.take_add]
  rw [hfl n (Nat.le_refl _), List.take_of_length_le (by omega)] at h2
  exact ⟨ys, ⟨h1, h2⟩, h3, h1⟩
theorem RowF.chunks {h : PH} : ∀ (fs : List FP) (cs : List Value), cs.length = fsum fs → (∀ (i : Nat) (f : FP), fs[i]? = some f → f.K h ((cs.drop (fsum (fs.take i))).take f.n)) → RowF h fs cs
  | [], cs, hl, _ => by
    have : cs = [] := List.eq_nil_of_length_eq_zero (by simpa [fsum] using hl)
    subst this; exact .nil
  | f :: fs, cs, hl, hk => by
    have hl : cs.length = f.n + fsum fs := hl
    have h0 := hk 0 f rfl
    have h1 := RowF.chunks fs (cs.drop f.n) (by rw [List.length_drop]; omega) (fun i g hg => by
      have := hk (i + 1) g (by simpa using hg)
      rw [List.take_succ_cons, show fsum (f :: fs.take i) = f.n + fsum (fs.take i) from rfl] at this
      rw [List.drop_drop]; exact this)
    have h0' : f.K h (cs.take f.n) := by simpa [fsum] using h0
    have := RowF.cons h0' h1
    rwa [List.take_append_drop] at this
/-- A struct's fields: their types, where they stand, how many cells they take. -/
def StF (P : Program) (t : TypeId) (l : List (TypeId × Nat × Nat)) (n : Nat) : Prop := P.underlying t = some (.struct (P.fieldsOf t)) ∧ (P.fieldsOf t).toList.map (fun f => (f.type, f.offset, P.cellsOf f.type)) = l ∧ P.cellsOf t = n
theorem StF.part {t : TypeId} {l : List (TypeId × Nat × Nat)} {n fuel : Nat} {cs : List Value} {x : DataW H × List MemPlace} (hs : StF P t l n) (h : DataW.trod enc P W 0 (fun _ => true) true fuel t cs = some x) (hw : ∀ n ∈ x.1.weights P t, n ≤ reachBytes) (i : Nat) {u o m : Nat} (hi : l[i]? = some (u, o, m)) : ∃ fu y, DataW.trod enc P W 0 (fun _ => true) true fu u ((cs.drop o).take m) = some y ∧ ∀ n ∈ y.1.weights P u, n ≤ reachBytes := by
  obtain ⟨xs, q, _, hxe, hl, hxl, hel⟩ := DataW.trod_struct hs.1 h
  rw [← hs.2.1, List.getElem?_map, Option.map_eq_some_iff] at hi
  obtain ⟨f, hf, he⟩ := hi
  have hlt : i < (P.fieldsOf t).size := by
    have := (List.getElem?_eq_some_iff.1 hf).1
    simpa using this
  have := hel i f (by simpa using hf)
  rw [List.getElem?_eq_getElem (by omega)] at this
  simp only [Prod.mk.injEq] at he
  obtain ⟨rfl, rfl, rfl⟩ := he
  refine ⟨q, _, this, fun n hn => hw n ?_⟩
  rw [hxe]
  simp only [DataW.weights, hs.1]
  exact DataW.weights_mem_each (j := i) (by rw [List.getElem?_map, hf]; rfl) (by rw [List.getElem?_map, List.getElem?_eq_getElem (by omega)]; rfl) n hn
theorem StF.len {t : TypeId} {l : List (TypeId × Nat × Nat)} {n fuel : Nat} {cs : List Value} {x : DataW H × List MemPlace} (hs : StF P t l n) (h : DataW.trod enc P W 0 (fun _ => true) true fuel t cs = some x) : cs.length = n := by
  obtain ⟨xs, q, _, _, hl, _⟩ := DataW.trod_struct hs.1 h
  rw [hl, hs.2.2]
theorem StF.open_ {β : Type} {k : Kind β} {F : β → Prop} {t : TypeId} {l : List (TypeId × Nat × Nat)} {n fuel : Nat} {cs : List Value} {x : DataW H × List MemPlace} (hs : StF P t l n) (h : DataW.trod enc P W 0 (fun _ => true) true fuel t cs = some x) (hw : ∀ n ∈ x.1.weights P t, n ≤ reachBytes) (i : Nat) {u o m : Nat} (hi : l[i]? = some (u, o, m)) (ho : Opens enc P W k u F) : ∃ y, k.K (whole W) y ((cs.drop o).take m) ∧ F y := by
  obtain ⟨fu, y, hy, hyw⟩ := hs.part h hw i hi
  exact ho _ _ _ hy hyw
theorem opens_grant {t i s b : TypeId} (hs : StF P t [(i, 0, 1), (s, 1, 1), (b, 2, 1), (i, 3, 1)] 4) (hi : P.underlying i = some (.int .i64)) (hst : P.underlying s = some .string) (hb : P.underlying b = some .bool) : Opens enc P W kGrant t GIn := fun fuel cs x h hw => by
  obtain ⟨y0, k0, f0⟩ := hs.open_ h hw 0 rfl (opens_i64 hi)
  obtain ⟨y1, k1, f1⟩ := hs.open_ h hw 1 rfl (opens_str hst)
  obtain ⟨y2, k2, f2⟩ := hs.open_ h hw 2 rfl (opens_bool hb)
  obtain ⟨y3, k3, f3⟩ := hs.open_ h hw 3 rfl (opens_i64 hi)
  refine ⟨⟨y0, y1, y2, y3⟩, RowF.chunks (kGrantF ⟨y0, y1, y2, y3⟩) cs (hs.len h) (fun j f hj => ?_), ⟨f0, f3⟩⟩
  match j, hj with
  | 0, hj => cases hj; exact k0
  | 1, hj => cases hj; exact k1
  | 2, hj => cases hj; exact k2
  | 3, hj => cases hj; exact k3
theorem opens_token {t i s g sg u ar : TypeId} (hs : StF P t [(s, 0, 1), (i, 1, 1), (sg, 2, 1), (ar, 3, 32)] 35) (hi : P.underlying i = some (.int .i64)) (hst : P.underlying s = some .string)
    (hsg : P.underlying sg = some (.slice g)) (hcg : P.cellsOf g = 4) (hbg : 1 ≤ P.bytesOf g) (hg : Opens enc P W kGrant g GIn) (har : P.underlying ar = some (.array 32 u)) (hcu : P.cellsOf u = 1) (hca : P.cellsOf ar = 32) (hu : P.underlying u = some (.int .u8)) : Opens enc P W kToken t TIn := fun fuel cs x h hw => by
  obtain ⟨y0, k0, f0⟩ := hs.open_ h hw 0 rfl (opens_str hst)
  obtain ⟨y1, k1, f1⟩ := hs.open_ h hw 1 rfl (opens_i64 hi)
  obtain ⟨y2, k2, f2⟩ := hs.open_ h hw 2 rfl (opens_sl hsg hcg (by decide) hbg hg)
  obtain ⟨y3, k3, f3⟩ := hs.open_ h hw 3 rfl (opens_arr (k := kU8) har hcu hca (opens_u8 hu))
  refine ⟨⟨y0, y1, y2, y3⟩, RowF.chunks (kTokenF ⟨y0, y1, y2, y3⟩) cs (hs.len h) (fun j f hj => ?_), ⟨f1, f2.1, f3.2⟩⟩
  match j, hj with
  | 0, hj => cases hj; exact k0
  | 1, hj => cases hj; exact k1
  | 2, hj => cases hj; exact k2
  | 3, hj => cases hj; exact k3
theorem opens_command {t t0 t1 t2 t3 t4 t5 t6 t7 t8 t9 : TypeId} (hs : StF P t [(t0, 0, 1), (t1, 1, 35), (t2, 36, 1), (t3, 37, 1), (t4, 38, 1), (t5, 39, 1), (t6, 40, 1), (t7, 41, 1), (t8, 42, 4), (t9, 46, 1)] 47) (o0 : Opens enc P W (kI .i64) t0 In64) (o1 : Opens enc P W kToken t1 TIn) (o2 : Opens enc P W kS t2 (fun s => s.size ≤ 140737488351232)) (o3 : Opens enc P W kS t3 (fun s => s.size ≤ 140737488351232)) (o4 : Opens enc P W (kI .i64) t4 In64) (o5 : Opens enc P W (kSl (kSl kU8)) t5 (fun l => (∀ y ∈ l, (fun l => (∀ y ∈ l, (fun _ => True) y) ∧ l.length ≤ 140737488351232) y) ∧ l.length ≤ 140737488351232)) (o6 : Opens enc P W (kI .i64) t6 In64) (o7 : Opens enc P W (kI .i64) t7 In64) (o8 : Opens enc P W kGrant t8 GIn) (o9 : Opens enc P W (kI .i64) t9 In64) : Opens enc P W kCommand t CIn := fun fuel cs x h hw => by
  obtain ⟨y0, k0, f0⟩ := hs.open_ h hw 0 rfl o0
  obtain ⟨y1, k1, f1⟩ := hs.open_ h hw 1 rfl o1
  obtain ⟨y2, k2, f2⟩ := hs.open_ h hw 2 rfl o2
  obtain ⟨y3, k3, f3⟩ := hs.open_ h hw 3 rfl o3
  obtain ⟨y4, k4, f4⟩ := hs.open_ h hw 4 rfl o4
  obtain ⟨y5, k5, f5⟩ := hs.open_ h hw 5 rfl o5
  obtain ⟨y6, k6, f6⟩ := hs.open_ h hw 6 rfl o6
  obtain ⟨y7, k7, f7⟩ := hs.open_ h hw 7 rfl o7
  obtain ⟨y8, k8, f8⟩ := hs.open_ h hw 8 rfl o8
  obtain ⟨y9, k9, f9⟩ := hs.open_ h hw 9 rfl o9
  refine ⟨⟨y0, y1, y2, y3, y4, y5, y6, y7, y8, y9⟩, RowF.chunks (kCommandF ⟨y0, y1, y2, y3, y4, y5, y6, y7, y8, y9⟩) cs (hs.len h) (fun j f hj => ?_), ⟨f0, f1, f4, f6, f7, f8, f9, fun b hb => (f5.1 b hb).2⟩⟩
  match j, hj with
  | 0, hj => cases hj; exact k0
  | 1, hj => cases hj; exact k1
  | 2, hj => cases hj; exact k2
  | 3, hj => cases hj; exact k3
  | 4, hj => cases hj; exact k4
  | 5, hj => cases hj; exact k5
  | 6, hj => cases hj; exact k6
  | 7, hj => cases hj; exact k7
  | 8, hj => cases hj; exact k8
  | 9, hj => cases hj; exact k9
theorem opens_shown {t t0 t1 t2 t3 t4 t5 : TypeId} (hs : StF P t [(t0, 0, 1), (t1, 1, 1), (t2, 2, 1), (t3, 3, 1), (t4, 4, 1), (t5, 5, 1)] 6) (o0 : Opens enc P W kS t0 (fun s => s.size ≤ 140737488351232)) (o1 : Opens enc P W kS t1 (fun s => s.size ≤ 140737488351232)) (o2 : Opens enc P W (kI .i64) t2 In64) (o3 : Opens enc P W (kI .i64) t3 In64) (o4 : Opens enc P W (kI .i64) t4 In64) (o5 : Opens enc P W (kSl kU8) t5 (fun l => (∀ y ∈ l, (fun _ => True) y) ∧ l.length ≤ 140737488351232)) : Opens enc P W kShown t SIn := fun fuel cs x h hw => by
  obtain ⟨y0, k0, f0⟩ := hs.open_ h hw 0 rfl o0
  obtain ⟨y1, k1, f1⟩ := hs.open_ h hw 1 rfl o1
  obtain ⟨y2, k2, f2⟩ := hs.open_ h hw 2 rfl o2
  obtain ⟨y3, k3, f3⟩ := hs.open_ h hw 3 rfl o3
  obtain ⟨y4, k4, f4⟩ := hs.open_ h hw 4 rfl o4
  obtain ⟨y5, k5, f5⟩ := hs.open_ h hw 5 rfl o5
  refine ⟨⟨y0, y1, y2, y3, y4, y5⟩, RowF.chunks (kShownF ⟨y0, y1, y2, y3, y4, y5⟩) cs (hs.len h) (fun j f hj => ?_), ⟨f2, f3, f4⟩⟩
  match j, hj with
  | 0, hj => cases hj; exact k0
  | 1, hj => cases hj; exact k1
  | 2, hj => cases hj; exact k2
  | 3, hj => cases hj; exact k3
  | 4, hj => cases hj; exact k4
  | 5, hj => cases hj; exact k5
theorem opens_entry {t t0 t1 t2 t3 t4 t5 t6 t7 : TypeId} (hs : StF P t [(t0, 0, 1), (t1, 1, 1), (t2, 2, 1), (t3, 3, 1), (t4, 4, 1), (t5, 5, 1), (t6, 6, 1), (t7, 7, 32)] 39) (o0 : Opens enc P W (kI .i64) t0 In64) (o1 : Opens enc P W (kI .i64) t1 In64) (o2 : Opens enc P W (kI .i64) t2 In64) (o3 : Opens enc P W (kI .i64) t3 In64) (o4 : Opens enc P W (kI .i64) t4 In64) (o5 : Opens enc P W kS t5 (fun s => s.size ≤ 140737488351232)) (o6 : Opens enc P W kS t6 (fun s => s.size ≤ 140737488351232)) (o7 : Opens enc P W (kArr 32 kU8) t7 (fun l => (∀ y ∈ l, (fun _ => True) y) ∧ l.length = 32)) : Opens enc P W kEntry t EIn := fun fuel cs x h hw => by
  obtain ⟨y0, k0, f0⟩ := hs.open_ h hw 0 rfl o0
  obtain ⟨y1, k1, f1⟩ := hs.open_ h hw 1 rfl o1
  obtain ⟨y2, k2, f2⟩ := hs.open_ h hw 2 rfl o2
  obtain ⟨y3, k3, f3⟩ := hs.open_ h hw 3 rfl o3
  obtain ⟨y4, k4, f4⟩ := hs.open_ h hw 4 rfl o4
  obtain ⟨y5, k5, f5⟩ := hs.open_ h hw 5 rfl o5
  obtain ⟨y6, k6, f6⟩ := hs.open_ h hw 6 rfl o6
  obtain ⟨y7, k7, f7⟩ := hs.open_ h hw 7 rfl o7
  refine ⟨⟨y0, y1, y2, y3, y4, y5, y6, y7⟩, RowF.chunks (kEntryF ⟨y0, y1, y2, y3, y4, y5, y6, y7⟩) cs (hs.len h) (fun j f hj => ?_), ⟨f0, f1, f2, f3, f4, f7.2⟩⟩
  match j, hj with
  | 0, hj => cases hj; exact k0
  | 1, hj => cases hj; exact k1
  | 2, hj => cases hj; exact k2
  | 3, hj => cases hj; exact k3
  | 4, hj => cases hj; exact k4
  | 5, hj => cases hj; exact k5
  | 6, hj => cases hj; exact k6
  | 7, hj => cases hj; exact k7
theorem opens_answer {t t0 t1 t2 t3 t4 : TypeId} (hs : StF P t [(t0, 0, 1), (t1, 1, 1), (t2, 2, 1), (t3, 3, 35), (t4, 38, 1)] 39) (o0 : Opens enc P W (kI .i64) t0 In64) (o1 : Opens enc P W (kI .i64) t1 In64) (o2 : Opens enc P W (kSl kShown) t2 (fun l => (∀ y ∈ l, SIn y) ∧ l.length ≤ 140737488351232)) (o3 : Opens enc P W kToken t3 TIn) (o4 : Opens enc P W (kSl kEntry) t4 (fun l => (∀ y ∈ l, EIn y) ∧ l.length ≤ 140737488351232)) : Opens enc P W kAnswer t AIn := fun fuel cs x h hw => by
  obtain ⟨y0, k0, f0⟩ := hs.open_ h hw 0 rfl o0
  obtain ⟨y1, k1, f1⟩ := hs.open_ h hw 1 rfl o1
  obtain ⟨y2, k2, f2⟩ := hs.open_ h hw 2 rfl o2
  obtain ⟨y3, k3, f3⟩ := hs.open_ h hw 3 rfl o3
  obtain ⟨y4, k4, f4⟩ := hs.open_ h hw 4 rfl o4
  refine ⟨⟨y0, y1, y2, y3, y4⟩, RowF.chunks (kAnswerF ⟨y0, y1, y2, y3, y4⟩) cs (hs.len h) (fun j f hj => ?_), ⟨f0, f1, f2.1, f3, f4.1⟩⟩
  match j, hj with
  | 0, hj => cases hj; exact k0
  | 1, hj => cases hj; exact k1
  | 2, hj => cases hj; exact k2
  | 3, hj => cases hj; exact k3
  | 4, hj => cases hj; exact k4
/-! #### a package-level variable of integers -/
theorem ints_of_array {enc : TypeId × Value → H} {base : Nat} {sp : Nat → Bool} {held : Bool} {t e : TypeId} {n fuel : Nat} {q : IntKind} {cs : List Value} {zs : List Int} {p : List MemPlace} (ht : P.underlying t = some (.array n e)) (he : P.underlying e = some (.int q)) (hc : P.cellsOf e = 1) (hct : P.cellsOf t = n) (hz : zs.length = n)
    (h : DataW.trod enc P W base sp held fuel t cs = some (.agg (zs.map fun z => (.lit (Lit.int q z) : DataW H)), p)) : ∀ (i : Nat) (z : Int), zs[i]? = some z → cs[i]? = some (Value.int q z) := by
  obtain ⟨xs, m, _, hx, hl, hxl, hel⟩ := DataW.trod_array ht h
  intro i z hi
  have hin := (List.getElem?_eq_some_iff.1 hi).1
  have h1 := hel i (by omega)
  rw [hc, Nat.mul_one, List.getElem?_eq_getElem (by omega)] at h1
  obtain ⟨z', e1, e2, _⟩ := DataW.trod_int he h1
  have h2 : (xs.map (·.1))[i]? = (zs.map fun z => (DataW.lit (.int q z) : DataW H))[i]? := by rw [(DataW.agg.inj (Prod.mk.inj hx).1).symm]
  rw [List.getElem?_map, List.getElem?_map, hi, List.getElem?_eq_getElem (by omega), e2] at h2
  simp only [Option.map_some, Option.some.injEq, DataW.lit.injEq, Lit.int.injEq, true_and] at h2
  subst h2
  have h0 : ((cs.drop i).take 1)[0]? = some (.int q z') := by rw [e1]; rfl
  simpa using h0
theorem tab_of {t e : TypeId} {l : List (String × DataW Unit)} (hg : P.globalNamed "sealery/command.of" = some 0) (hgt : (P.globals[0]?).map (·.type) = some t) (ht : P.underlying t = some (.array 9 e)) (he : P.underlying e = some (.int .u64)) (hc : P.cellsOf e = 1) (hct : P.cellsOf t = 9)
    (hm : ("sealery/command.of", DataW.agg [.lit (.int .u64 0), .lit (.int .u64 15), .lit (.int .u64 49), .lit (.int .u64 48), .lit (.int .u64 2), .lit (.int .u64 64), .lit (.int .u64 128), .lit (.int .u64 48), .lit (.int .u64 16)]) ∈ l) (h : laidMet P l W) : PLe tab (whole W) := by
  obtain ⟨g, t', cs, fuel, p, e1, e2, e3, e4⟩ := Lib.laidMet.reads h hm
  obtain rfl := Option.some.inj (hg.symm.trans e1)
  obtain rfl := Option.some.inj (hgt.symm.trans e2)
  have hi := ints_of_array (zs := [0, 15, 49, 48, 2, 64, 128, 48, 16]) (q := .u64) ht he hc hct rfl e4
  intro a v hv
  unfold tab at hv
  by_cases hb : a.block = 0
  · rw [if_pos hb] at hv
    by_cases hs : a.spot.isSome = true
    · rw [if_pos hs] at hv; cases hv
    · rw [if_neg hs] at hv
      have hs : a.spot = none := by cases h : a.spot <;> simp_all
      obtain ⟨n, hn, rfl⟩ := Option.map_eq_some_iff.1 hv
      show W.cell? a = _
      have ha : a = ⟨0, a.off, none⟩ := by cases a; simp_all
      rw [ha, World.var?_cell hg e3 a.off]
      have hz : ([0, 15, 49, 48, 2, 64, 128, 48, 16] : List Int)[a.off]? = some n := by
        have hl : ([0, 15, 49, 48, 2, 64, 128, 48, 16] : List Int) = List.map (fun (n : Nat) => (n : Int)) cellsOf := by decide
        rw [← hn, hl, List.getElem?_map]
        cases cellsOf[a.off]? <;> rfl
      have := hi a.off _ hz
      simpa using this
  · rw [if_neg hb] at hv; cases hv
/-! #### arguments -/
theorem arg_agg {k : Kind α} {t : TypeId} {F : α → Prop} {v : Value} {d : DataW H} {ps : List MemPlace} {r : Reach} {b0 : Nat} {fs : Array Field} (ha : k.agg = true) (ht : P.underlying t = some (.struct fs)) (ho : Opens enc P W k t F) (hval : Value.okWide P W r b0 t v) (hd : DataW.Trod enc P W 0 (fun _ => true) true t v d ps) (hw : ∀ n ∈ d.weights P t, n ≤ reachBytes) : ∃ y, (k.rep y).p (whole W) v ∧ F y := by
  unfold Value.okWide at hval
  rw [ht] at hval
  obtain ⟨cs, rfl, _, _⟩ := hval
  obtain ⟨fuel, hf⟩ := hd
  obtain ⟨y, hy, hF⟩ := ho _ _ _ hf hw
  exact ⟨y, .inl ⟨ha, cs, rfl, hy⟩, hF⟩
theorem arg_sl {k : Kind α} {t e : TypeId} {F : List α → Prop} {v : Value} {d : DataW H} {ps : List MemPlace} {r : Reach} {b0 : Nat} (ht : P.underlying t = some (.slice e)) (ho : Opens enc P W (kSl k) t F) (hval : Value.okWide P W r b0 t v) (hd : DataW.Trod enc P W 0 (fun _ => true) true t v d ps) (hw : ∀ n ∈ d.weights P t, n ≤ reachBytes) : ∃ y, ((kSl k).rep y).p (whole W) v ∧ F y := by
  obtain ⟨a, l, c, rfl⟩ := WideShapes.okWide_slice ht hval
  obtain ⟨fuel, hf⟩ := hd
  obtain ⟨y, hy, hF⟩ := ho _ _ _ hf hw
  exact ⟨y, .inr ⟨rfl, hy⟩, hF⟩
end
end Go.Proofs.YtdioiepkbolnlaaGreatDoor
