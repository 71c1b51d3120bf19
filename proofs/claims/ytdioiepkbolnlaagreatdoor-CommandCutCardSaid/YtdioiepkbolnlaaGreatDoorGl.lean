/- What was laid is read again; what is cut short is too short; what was read is laid as the same bytes. In plain Lean. -/
import Derived.Test.YtdioiepkbolnlaaGreatDoorGt
set_option linter.unusedSimpArgs false
set_option linter.unusedVariables false
namespace Go.Proofs.YtdioiepkbolnlaaGreatDoor
open Go.RowKit
/-! #### numbers -/
def beN (l : List UInt8) : Nat → Nat
  | 0 => 0
  | k + 1 => beN l k * 256 + (l.getD k 0).toNat
theorem beN_lt (l : List UInt8) (k : Nat) : beN l k < 256 ^ k := by
  induction k with
  | zero => simp [beN]
  | succ k ih => rw [beN, Nat.pow_succ]; have := (l.getD k 0).toNat_lt; omega
theorem or_add (a b : Nat) (hb : b < 256) : a * 256 ||| b = a * 256 + b := by
  have := Nat.two_pow_add_eq_or_of_lt (i := 8) (b := b) (by simpa using hb) a
  rw [show a * 256 = 2 ^ 8 * a by omega]; exact this.symm
theorem beU_nat (l : List UInt8) : ∀ k, k ≤ 8 → beU l k = (beN l k : Int)
  | 0, _ => (beU_zero l).symm
  | k + 1, h => by
    have h1 := beN_lt l k
    have h3 : (256 : Nat) ^ k ≤ 256 ^ 7 := Nat.pow_le_pow_right (by decide) (by omega)
    have h4 : (256 : Nat) ^ 7 = 72057594037927936 := by decide
    have h2 := (l.getD k 0).toNat_lt
    rw [← beU_step, beU_nat l k (by omega), beN, ← or_add _ _ h2]
    rw [show IntKind.u64.wrap ((beN l k : Int) * 2 ^ ((8 : Int)).toNat) = ((beN l k * 256 : Nat) : Int) from by
      rw [IntKind.wrap_u64, show (2 : Int) ^ ((8 : Int)).toNat = 256 from rfl]; omega]
    rw [show IntKind.u64.wrap (((l.getD k 0).toNat : Int)) = (((l.getD k 0).toNat : Nat) : Int) from by rw [IntKind.wrap_u64]; omega]
    exact bits_or_u64_nat _ _ (by omega) (by omega)
def In64 (v : Int) : Prop := -9223372036854775808 ≤ v ∧ v ≤ 9223372036854775807
theorem wrap64 (n : Int) : IntKind.i64.wrap n = (n + 9223372036854775808) % 18446744073709551616 - 9223372036854775808 := by
  simp [IntKind.wrap, IntKind.signed, IntKind.bits]
  split <;> omega
theorem be8_in (l : List UInt8) : In64 (be8 l) := by unfold be8 In64; rw [wrap64]; omega
theorem beN8 (a b c d e f g h : UInt8) : beN [a, b, c, d, e, f, g, h] 8 = ((((((a.toNat * 256 + b.toNat) * 256 + c.toNat) * 256 + d.toNat) * 256 + e.toNat) * 256 + f.toNat) * 256 + g.toNat) * 256 + h.toNat := by simp [beN]
theorem be8_eq (a b c d e f g h : UInt8) : be8 [a, b, c, d, e, f, g, h] = IntKind.i64.wrap ((((((((a.toNat * 256 + b.toNat) * 256 + c.toNat) * 256 + d.toNat) * 256 + e.toNat) * 256 + f.toNat) * 256 + g.toNat) * 256 + h.toNat : Nat) : Int) := by
  unfold be8; rw [show [a, b, c, d, e, f, g, h].length = 8 from rfl, beU_nat _ 8 (Nat.le_refl _), beN8]
theorem digit (v : Int) : v = 256 * (v / 256) + (u8w v).toNat := by have := u8w_nat v; omega
theorem pow_digits (v : Int) : v / 2 ^ 8 = v / 256 ∧ v / 2 ^ 16 = v / 256 / 256 ∧ v / 2 ^ 24 = v / 256 / 256 / 256 ∧ v / 2 ^ 32 = v / 256 / 256 / 256 / 256 ∧ v / 2 ^ 40 = v / 256 / 256 / 256 / 256 / 256 ∧ v / 2 ^ 48 = v / 256 / 256 / 256 / 256 / 256 / 256 ∧ v / 2 ^ 56 = v / 256 / 256 / 256 / 256 / 256 / 256 / 256 := by
  simp only [Int.reducePow]
  exact ⟨trivial, by omega, by omega, by omega, by omega, by omega, by omega⟩
theorem be8_num8 (v : Int) (hv : In64 v) : be8 (num8 v) = v := by
  unfold num8 In64 at *
  obtain ⟨p1, p2, p3, p4, p5, p6, p7⟩ := pow_digits v
  rw [be8_eq, wrap64, p1, p2, p3, p4, p5, p6, p7]
  have h0 := digit v; have h1 := digit (v / 256); have h2 := digit (v / 256 / 256); have h3 := digit (v / 256 / 256 / 256)
  have h4 := digit (v / 256 / 256 / 256 / 256); have h5 := digit (v / 256 / 256 / 256 / 256 / 256); have h6 := digit (v / 256 / 256 / 256 / 256 / 256 / 256); have h7 := digit (v / 256 / 256 / 256 / 256 / 256 / 256 / 256)
  generalize v / 256 / 256 / 256 / 256 / 256 / 256 / 256 / 256 = a8 at *
  generalize v / 256 / 256 / 256 / 256 / 256 / 256 / 256 = a7 at *
  generalize v / 256 / 256 / 256 / 256 / 256 / 256 = a6 at *
  generalize v / 256 / 256 / 256 / 256 / 256 = a5 at *
  generalize v / 256 / 256 / 256 / 256 = a4 at *
  generalize v / 256 / 256 / 256 = a3 at *
  generalize v / 256 / 256 = a2 at *
  generalize v / 256 = a1 at *
  clear p1 p2 p3 p4 p5 p6 p7
  have g0 := (u8w v).toNat_lt; have g1 := (u8w a1).toNat_lt; have g2 := (u8w a2).toNat_lt; have g3 := (u8w a3).toNat_lt
  have g4 := (u8w a4).toNat_lt; have g5 := (u8w a5).toNat_lt; have g6 := (u8w a6).toNat_lt; have g7 := (u8w a7).toNat_lt
  generalize (u8w v).toNat = d0 at *; generalize (u8w a1).toNat = d1 at *; generalize (u8w a2).toNat = d2 at *; generalize (u8w a3).toNat = d3 at *
  generalize (u8w a4).toNat = d4 at *; generalize (u8w a5).toNat = d5 at *; generalize (u8w a6).toNat = d6 at *; generalize (u8w a7).toNat = d7 at *
  simp only [Int.natCast_add, Int.natCast_mul, Int.cast_ofNat_Int]
  omega
theorem u8w_eq {n : Int} {b : UInt8} (h : n % 256 = (b.toNat : Int)) : u8w n = b := UInt8.toNat_inj.1 (by have := u8w_nat n; omega)
theorem down (v m : Int) (b : UInt8) (h : v = 256 * m + b.toNat) : u8w v = b ∧ v / 256 = m := by
  have := b.toNat_lt
  exact ⟨u8w_eq (by omega), by omega⟩
theorem num8_be8 (l : List UInt8) (hl : l.length = 8) : num8 (be8 l) = l := by
  match l, hl with
  | [a, b, c, d, e, f, g, h], _ =>
    have hv : ∃ t : Int, be8 [a, b, c, d, e, f, g, h] = 256 * (256 * (256 * (256 * (256 * (256 * (256 * (256 * t + a.toNat) + b.toNat) + c.toNat) + d.toNat) + e.toNat) + f.toNat) + g.toNat) + h.toNat := by
      rw [be8_eq, wrap64]
      simp only [Int.natCast_add, Int.natCast_mul, Int.cast_ofNat_Int]
      generalize (a.toNat : Int) = a'; generalize (b.toNat : Int) = b'; generalize (c.toNat : Int) = c'; generalize (d.toNat : Int) = d'
      generalize (e.toNat : Int) = e'; generalize (f.toNat : Int) = f'; generalize (g.toNat : Int) = g'; generalize (h.toNat : Int) = h'
      generalize hN : (((((((a' * 256 + b') * 256 + c') * 256 + d') * 256 + e') * 256 + f') * 256 + g') * 256 + h') = N
      refine ⟨-((N + 9223372036854775808) / 18446744073709551616), ?_⟩
      rw [← hN]; rw [← hN] at *; omega
    obtain ⟨t, hv⟩ := hv
    obtain ⟨p1, p2, p3, p4, p5, p6, p7⟩ := pow_digits (be8 [a, b, c, d, e, f, g, h])
    obtain ⟨k0, m0⟩ := down _ _ _ hv
    obtain ⟨k1, m1⟩ := down _ _ _ m0
    obtain ⟨k2, m2⟩ := down _ _ _ m1
    obtain ⟨k3, m3⟩ := down _ _ _ m2
    obtain ⟨k4, m4⟩ := down _ _ _ m3
    obtain ⟨k5, m5⟩ := down _ _ _ m4
    obtain ⟨k6, m6⟩ := down _ _ _ m5
    obtain ⟨k7, _⟩ := down _ _ _ m6
    unfold num8
    rw [p1, p2, p3, p4, p5, p6, p7, k0, k1, k2, k3, k4, k5, k6, k7]
/-! #### from the left -/
/-- A reader's step over x: behind it is the rest; over less than x it is too short. -/
def Rst (S : Rd → Rd) (x : List UInt8) : Prop := ∀ y n, S ⟨(x ++ y).take n, 0⟩ = if x.length ≤ n then ⟨y.take (n - x.length), 0⟩ else ⟨[], 4⟩
def RV {α : Type} (V : Rd → α) (x : List UInt8) (v : α) : Prop := ∀ y, V ⟨x ++ y, 0⟩ = v
def Dead (S : Rd → Rd) : Prop := ∀ e, e ≠ 0 → S ⟨[], e⟩ = ⟨[], e⟩
theorem Rst.full {S : Rd → Rd} {x : List UInt8} (h : Rst S x) (y : List UInt8) : S ⟨x ++ y, 0⟩ = ⟨y, 0⟩ := by
  have := h y (x ++ y).length
  rw [List.take_length] at this
  rw [this, if_pos (by rw [List.length_append]; omega), List.take_of_length_le (by rw [List.length_append]; omega)]
theorem Rst.seq {S T : Rd → Rd} {x z : List UInt8} (h : Rst S x) (k : Rst T z) (d : Dead T) : Rst (fun r => T (S r)) (x ++ z) := fun y n => by
  show T (S _) = _
  rw [List.append_assoc, h (z ++ y) n]
  by_cases h1 : x.length ≤ n
  · rw [if_pos h1, k y (n - x.length), List.length_append]
    by_cases h2 : z.length ≤ n - x.length
    · rw [if_pos h2, if_pos (by omega), Nat.sub_sub]
    · rw [if_neg h2, if_neg (by omega)]
  · rw [if_neg h1, d 4 (by decide), if_neg (by rw [List.length_append]; omega)]
theorem Dead.seq {S T : Rd → Rd} (h : Dead S) (k : Dead T) : Dead (fun r => T (S r)) := fun e he => by
  show T (S _) = _
  rw [h e he, k e he]
theorem Rst.nil : Rst (fun r => r) [] := fun y n => by simp
theorem takeS_dead (n : Int) (hn : 0 ≤ n) : Dead (fun r => takeS r n) := fun e he => by
  simp only [takeS, stickS, List.length_nil, List.drop_nil, if_neg he]
  split <;> rfl
theorem takeS_st (n : Nat) (x : List UInt8) (hx : x.length = n) (h0 : 0 < n) : Rst (fun r => takeS r (n : Int)) x := fun y m => by
  simp only [takeS, stickS, List.length_take, List.length_append, Int.toNat_natCast, if_true]
  by_cases h : n ≤ m
  · rw [if_neg (by omega), if_pos (by omega), List.drop_take, List.drop_left' hx, hx]
  · rw [if_pos (by omega), if_neg (by omega)]
theorem takeS_zero (r : Rd) : takeS r 0 = r := by unfold takeS; rw [if_neg (by omega)]; rfl
theorem takeV_full (n : Nat) (x : List UInt8) (hx : x.length = n) : RV (fun r => takeV r (n : Int)) x x := fun y => by
  simp only [takeV, List.length_append, Int.toNat_natCast]
  rw [if_neg (by omega), List.take_left' hx]
theorem int_dead : Dead intS := takeS_dead 8 (by decide)
theorem int_st (v : Int) : Rst intS (num8 v) := takeS_st 8 (num8 v) (num8_length v) (by decide)
theorem int_rv {v : Int} (hv : In64 v) : RV intV (num8 v) v := fun y => by
  have : takeV ⟨num8 v ++ y, 0⟩ 8 = num8 v := takeV_full 8 (num8 v) (num8_length v) y
  unfold intV; rw [this, be8_num8 v hv]
theorem cnt_dead (m : Int) : Dead (fun r => cntS r m) := fun e he => by
  have h := int_dead e he
  show cntS _ _ = _
  unfold cntS; rw [h, if_neg (by simp [he])]
theorem cnt_st {v m : Int} (hv : 0 ≤ v ∧ v ≤ m) (h64 : v ≤ 9223372036854775807) : Rst (fun r => cntS r m) (num8 v) := fun y n => by
  have h := int_st v y n
  show cntS _ _ = _
  unfold cntS
  by_cases hn : (num8 v).length ≤ n
  · rw [if_pos hn] at h ⊢
    rw [h, if_neg]
    have hi : intV ⟨(num8 v ++ y).take n, 0⟩ = v := by
      rw [List.take_append, List.take_of_length_le hn]
      exact int_rv ⟨by omega, h64⟩ _
    rw [hi]; simp; omega
  · rw [if_neg hn] at h ⊢
    rw [h, if_neg (by simp)]
theorem cnt_rv {v m : Int} (hv : 0 ≤ v ∧ v ≤ m) (h64 : v ≤ 9223372036854775807) : RV (fun r => cntV r m) (num8 v) v := fun y => by
  show cntV _ _ = _
  have h := (cnt_st hv h64).full y
  unfold cntV
  rw [show cntS ⟨num8 v ++ y, 0⟩ m = ⟨y, 0⟩ from h, if_neg (by simp [badR])]
  exact int_rv ⟨by omega, h64⟩ y
theorem blob_dead (m : Int) : Dead (fun r => blobS r m) := fun e he => by
  have h := cnt_dead m e he
  show blobS _ _ = _
  unfold blobS
  rw [show cntS ⟨[], e⟩ m = ⟨[], e⟩ from h, if_pos (by simp [badR, he])]
theorem blob_st {p : List UInt8} {m : Int} (hm : (p.length : Int) ≤ m) (h64 : m ≤ 9223372036854775807) : Rst (fun r => blobS r m) (blob p) := fun y n => by
  have h := cnt_st (v := p.length) (m := m) ⟨by omega, hm⟩ (by omega) (p ++ y) n
  have e1 : cntS ⟨(num8 p.length ++ (p ++ y)).take n, 0⟩ m = if (num8 p.length).length ≤ n then ⟨(p ++ y).take (n - (num8 p.length).length), 0⟩ else ⟨[], 4⟩ := h
  show blobS _ _ = _
  unfold blobS
  rw [show blob p ++ y = num8 p.length ++ (p ++ y) by unfold blob; rw [List.append_assoc], e1, blob_length]
  by_cases hn : (num8 (p.length : Int)).length ≤ n
  · rw [if_pos hn]
    have hc : cntV ⟨(num8 p.length ++ (p ++ y)).take n, 0⟩ m = p.length := by
      rw [List.take_append, List.take_of_length_le hn]
      exact cnt_rv (v := p.length) (m := m) ⟨by omega, hm⟩ (by omega) _
    rw [if_neg (by simp [badR]), hc, num8_length]
    rw [num8_length] at hn
    rcases Nat.eq_zero_or_pos p.length with h0 | h0
    · have hp : p = [] := List.eq_nil_of_length_eq_zero h0
      subst hp
      show takeS ⟨y.take (n - 8), 0⟩ 0 = _
      rw [takeS_zero, if_pos (by simpa using hn)]
      rfl
    · have := takeS_st p.length p rfl h0 y (n - 8)
      rw [show takeS ⟨(p ++ y).take (n - 8), 0⟩ (p.length : Int) = if p.length ≤ n - 8 then ⟨y.take (n - 8 - p.length), 0⟩ else ⟨[], 4⟩ from this]
      by_cases h2 : p.length ≤ n - 8
      · rw [if_pos h2, if_pos (by omega), Nat.sub_sub]
      · rw [if_neg h2, if_neg (by omega)]
  · rw [if_neg hn]
    rw [num8_length] at hn
    rw [if_pos (by simp [badR]), if_neg (by omega)]
theorem blob_rv {p : List UInt8} {m : Int} (hm : (p.length : Int) ≤ m) (h64 : m ≤ 9223372036854775807) : RV (fun r => blobV r m) (blob p) p := fun y => by
  have e1 : cntS ⟨num8 p.length ++ (p ++ y), 0⟩ m = ⟨p ++ y, 0⟩ := (cnt_st (v := p.length) (m := m) ⟨by omega, hm⟩ (by omega)).full (p ++ y)
  have e2 : cntV ⟨num8 p.length ++ (p ++ y), 0⟩ m = p.length := cnt_rv (v := p.length) (m := m) ⟨by omega, hm⟩ (by omega) (p ++ y)
  show blobV _ _ = _
  unfold blobV
  rw [show blob p ++ y = num8 p.length ++ (p ++ y) by unfold blob; rw [List.append_assoc], e1, e2, if_neg (by simp [badR])]
  exact takeV_full p.length p rfl y
theorem txt_blob (s : ByteArray) : txt s = blob s.data.toList := by unfold txt blob; rw [chars_length]
theorem text_st {s : ByteArray} {m : Int} (hm : (s.size : Int) ≤ m) (h64 : m ≤ 9223372036854775807) : Rst (fun r => blobS r m) (txt s) := by
  rw [txt_blob]; exact blob_st (by rw [chars_length]; exact hm) h64
theorem text_rv {s : ByteArray} {m : Int} (hm : (s.size : Int) ≤ m) (h64 : m ≤ 9223372036854775807) : RV (fun r => textV r m) (txt s) s := fun y => by
  rw [txt_blob]
  have : blobV ⟨blob s.data.toList ++ y, 0⟩ m = s.data.toList := blob_rv (by rw [chars_length]; exact hm) h64 y
  show textV _ _ = _
  unfold textV; rw [this, chars_strOf]
theorem sum_dead : Dead sumS := takeS_dead 32 (by decide)
theorem sum_st {x : List UInt8} (hx : x.length = 32) : Rst sumS x := takeS_st 32 x hx (by decide)
theorem sum_rv {x : List UInt8} (hx : x.length = 32) : RV sumV x x := fun y => by
  have : takeV ⟨x ++ y, 0⟩ 32 = x := takeV_full 32 x hx y
  unfold sumV; rw [this, hx, List.take_of_length_le (by omega)]; simp
theorem itS_dead {S : Rd → Rd} (d : Dead S) (n : Nat) : Dead (itS S n) := fun e he => by
  induction n with
  | zero => rfl
  | succ n ih => rw [itS, ih, d e he]
theorem it_st {α : Type} {S : Rd → Rd} {f : α → List UInt8} (d : Dead S) : ∀ l : List α, (∀ a ∈ l, Rst S (f a)) → Rst (itS S l.length) (l.flatMap f)
  | [], _ => Rst.nil
  | a :: l, h => by
    have := (h a List.mem_cons_self).seq (it_st d l (fun b hb => h b (List.mem_cons_of_mem _ hb))) (itS_dead d _)
    rw [List.flatMap_cons, List.length_cons]
    intro y n
    rw [itS_succ]; exact this y n
theorem many_rv {α : Type} {V : Rd → α} {S : Rd → Rd} {f : α → List UInt8} : ∀ l : List α, (∀ a ∈ l, Rst S (f a) ∧ RV V (f a) a) → RV (many V S l.length) (l.flatMap f) l
  | [], _ => fun y => rfl
  | a :: l, h => fun y => by
    rw [List.length_cons, many_succ, List.flatMap_cons, List.append_assoc, (h a List.mem_cons_self).2, (h a List.mem_cons_self).1.full, many_rv l (fun b hb => h b (List.mem_cons_of_mem _ hb)) y]
theorem rows_dead {S : Rd → Rd} (d : Dead S) (m : Int) : Dead (fun r => rowsS S r m) := fun e he => by
  show rowsS _ _ _ = _
  unfold rowsS
  rw [show cntS ⟨[], e⟩ m = ⟨[], e⟩ from cnt_dead m e he, itS_dead d _ e he]
theorem rows_st {α : Type} {S : Rd → Rd} {f : α → List UInt8} {m : Int} {l : List α} (d : Dead S) (hm : (l.length : Int) ≤ m) (h64 : m ≤ 9223372036854775807) (h : ∀ a ∈ l, Rst S (f a)) : Rst (fun r => rowsS S r m) (rowsB f l) := fun y n => by
  show rowsS _ _ _ = _
  unfold rowsS
  have e1 : cntS ⟨(num8 l.length ++ (l.flatMap f ++ y)).take n, 0⟩ m = if (num8 l.length).length ≤ n then ⟨(l.flatMap f ++ y).take (n - (num8 l.length).length), 0⟩ else ⟨[], 4⟩ := cnt_st (v := l.length) (m := m) ⟨by omega, hm⟩ (by omega) (l.flatMap f ++ y) n
  rw [show rowsB f l ++ y = num8 l.length ++ (l.flatMap f ++ y) by unfold rowsB; rw [List.append_assoc], e1]
  have hlen : (rowsB f l).length = 8 + (l.flatMap f).length := by unfold rowsB; rw [List.length_append, num8_length]
  rw [hlen]
  by_cases hn : (num8 (l.length : Int)).length ≤ n
  · rw [if_pos hn]
    have hc : cntV ⟨(num8 l.length ++ (l.flatMap f ++ y)).take n, 0⟩ m = l.length := by
      rw [List.take_append, List.take_of_length_le hn]
      exact cnt_rv (v := l.length) (m := m) ⟨by omega, hm⟩ (by omega) _
    rw [hc, Int.toNat_natCast, it_st d l h, num8_length]
    rw [num8_length] at hn
    by_cases h2 : (l.flatMap f).length ≤ n - 8
    · rw [if_pos h2, if_pos (by omega), Nat.sub_sub]
    · rw [if_neg h2, if_neg (by omega)]
  · rw [if_neg hn, itS_dead d _ 4 (by decide), if_neg (by rw [num8_length] at hn; omega)]
theorem rows_rv {α : Type} {V : Rd → α} {S : Rd → Rd} {f : α → List UInt8} {m : Int} {l : List α} (hm : (l.length : Int) ≤ m) (h64 : m ≤ 9223372036854775807) (h : ∀ a ∈ l, Rst S (f a) ∧ RV V (f a) a) : RV (fun r => rowsV V S r m) (rowsB f l) l := fun y => by
  show rowsV _ _ _ _ = _
  unfold rowsV
  have e1 : cntS ⟨num8 l.length ++ (l.flatMap f ++ y), 0⟩ m = ⟨l.flatMap f ++ y, 0⟩ := (cnt_st (v := l.length) (m := m) ⟨by omega, hm⟩ (by omega)).full _
  have e2 : cntV ⟨num8 l.length ++ (l.flatMap f ++ y), 0⟩ m = l.length := cnt_rv (v := l.length) (m := m) ⟨by omega, hm⟩ (by omega) _
  rw [show rowsB f l ++ y = num8 l.length ++ (l.flatMap f ++ y) by unfold rowsB; rw [List.append_assoc], e1, e2, Int.toNat_natCast, many_rv l h y]
end Go.Proofs.YtdioiepkbolnlaaGreatDoor
