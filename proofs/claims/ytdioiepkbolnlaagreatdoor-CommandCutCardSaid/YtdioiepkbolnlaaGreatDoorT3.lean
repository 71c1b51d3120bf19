import Derived.Test.YtdioiepkbolnlaaGreatDoorT2
set_option linter.unusedSimpArgs false
set_option linter.unusedVariables false
set_option linter.unnecessarySimpa false
set_option maxRecDepth 100000
set_option maxHeartbeats 4000000
namespace Go.Proofs.YtdioiepkbolnlaaGreatDoor
open Go.RowKit
attribute [local irreducible] OpC OpM 
theorem en153 : Enters Tryz.prog 153 := enters_of Tryz.func153 (by kernel_rfl) rfl
theorem ar168 : ArT Tryz.prog 168 256 4 1 := ⟨by kernel_rfl, by kernel_rfl, by decide⟩
theorem zt168 : ∀ w, (zeroValue 168).run Tryz.prog w = .ok (.agg (Array.replicate 256 (.bool false))) w := fun _ => by kernel_rfl
theorem ld168 : LdT Tryz.prog 168 true 256 := ⟨by kernel_rfl, by kernel_rfl⟩
theorem en162 : Enters Tryz.prog 162 := enters_of Tryz.func162 (by kernel_rfl) rfl
theorem en156 : Enters Tryz.prog 156 := enters_of Tryz.func156 (by kernel_rfl) rfl
theorem en158 : Enters Tryz.prog 158 := enters_of Tryz.func158 (by kernel_rfl) rfl
theorem en157 : Enters Tryz.prog 157 := enters_of Tryz.func157 (by kernel_rfl) rfl
theorem en149 : Enters Tryz.prog 149 := enters_of Tryz.func149 (by kernel_rfl) rfl
theorem en150 : Enters Tryz.prog 150 := enters_of Tryz.func150 (by kernel_rfl) rfl
theorem en122 : Enters Tryz.prog 122 := enters_of Tryz.func122 (by kernel_rfl) rfl

theorem ext_ix (s : ByteArray) (c : UInt8) : ExtT Tryz.prog 161 [.string s, bv c] (.int .i64 (ixB s c)) := fun w => by
  rw [run_callFunc_extern (fn := Tryz.f161) rfl (by kernel_rfl) (by kernel_rfl) (by kernel_rfl) (e := Extern.BytealgIndexByte.indexByte) (by kernel_rfl)]
  show ((Extern.BytealgIndexByte.indexByte #[.string s, .int .u8 (c.toNat : Int)]).run Tryz.prog w).andThen _ = _
  rw [Lib.run_indexByteString]
  simp [Result.andThen, ixB]
-- internal/stringslite.IndexByte
theorem slix_ct (s : ByteArray) (c : UInt8) : Ct Tryz.prog 153 [Rep.is (.string (s)), Rep.is (bv (c))] (Rep.is (.int .i64 (ixB s c))) := by
  refine CtG.of Tryz.func153 rfl rfl (Nat.le_of_ble_eq_true rfl) (fun w0 h0 hp => ?_)
  refine J.seq ?_
  refine J.reg_ hmix ([plain (Rep.is (.int .i64 (0)))]) (by kernel_rfl) rfl ⟨OpG.none_ rfl (op_assign rfl (Ent.refl _)), trivial⟩ rfl ?_
  refine E.next ?_
  refine J.seq ?_
  refine J.reg_ hmix ([plain (Rep.is (.string (s))), plain (Rep.is (bv (c))), plain (Rep.is (.int .i64 (ixB (s) (c)))), plain (Rep.is (.int .i64 (ixB (s) (c))))]) (by kernel_rfl) rfl ⟨OpG.none_ rfl (op_move rfl (Ent.refl _)), OpG.none_ rfl (op_move rfl (Ent.refl _)), OpG.none_ rfl (op_callx [.string (s), bv (c)] rfl ⟨(Ent.refl _), (Ent.refl _), trivial⟩ (ext_ix (s) (c))), OpG.none_ rfl (op_assign rfl (Ent.refl _)), trivial⟩ rfl ?_
  refine E.next ?_
  refine J.ret ?_
  exact E.ret1 rfl (ent_i (by first | rfl | (simp; done) | omega | (simp only [vs0, vs1, decide_eq_true_eq, decide_eq_false_iff_not, Bool.not_eq_true, Bool.not_eq_false, Decidable.not_not, strOf_size, strOf_chars, ascSet_length, ba_size] at *; omega) | (simp [vs0, vs1, decide_eq_true_eq, decide_eq_false_iff_not, Bool.not_eq_true, Bool.not_eq_false, Decidable.not_not, strOf_size, strOf_chars, ascSet_length, ba_size, *]; done)))
-- strings.IndexByte
theorem six_ct (s : ByteArray) (c : UInt8) : Ct Tryz.prog 149 [Rep.is (.string (s)), Rep.is (bv (c))] (Rep.is (.int .i64 (ixB s c))) := by
  refine CtG.of Tryz.func149 rfl rfl (Nat.le_of_ble_eq_true rfl) (fun w0 h0 hp => ?_)
  refine J.seq ?_
  refine J.reg_ hmix ([plain (Rep.is (.int .i64 (0)))]) (by kernel_rfl) rfl ⟨OpG.none_ rfl (op_assign rfl (Ent.refl _)), trivial⟩ rfl ?_
  refine E.next ?_
  refine J.seq ?_
  refine J.reg_ hmix ([plain (Rep.is (.string (s))), plain (Rep.is (bv (c))), plain (Rep.is (.int .i64 (ixB s c))), plain (Rep.is (.int .i64 (ixB s c)))]) (by kernel_rfl) rfl ⟨OpG.none_ rfl (op_move rfl (Ent.refl _)), OpG.none_ rfl (op_move rfl (Ent.refl _)), OpG.none_ rfl (g_call rfl en153 (slix_ct s c) ⟨(Ent.refl _), (Ent.refl _), trivial⟩), OpG.none_ rfl (op_assign rfl (Ent.refl _)), trivial⟩ rfl ?_
  refine E.next ?_
  refine J.ret ?_
  exact E.ret1 rfl (Ent.refl _)
-- (*strings.asciiSet).contains
theorem asc_ct (a : List Bool) (c : UInt8) : Ct Tryz.prog 162 [ptr ((kArr 256 kB).fp (a)), Rep.is (bv (c))] (Rep.is (.bool (inSet a c))) := by
  refine CtG.of Tryz.func162 rfl rfl (Nat.le_of_ble_eq_true rfl) (fun w0 h0 hp => ?_)
  refine J.seq ?_
  refine J.reg_ hmix ([plain (Rep.is (.bool (false)))]) (by kernel_rfl) rfl ⟨OpG.none_ rfl (op_assign rfl (Ent.refl _)), trivial⟩ rfl ?_
  refine E.next ?_
  refine J.seq ?_
  refine J.reg_ hmix ([plain (ptr ((kArr 256 kB).fp (a))), plain (Rep.is (bv (c))), plain (ptr ((kArr 256 kB).fp (a))), plain (ptr (kB.fp (a.getD ((c).toNat) false))), plain (Rep.is (.bool (a.getD ((c).toNat) false))), plain (Rep.is (.bool (a.getD ((c).toNat) false)))]) (by kernel_rfl) rfl ⟨OpG.none_ rfl (op_move rfl (Ent.refl _)), OpG.none_ rfl (op_move rfl (Ent.refl _)), OpG.none_ rfl (op_nilP rfl (Ent.refl _)), OpG.none_ rfl (op_indexA (k := kB) (j := ((c).toNat : Int)) false rfl ar168 (Ent.refl _) (Ent.refl _) (by have := UInt8.toNat_lt (c); omega)), OpG.none_ rfl (g_loadB rfl ld4 (Ent.refl _)), OpG.none_ rfl (op_assign rfl (Ent.refl _)), trivial⟩ rfl ?_
  refine E.next ?_
  refine J.ret ?_
  exact E.ret1 rfl (ent_b (by rfl))
-- strings.makeASCIISet
theorem mkasc_ct (cs : ByteArray) (ha : ∀ c ∈ cs.data.toList, c.toNat < 128) (hs : cs.size ≤ 1000) : Ct Tryz.prog 156 [Rep.is (.string (cs))] (tup [(kArr 256 kB).rep (ascSet cs.data.toList), Rep.is (.bool (true))]) := by
  refine CtG.of Tryz.func156 rfl rfl (Nat.le_of_ble_eq_true rfl) (fun w0 h0 hp => ?_)
  refine J.seq ?_
  refine J.regL (is := [0, 1]) rfl ?_
  refine JO.newB rfl rfl rfl (Nat.le_of_ble_eq_true rfl) (op_alloc (f := (kArr 256 kB).fp ((List.replicate 256 false))) rfl zt168 (fun h => zarrG kB (false) _ (fun _ => rfl) 256 h)) (fun b1 => ?_)
  refine JO.plain (R := Rep.is (.bool (false))) rfl rfl rfl (Nat.le_of_ble_eq_true rfl) (op_assign rfl (Ent.refl _)) ?_
  refine JO.nil ?_
  refine E.next ?_
  refine J.seq ?_
  refine J.seq ?_
  refine J.reg_ hmix ([plain (Rep.is (.int .i64 (0)))]) (by kernel_rfl) rfl ⟨OpG.none_ rfl (op_assign rfl (Ent.refl _)), trivial⟩ rfl ?_
  refine E.next ?_
  refine J.block ?_
  refine J.loop (ι := Nat) (fun i_ => (upd (upd (upd top 0 (Rep.is (.string (cs)))) 2 (Rep.is (pb b1 0))) 4 (Rep.is (.int .i64 ((i_ : Int)))))) (fun i_ => [blkI b1 ((kArr 256 kB).fp (ascSet (cs.data.toList.take i_)))]) (fun i_ => i_ ≤ cs.size) (fun i_ => cs.size - i_) (0) (by first | rfl | (rw [List.take_zero, ascSet_nil])) (by first | omega | (simp [vs0, vs1, decide_eq_true_eq, decide_eq_false_iff_not, Bool.not_eq_true, Bool.not_eq_false, Decidable.not_not, strOf_size, strOf_chars, ascSet_length, ba_size, *]; done) | (simp [vs0, vs1, decide_eq_true_eq, decide_eq_false_iff_not, Bool.not_eq_true, Bool.not_eq_false, Decidable.not_not, strOf_size, strOf_chars, ascSet_length, ba_size, *]; omega)) (by exact (Sub.upd (Sub.upd (Sub.upd (Sub.top _) 0 (Ent.refl _)) 2 (Ent.refl _)) 4 (ent_i (by first | rfl | (simp; done) | omega | (simp only [vs0, vs1, decide_eq_true_eq, decide_eq_false_iff_not, Bool.not_eq_true, Bool.not_eq_false, Decidable.not_not, strOf_size, strOf_chars, ascSet_length, ba_size] at *; omega) | (simp [vs0, vs1, decide_eq_true_eq, decide_eq_false_iff_not, Bool.not_eq_true, Bool.not_eq_false, Decidable.not_not, strOf_size, strOf_chars, ascSet_length, ba_size, *]; done))))) ?_
  rintro k hl0
  skip
  refine J.seq ?_
  refine J.seq ?_
  refine J.reg_ hmix ([plain (Rep.is (.int .i64 ((k : Int)))), plain (Rep.is (.string (cs))), plain (Rep.is (.int .i64 (((cs).size : Int)))), plain (Rep.is (.bool (decide ((k : Int) < ((cs).size : Int)))))]) (by kernel_rfl) rfl ⟨OpG.none_ rfl (op_move rfl (Ent.refl _)), OpG.none_ rfl (op_move rfl (Ent.refl _)), OpG.none_ rfl (op_lens rfl (Ent.refl _) un9), OpG.none_ rfl (op_lss rfl (Ent.refl _) (Ent.refl _)), trivial⟩ rfl ?_
  refine E.next ?_
  refine J.cond (B := decide ((k : Int) < ((cs).size : Int))) (Ent.refl _) (fun hc0 => ?_) (fun hc0 => ?_)
  ·
    try simp only [vb0, decide_eq_true_eq, decide_eq_false_iff_not, Bool.not_eq_true, Bool.not_eq_false, Decidable.not_not] at hc0
    have hk : k < cs.data.toList.length := by rw [chars_length]; omega
    refine J.skip ?_
    refine E.next ?_
    refine J.seq ?_
    refine J.block ?_
    refine J.seq ?_
    refine J.reg_ hmix ([plain (Rep.is (.string (cs))), plain (Rep.is (.int .i64 ((k : Int)))), plain (Rep.is (bv ((cs).data.toList.getD k 0))), plain (Rep.is (bv ((cs).data.toList.getD k 0)))]) (by kernel_rfl) rfl ⟨OpG.none_ rfl (op_move rfl (Ent.refl _)), OpG.none_ rfl (op_move rfl (Ent.refl _)), OpG.none_ rfl (g_sidx (i := (k : Int)) rfl un9 (Ent.refl _) (Ent.refl _) (by first | omega | (simp only [vs0, vs1, decide_eq_true_eq, decide_eq_false_iff_not, Bool.not_eq_true, Bool.not_eq_false, Decidable.not_not, strOf_size, strOf_chars, ascSet_length, ba_size] at *; omega) | (simp [vs0, vs1, decide_eq_true_eq, decide_eq_false_iff_not, Bool.not_eq_true, Bool.not_eq_false, Decidable.not_not, strOf_size, strOf_chars, ascSet_length, ba_size] at *; omega))), OpG.none_ rfl (op_assign rfl (Ent.refl _)), trivial⟩ rfl ?_
    refine E.next ?_
    refine J.seq ?_
    refine J.seq ?_
    refine J.reg_ hmix ([plain (Rep.is (bv ((cs).data.toList.getD k 0))), plain (Rep.is (.bool (decide (128 ≤ (((cs).data.toList.getD k 0).toNat : Int)))))]) (by kernel_rfl) rfl ⟨OpG.none_ rfl (op_move rfl (Ent.refl _)), OpG.none_ rfl (op_geq rfl (Ent.refl _) (Ent.refl _)), trivial⟩ rfl ?_
    refine E.next ?_
    refine J.cond (B := decide (128 ≤ (((cs).data.toList.getD k 0).toNat : Int))) (Ent.refl _) (fun hc1 => ?_) (fun hc1 => ?_)
    ·
      try simp only [vb0, decide_eq_true_eq, decide_eq_false_iff_not, Bool.not_eq_true, Bool.not_eq_false, Decidable.not_not] at hc1
      have := ha (cs.data.toList.getD k 0) (getD_mem hk); omega
    ·
      try simp only [vb0, decide_eq_true_eq, decide_eq_false_iff_not, Bool.not_eq_true, Bool.not_eq_false, Decidable.not_not] at hc1
      refine J.skip ?_
      refine E.next ?_
      refine J.regL (is := [0, 1, 2]) rfl ?_
      refine JO.plain (R := Rep.is (bv ((cs).data.toList.getD k 0))) rfl rfl rfl (Nat.le_of_ble_eq_true rfl) (op_move rfl (Ent.refl _)) ?_
      refine JO.plain (R := Rep.is (pb b1 ((((cs).data.toList.getD k 0).toNat) * 1))) rfl rfl rfl (Nat.le_of_ble_eq_true rfl) (op_indexAB0 (j := (((cs).data.toList.getD k 0).toNat)) rfl ar168 (Ent.refl _) ((Ent.refl _).trans (ent_i (by first | rfl | omega | (simp only [vs0, vs1, decide_eq_true_eq, decide_eq_false_iff_not, Bool.not_eq_true, Bool.not_eq_false, Decidable.not_not, strOf_size, strOf_chars, ascSet_length, ba_size] at *; omega)))) (by have := UInt8.toNat_lt ((cs).data.toList.getD k 0); omega)) ?_
      refine JO.store (f := (kArr 256 kB).fp (ascSet (cs.data.toList.take k))) (f' := (kArr 256 kB).fp ((ascSet (cs.data.toList.take k)).set (((cs).data.toList.getD k 0).toNat) true)) (g := kB.fp (true)) rfl rfl rfl rfl (Ent.refl _) ((Ent.refl _).trans (bool_rep _)) ld4.2 (Turn.arr (k := kB) (n := 256) (xs := ascSet (cs.data.toList.take k)) (j := (((cs).data.toList.getD k 0).toNat)) (y := true) (by have := UInt8.toNat_lt ((cs).data.toList.getD k 0); omega)) ?_
      refine JO.nil ?_
      refine E.blockEnd ?_
      refine E.next ?_
      refine J.reg_ hmix ([plain (Rep.is (.int .i64 ((k : Int)))), plain (Rep.is (.int .i64 ((k : Int) + 1))), plain (Rep.is (.int .i64 ((k : Int) + 1)))]) (by kernel_rfl) rfl ⟨OpG.none_ rfl (op_move rfl (Ent.refl _)), OpG.none_ rfl (g_add rfl (Ent.refl _) (Ent.refl _) (by first | omega | (simp only [vs0, vs1, decide_eq_true_eq, decide_eq_false_iff_not, Bool.not_eq_true, Bool.not_eq_false, Decidable.not_not, strOf_size, strOf_chars, ascSet_length, ba_size] at *; omega) | (simp [vs0, vs1, decide_eq_true_eq, decide_eq_false_iff_not, Bool.not_eq_true, Bool.not_eq_false, Decidable.not_not, strOf_size, strOf_chars, ascSet_length, ba_size] at *; omega))), OpG.none_ rfl (op_assign rfl (Ent.refl _)), trivial⟩ rfl ?_
      have how2 : (ascSet (cs.data.toList.take k)).set (((cs).data.toList.getD k 0).toNat) true = ascSet (cs.data.toList.take (k + 1)) := by exact ascSet_snoc _ k hk
      exact E.again (k + 1) (by first | rfl | (rw [how2]; done) | (simp only [how2]; done) | (simp; done)) (by omega) (by omega) (by exact (Sub.upd (Sub.upd (Sub.upd (Sub.top _) 0 (Ent.refl _)) 2 (Ent.refl _)) 4 (ent_i (by first | rfl | (simp; done) | omega | (simp only [vs0, vs1, decide_eq_true_eq, decide_eq_false_iff_not, Bool.not_eq_true, Bool.not_eq_false, Decidable.not_not, strOf_size, strOf_chars, ascSet_length, ba_size] at *; omega) | (simp [vs0, vs1, decide_eq_true_eq, decide_eq_false_iff_not, Bool.not_eq_true, Bool.not_eq_false, Decidable.not_not, strOf_size, strOf_chars, ascSet_length, ba_size, *]; done)))))
  ·
    try simp only [vb0, decide_eq_true_eq, decide_eq_false_iff_not, Bool.not_eq_true, Bool.not_eq_false, Decidable.not_not] at hc0
    refine J.exit ?_
    refine E.passX ?_
    refine E.passX ?_
    refine E.hit ?_
    refine E.next ?_
    refine J.seq ?_
    refine J.regL (is := [0, 1, 2]) rfl ?_
    refine JO.plain (R := (kArr 256 kB).rep (ascSet (cs.data.toList.take k))) rfl rfl rfl (Nat.le_of_ble_eq_true rfl) (g_loadP (f := (kArr 256 kB).fp (ascSet (cs.data.toList.take k))) (g := (kArr 256 kB).fp (ascSet (cs.data.toList.take k))) rfl ld168 (by repeat (first | exact List.mem_cons_self | apply List.mem_cons_of_mem)) (Part.all _) (Ent.refl _)) ?_
    refine JO.store (f := (kArr 256 kB).fp (ascSet (cs.data.toList.take k))) (f' := (kArr 256 kB).fp (ascSet (cs.data.toList.take k))) (g := (kArr 256 kB).fp (ascSet (cs.data.toList.take k))) rfl rfl rfl rfl (Ent.refl _) (Ent.refl _) ld168.2 (Turn.all _ _ rfl) ?_
    refine JO.plain (R := Rep.is (.bool (true))) rfl rfl rfl (Nat.le_of_ble_eq_true rfl) (op_assign rfl (Ent.refl _)) ?_
    refine JO.nil ?_
    refine E.next ?_
    refine J.ret ?_
    exact g_retC1e (k := (kArr 256 kB)) (x := ascSet (cs.data.toList.take k)) rfl (Ent.refl _) (by repeat (first | exact List.mem_cons_self | apply List.mem_cons_of_mem)) ld168 (Ent.refl _) (by have h8 : k = cs.size := (by have := hl0; omega); subst h8; rw [List.take_of_length_le (by rw [chars_length]; exact Nat.le_refl _)])
-- strings.trimRightASCII
theorem trimr_ct (s : ByteArray) (a : List Bool) (hb : s.size ≤ 1000) : Ct Tryz.prog 158 [Rep.is (.string (s)), ptr ((kArr 256 kB).fp (a))] (Rep.is (.string (strOf (trimR (inSet a) s.data.toList s.size)))) := by
  refine CtG.of Tryz.func158 rfl rfl (Nat.le_of_ble_eq_true rfl) (fun w0 h0 hp => ?_)
  refine J.seq ?_
  refine J.reg_ hmix ([plain (Rep.is (.string ((⟨#[]⟩ : ByteArray))))]) (by kernel_rfl) rfl ⟨OpG.none_ rfl (op_assign rfl (Ent.refl _)), trivial⟩ rfl ?_
  refine E.next ?_
  refine J.cut (ι := Nat) (fun i_ => (upd (upd top 0 (Rep.is (.string (strOf (s.data.toList.take i_))))) 4 (Rep.is (.string ((⟨#[]⟩ : ByteArray)))))) (fun i_ => []) (fun i_ => trimR (inSet a) s.data.toList s.size = s.data.toList.take i_) ?_ ?_
  ·
    refine J.block ?_
    refine J.loop (ι := Nat) (fun i_ => (upd (upd (upd top 0 (Rep.is (.string (strOf (s.data.toList.take i_))))) 1 (ptr ((kArr 256 kB).fp (a)))) 4 (Rep.is (.string ((⟨#[]⟩ : ByteArray)))))) (fun i_ => []) (fun i_ => i_ ≤ s.size ∧ trimR (inSet a) s.data.toList s.size = trimR (inSet a) s.data.toList i_) (fun i_ => i_) (s.size) (by first | rfl | (simp; done)) (by exact ⟨Nat.le_refl _, rfl⟩) (by exact (Sub.upd (Sub.upd (Sub.upd (Sub.top _) 0 (ent_s (by rw [List.take_of_length_le (by rw [chars_length]; exact Nat.le_refl _), chars_strOf]))) 1 (Ent.refl _)) 4 (Ent.refl _))) ?_
    rintro k hl0
    skip
    have hsz := strTake_size s k hl0.1
    refine J.seq ?_
    refine J.seq ?_
    refine J.reg_ hmix ([plain (Rep.is (.string (strOf (s.data.toList.take k)))), plain (Rep.is (.int .i64 (((strOf (s.data.toList.take k)).size : Int)))), plain (Rep.is (.bool (decide (0 < ((strOf (s.data.toList.take k)).size : Int)))))]) (by kernel_rfl) rfl ⟨OpG.none_ rfl (op_move rfl (Ent.refl _)), OpG.none_ rfl (op_lens rfl (Ent.refl _) un9), OpG.none_ rfl (op_gtr rfl (Ent.refl _) (Ent.refl _)), trivial⟩ rfl ?_
    refine E.next ?_
    refine J.cond (B := decide (0 < ((strOf (s.data.toList.take k)).size : Int))) (Ent.refl _) (fun hc0 => ?_) (fun hc0 => ?_)
    ·
      try simp only [vb0, decide_eq_true_eq, decide_eq_false_iff_not, Bool.not_eq_true, Bool.not_eq_false, Decidable.not_not] at hc0
      refine J.skip ?_
      refine E.next ?_
      refine J.block ?_
      refine J.seq ?_
      refine J.seq ?_
      refine J.reg_ hmix ([plain (ptr ((kArr 256 kB).fp (a))), plain (Rep.is (.string (strOf (s.data.toList.take k)))), plain (Rep.is (.string (strOf (s.data.toList.take k)))), plain (Rep.is (.int .i64 (((strOf (s.data.toList.take k)).size : Int)))), plain (Rep.is (.int .i64 (((strOf (s.data.toList.take k)).size : Int) - 1))), plain (Rep.is (bv ((strOf (s.data.toList.take k)).data.toList.getD ((((strOf (s.data.toList.take k)).size : Int) - 1).toNat) 0))), plain (Rep.is (.bool (inSet a ((strOf (s.data.toList.take k)).data.toList.getD ((((strOf (s.data.toList.take k)).size : Int) - 1).toNat) 0)))), plain (Rep.is (.bool (!(inSet a ((strOf (s.data.toList.take k)).data.toList.getD ((((strOf (s.data.toList.take k)).size : Int) - 1).toNat) 0)))))]) (by kernel_rfl) rfl ⟨OpG.none_ rfl (op_move rfl (Ent.refl _)), OpG.none_ rfl (op_move rfl (Ent.refl _)), OpG.none_ rfl (op_move rfl (Ent.refl _)), OpG.none_ rfl (op_lens rfl (Ent.refl _) un9), OpG.none_ rfl (g_sub rfl (Ent.refl _) (Ent.refl _) (by first | omega | (simp only [vs0, vs1, decide_eq_true_eq, decide_eq_false_iff_not, Bool.not_eq_true, Bool.not_eq_false, Decidable.not_not, strOf_size, strOf_chars, ascSet_length, ba_size] at *; omega) | (simp [vs0, vs1, decide_eq_true_eq, decide_eq_false_iff_not, Bool.not_eq_true, Bool.not_eq_false, Decidable.not_not, strOf_size, strOf_chars, ascSet_length, ba_size] at *; omega))), OpG.none_ rfl (g_sidx (i := ((strOf (s.data.toList.take k)).size : Int) - 1) rfl un9 (Ent.refl _) (Ent.refl _) (by first | omega | (simp only [vs0, vs1, decide_eq_true_eq, decide_eq_false_iff_not, Bool.not_eq_true, Bool.not_eq_false, Decidable.not_not, strOf_size, strOf_chars, ascSet_length, ba_size] at *; omega) | (simp [vs0, vs1, decide_eq_true_eq, decide_eq_false_iff_not, Bool.not_eq_true, Bool.not_eq_false, Decidable.not_not, strOf_size, strOf_chars, ascSet_length, ba_size] at *; omega))), OpG.none_ rfl (g_call rfl en162 (asc_ct a ((strOf (s.data.toList.take k)).data.toList.getD ((((strOf (s.data.toList.take k)).size : Int) - 1).toNat) 0)) ⟨(Ent.refl _), (Ent.refl _), trivial⟩), OpG.none_ rfl (op_not rfl (Ent.refl _)), trivial⟩ rfl ?_
      refine E.next ?_
      refine J.cond (B := !(inSet a ((strOf (s.data.toList.take k)).data.toList.getD ((((strOf (s.data.toList.take k)).size : Int) - 1).toNat) 0))) (Ent.refl _) (fun hc1 => ?_) (fun hc1 => ?_)
      ·
        try simp only [vb0, decide_eq_true_eq, decide_eq_false_iff_not, Bool.not_eq_true, Bool.not_eq_false, Decidable.not_not] at hc1
        have hp : inSet a (s.data.toList.getD (k - 1) 0) = false := by rw [← last_at s k hl0.1 (by omega)]; exact hc1
        refine J.exit ?_
        refine E.passX ?_
        refine E.miss (by decide) ?_
        refine E.passX ?_
        refine E.hit ?_
        exact E.meet (k) (by first | rfl | (simp; done)) (by exact trimR_stop hl0.2 (by omega) hp) (by exact (Sub.upd (Sub.upd (Sub.top _) 0 (Ent.refl _)) 4 (Ent.refl _)))
      ·
        try simp only [vb0, decide_eq_true_eq, decide_eq_false_iff_not, Bool.not_eq_true, Bool.not_eq_false, Decidable.not_not] at hc1
        have hp : inSet a (s.data.toList.getD (k - 1) 0) = true := by rw [← last_at s k hl0.1 (by omega)]; exact hc1
        refine J.skip ?_
        refine E.next ?_
        refine J.reg_ hmix ([plain (Rep.is (.string (strOf (s.data.toList.take k)))), plain (Rep.is (.string (strOf (s.data.toList.take k)))), plain (Rep.is (.int .i64 (((strOf (s.data.toList.take k)).size : Int)))), plain (Rep.is (.int .i64 (((strOf (s.data.toList.take k)).size : Int) - 1))), plain (Rep.is (.string (strOf (((strOf (s.data.toList.take k)).data.toList.take ((((strOf (s.data.toList.take k)).size : Int) - 1).toNat)).drop 0)))), plain (Rep.is (.string (strOf (((strOf (s.data.toList.take k)).data.toList.take ((((strOf (s.data.toList.take k)).size : Int) - 1).toNat)).drop 0))))]) (by kernel_rfl) rfl ⟨OpG.none_ rfl (op_move rfl (Ent.refl _)), OpG.none_ rfl (op_move rfl (Ent.refl _)), OpG.none_ rfl (op_lens rfl (Ent.refl _) un9), OpG.none_ rfl (g_sub rfl (Ent.refl _) (Ent.refl _) (by first | omega | (simp only [vs0, vs1, decide_eq_true_eq, decide_eq_false_iff_not, Bool.not_eq_true, Bool.not_eq_false, Decidable.not_not, strOf_size, strOf_chars, ascSet_length, ba_size] at *; omega) | (simp [vs0, vs1, decide_eq_true_eq, decide_eq_false_iff_not, Bool.not_eq_true, Bool.not_eq_false, Decidable.not_not, strOf_size, strOf_chars, ascSet_length, ba_size] at *; omega))), OpG.none_ rfl (op_cutS (i := 0) (j := (((strOf (s.data.toList.take k)).size : Int) - 1).toNat) rfl un9 (Ent.refl _) rfl ⟨_, (Ent.refl _).trans (ent_i (by first | omega | (simp only [vs0, vs1, decide_eq_true_eq, decide_eq_false_iff_not, Bool.not_eq_true, Bool.not_eq_false, Decidable.not_not, strOf_size, strOf_chars, ascSet_length, ba_size] at *; omega) | (simp [vs0, vs1, decide_eq_true_eq, decide_eq_false_iff_not, Bool.not_eq_true, Bool.not_eq_false, Decidable.not_not, strOf_size, strOf_chars, ascSet_length, ba_size] at *; omega)))⟩ (by first | omega | (simp only [vs0, vs1, decide_eq_true_eq, decide_eq_false_iff_not, Bool.not_eq_true, Bool.not_eq_false, Decidable.not_not, strOf_size, strOf_chars, ascSet_length, ba_size] at *; omega) | (simp [vs0, vs1, decide_eq_true_eq, decide_eq_false_iff_not, Bool.not_eq_true, Bool.not_eq_false, Decidable.not_not, strOf_size, strOf_chars, ascSet_length, ba_size] at *; omega))), OpG.none_ rfl (op_assign rfl (Ent.refl _)), trivial⟩ rfl ?_
        refine E.blockEnd ?_
        exact E.again (k - 1) (by first | rfl | (simp; done)) (by exact ⟨by omega, trimR_go hl0.2 (by omega) hp⟩) (by omega) (by exact (Sub.upd (Sub.upd (Sub.upd (Sub.top _) 0 (ent_s (by exact take_cut s k hl0.1 (by omega)))) 1 (Ent.refl _)) 4 (Ent.refl _)))
    ·
      try simp only [vb0, decide_eq_true_eq, decide_eq_false_iff_not, Bool.not_eq_true, Bool.not_eq_false, Decidable.not_not] at hc0
      refine J.exit ?_
      refine E.passX ?_
      refine E.passX ?_
      refine E.hit ?_
      exact E.meet (k) (by first | rfl | (simp; done)) (by exact trimR_zero hl0.2 (by omega)) (by exact (Sub.upd (Sub.upd (Sub.top _) 0 (Ent.refl _)) 4 (Ent.refl _)))
  ·
    rintro k hj0
    refine J.seq ?_
    refine J.reg_ hmix ([plain (Rep.is (.string (strOf (s.data.toList.take k)))), plain (Rep.is (.string (strOf (s.data.toList.take k))))]) (by kernel_rfl) rfl ⟨OpG.none_ rfl (op_move rfl (Ent.refl _)), OpG.none_ rfl (op_assign rfl (Ent.refl _)), trivial⟩ rfl ?_
    refine E.next ?_
    refine J.ret ?_
    exact E.ret1 rfl (ent_s (by rw [hj0]))
-- strings.trimLeftASCII
theorem triml_ct (s : ByteArray) (a : List Bool) : Ct Tryz.prog 157 [Rep.is (.string (s)), ptr ((kArr 256 kB).fp (a))] (Rep.is (.string (strOf (s.data.toList.dropWhile (inSet a))))) := by
  refine CtG.of Tryz.func157 rfl rfl (Nat.le_of_ble_eq_true rfl) (fun w0 h0 hp => ?_)
  refine J.seq ?_
  refine J.reg_ hmix ([plain (Rep.is (.string ((⟨#[]⟩ : ByteArray))))]) (by kernel_rfl) rfl ⟨OpG.none_ rfl (op_assign rfl (Ent.refl _)), trivial⟩ rfl ?_
  refine E.next ?_
  refine J.cut (ι := Nat) (fun i_ => (upd (upd top 0 (Rep.is (.string (strOf (s.data.toList.drop i_))))) 4 (Rep.is (.string ((⟨#[]⟩ : ByteArray)))))) (fun i_ => []) (fun i_ => s.data.toList.dropWhile (inSet a) = s.data.toList.drop i_) ?_ ?_
  ·
    refine J.block ?_
    refine J.loop (ι := Nat) (fun i_ => (upd (upd (upd top 0 (Rep.is (.string (strOf (s.data.toList.drop i_))))) 1 (ptr ((kArr 256 kB).fp (a)))) 4 (Rep.is (.string ((⟨#[]⟩ : ByteArray)))))) (fun i_ => []) (fun i_ => i_ ≤ s.size ∧ s.data.toList.dropWhile (inSet a) = (s.data.toList.drop i_).dropWhile (inSet a)) (fun i_ => s.size - i_) (0) (by first | rfl | (simp; done)) (by exact ⟨Nat.zero_le _, rfl⟩) (by exact (Sub.upd (Sub.upd (Sub.upd (Sub.top _) 0 (ent_s (by rw [List.drop_zero, chars_strOf]))) 1 (Ent.refl _)) 4 (Ent.refl _))) ?_
    rintro k hl0
    skip
    have hsz := strDrop_size s k
    refine J.seq ?_
    refine J.seq ?_
    refine J.reg_ hmix ([plain (Rep.is (.string (strOf (s.data.toList.drop k)))), plain (Rep.is (.int .i64 (((strOf (s.data.toList.drop k)).size : Int)))), plain (Rep.is (.bool (decide (0 < ((strOf (s.data.toList.drop k)).size : Int)))))]) (by kernel_rfl) rfl ⟨OpG.none_ rfl (op_move rfl (Ent.refl _)), OpG.none_ rfl (op_lens rfl (Ent.refl _) un9), OpG.none_ rfl (op_gtr rfl (Ent.refl _) (Ent.refl _)), trivial⟩ rfl ?_
    refine E.next ?_
    refine J.cond (B := decide (0 < ((strOf (s.data.toList.drop k)).size : Int))) (Ent.refl _) (fun hc0 => ?_) (fun hc0 => ?_)
    ·
      try simp only [vb0, decide_eq_true_eq, decide_eq_false_iff_not, Bool.not_eq_true, Bool.not_eq_false, Decidable.not_not] at hc0
      refine J.skip ?_
      refine E.next ?_
      refine J.block ?_
      refine J.seq ?_
      refine J.seq ?_
      refine J.reg_ hmix ([plain (ptr ((kArr 256 kB).fp (a))), plain (Rep.is (.string (strOf (s.data.toList.drop k)))), plain (Rep.is (bv ((strOf (s.data.toList.drop k)).data.toList.getD 0 0))), plain (Rep.is (.bool (inSet a ((strOf (s.data.toList.drop k)).data.toList.getD 0 0)))), plain (Rep.is (.bool (!(inSet a ((strOf (s.data.toList.drop k)).data.toList.getD 0 0)))))]) (by kernel_rfl) rfl ⟨OpG.none_ rfl (op_move rfl (Ent.refl _)), OpG.none_ rfl (op_move rfl (Ent.refl _)), OpG.none_ rfl (g_sidx (i := 0) rfl un9 (Ent.refl _) (Ent.refl _) (by first | omega | (simp only [vs0, vs1, decide_eq_true_eq, decide_eq_false_iff_not, Bool.not_eq_true, Bool.not_eq_false, Decidable.not_not, strOf_size, strOf_chars, ascSet_length, ba_size] at *; omega) | (simp [vs0, vs1, decide_eq_true_eq, decide_eq_false_iff_not, Bool.not_eq_true, Bool.not_eq_false, Decidable.not_not, strOf_size, strOf_chars, ascSet_length, ba_size] at *; omega))), OpG.none_ rfl (g_call rfl en162 (asc_ct a ((strOf (s.data.toList.drop k)).data.toList.getD 0 0)) ⟨(Ent.refl _), (Ent.refl _), trivial⟩), OpG.none_ rfl (op_not rfl (Ent.refl _)), trivial⟩ rfl ?_
      refine E.next ?_
      refine J.cond (B := !(inSet a ((strOf (s.data.toList.drop k)).data.toList.getD 0 0))) (Ent.refl _) (fun hc1 => ?_) (fun hc1 => ?_)
      ·
        try simp only [vb0, decide_eq_true_eq, decide_eq_false_iff_not, Bool.not_eq_true, Bool.not_eq_false, Decidable.not_not] at hc1
        have hp : inSet a (s.data.toList.getD k 0) = false := by rw [← first_at s k]; exact hc1
        refine J.exit ?_
        refine E.passX ?_
        refine E.miss (by decide) ?_
        refine E.passX ?_
        refine E.hit ?_
        exact E.meet (k) (by first | rfl | (simp; done)) (by rw [hl0.2]; exact dropW_stop (by rw [chars_length]; omega) hp) (by exact (Sub.upd (Sub.upd (Sub.top _) 0 (Ent.refl _)) 4 (Ent.refl _)))
      ·
        try simp only [vb0, decide_eq_true_eq, decide_eq_false_iff_not, Bool.not_eq_true, Bool.not_eq_false, Decidable.not_not] at hc1
        have hp : inSet a (s.data.toList.getD k 0) = true := by rw [← first_at s k]; exact hc1
        refine J.skip ?_
        refine E.next ?_
        refine J.reg_ hmix ([plain (Rep.is (.string (strOf (s.data.toList.drop k)))), plain (Rep.is (.string (strOf (((strOf (s.data.toList.drop k)).data.toList.take ((strOf (s.data.toList.drop k)).size)).drop 1)))), plain (Rep.is (.string (strOf (((strOf (s.data.toList.drop k)).data.toList.take ((strOf (s.data.toList.drop k)).size)).drop 1))))]) (by kernel_rfl) rfl ⟨OpG.none_ rfl (op_move rfl (Ent.refl _)), OpG.none_ rfl (op_cutS (i := 1) (j := (strOf (s.data.toList.drop k)).size) rfl un9 (Ent.refl _) ⟨_, (Ent.refl _).trans (ent_i (by first | omega | (simp only [vs0, vs1, decide_eq_true_eq, decide_eq_false_iff_not, Bool.not_eq_true, Bool.not_eq_false, Decidable.not_not, strOf_size, strOf_chars, ascSet_length, ba_size] at *; omega) | (simp [vs0, vs1, decide_eq_true_eq, decide_eq_false_iff_not, Bool.not_eq_true, Bool.not_eq_false, Decidable.not_not, strOf_size, strOf_chars, ascSet_length, ba_size] at *; omega)))⟩ rfl (by first | omega | (simp only [vs0, vs1, decide_eq_true_eq, decide_eq_false_iff_not, Bool.not_eq_true, Bool.not_eq_false, Decidable.not_not, strOf_size, strOf_chars, ascSet_length, ba_size] at *; omega) | (simp [vs0, vs1, decide_eq_true_eq, decide_eq_false_iff_not, Bool.not_eq_true, Bool.not_eq_false, Decidable.not_not, strOf_size, strOf_chars, ascSet_length, ba_size] at *; omega))), OpG.none_ rfl (op_assign rfl (Ent.refl _)), trivial⟩ rfl ?_
        refine E.blockEnd ?_
        exact E.again (k + 1) (by first | rfl | (simp; done)) (by exact ⟨by omega, hl0.2.trans (dropW_step (by rw [chars_length]; omega) hp)⟩) (by omega) (by exact (Sub.upd (Sub.upd (Sub.upd (Sub.top _) 0 (ent_s (by exact drop_cut s k))) 1 (Ent.refl _)) 4 (Ent.refl _)))
    ·
      try simp only [vb0, decide_eq_true_eq, decide_eq_false_iff_not, Bool.not_eq_true, Bool.not_eq_false, Decidable.not_not] at hc0
      refine J.exit ?_
      refine E.passX ?_
      refine E.passX ?_
      refine E.hit ?_
      exact E.meet (k) (by first | rfl | (simp; done)) (by rw [hl0.2]; exact dropW_nil (by rw [chars_length]; omega)) (by exact (Sub.upd (Sub.upd (Sub.top _) 0 (Ent.refl _)) 4 (Ent.refl _)))
  ·
    rintro k hj0
    refine J.seq ?_
    refine J.reg_ hmix ([plain (Rep.is (.string (strOf (s.data.toList.drop k)))), plain (Rep.is (.string (strOf (s.data.toList.drop k))))]) (by kernel_rfl) rfl ⟨OpG.none_ rfl (op_move rfl (Ent.refl _)), OpG.none_ rfl (op_assign rfl (Ent.refl _)), trivial⟩ rfl ?_
    refine E.next ?_
    refine J.ret ?_
    exact E.ret1 rfl (ent_s (by rw [hj0]))
-- strings.Trim
theorem strings_Trim_ct (s : ByteArray) (cs : ByteArray) (ha : ∀ c ∈ cs.data.toList, c.toNat < 128) (hs : 2 ≤ cs.size ∧ cs.size ≤ 1000) (hb : s.size ≤ 1000) : Ct Tryz.prog 150 [Rep.is (.string (s)), Rep.is (.string (cs))] (Rep.is (.string (trimB (ascSet cs.data.toList) s))) := by
  refine CtG.of Tryz.func150 rfl rfl (Nat.le_of_ble_eq_true rfl) (fun w0 h0 hp => ?_)
  refine J.seq ?_
  refine J.reg_ hmix ([plain (Rep.is (.string ((⟨#[]⟩ : ByteArray))))]) (by kernel_rfl) rfl ⟨OpG.none_ rfl (op_assign rfl (Ent.refl _)), trivial⟩ rfl ?_
  refine E.next ?_
  refine J.seq ?_
  refine J.seq ?_
  refine J.reg_ hmix ([plain (Rep.is (.string (s))), plain (Rep.is (.bool (decide (s = (⟨#[]⟩ : ByteArray))))), plain (Rep.is (.bool (decide (s = (⟨#[]⟩ : ByteArray))))), plain (Rep.cond (True ∧ (decide (s = (⟨#[]⟩ : ByteArray))) = false) (Rep.is (.string (cs)))), plain (Rep.cond (True ∧ (decide (s = (⟨#[]⟩ : ByteArray))) = false) (Rep.is (.bool (decide (cs = (⟨#[]⟩ : ByteArray)))))), plain (Rep.is (.bool ((decide (s = (⟨#[]⟩ : ByteArray))) || (decide (cs = (⟨#[]⟩ : ByteArray))))))]) (by kernel_rfl) rfl ⟨OpG.none_ rfl (op_move rfl (Ent.refl _)), OpG.none_ rfl (op_seq rfl (Ent.refl _) (Ent.refl _)), OpG.none_ rfl (op_move rfl (Ent.refl _)), OpG.one_ rfl rfl rfl (fun hg => (op_move rfl (Ent.refl _))), OpG.one_ rfl rfl rfl (fun hg => (op_seq rfl (Ent.cond (q := True ∧ (decide (s = (⟨#[]⟩ : ByteArray))) = false) (R := Rep.is (.string (cs))) ⟨trivial, hg⟩ (Ent.refl _)) (Ent.refl _))), OpG.none_ rfl (op_or rfl (Ent.refl _) rfl (fun hz => Ent.cond (q := True ∧ (decide (s = (⟨#[]⟩ : ByteArray))) = false) (R := Rep.is (.bool (decide (cs = (⟨#[]⟩ : ByteArray))))) ⟨trivial, hz⟩ (Ent.refl _))), trivial⟩ rfl ?_
  refine E.next ?_
  refine J.cond (B := (decide (s = (⟨#[]⟩ : ByteArray))) || (decide (cs = (⟨#[]⟩ : ByteArray)))) (Ent.refl _) (fun hc0 => ?_) (fun hc0 => ?_)
  ·
    try simp only [vb0, decide_eq_true_eq, decide_eq_false_iff_not, Bool.not_eq_true, Bool.not_eq_false, Decidable.not_not] at hc0
    refine J.seq ?_
    refine J.reg_ hmix ([plain (Rep.is (.string (s))), plain (Rep.is (.string (s)))]) (by kernel_rfl) rfl ⟨OpG.none_ rfl (op_move rfl (Ent.refl _)), OpG.none_ rfl (op_assign rfl (Ent.refl _)), trivial⟩ rfl ?_
    refine E.next ?_
    refine J.ret ?_
    refine E.passR ?_
    exact E.ret1 rfl (ent_s (by exact trim_none hc0 hs))
  ·
    try simp only [vb0, decide_eq_true_eq, decide_eq_false_iff_not, Bool.not_eq_true, Bool.not_eq_false, Decidable.not_not] at hc0
    refine J.skip ?_
    refine E.next ?_
    refine J.seq ?_
    refine J.seq ?_
    refine J.reg_ hmix ([plain (Rep.is (.string (cs))), plain (Rep.is (.int .i64 (((cs).size : Int)))), plain (Rep.is (.bool (decide (((cs).size : Int) = 1)))), plain (Rep.is (.bool (decide (((cs).size : Int) = 1)))), plain (Rep.cond (True ∧ (decide (((cs).size : Int) = 1)) = true) (Rep.is (.string (cs)))), plain (Rep.cond (True ∧ (decide (((cs).size : Int) = 1)) = true) (Rep.is (bv ((cs).data.toList.getD 0 0)))), plain (Rep.cond (True ∧ (decide (((cs).size : Int) = 1)) = true) (Rep.is (.bool (decide ((((cs).data.toList.getD 0 0).toNat : Int) < 128))))), plain (Rep.is (.bool ((decide (((cs).size : Int) = 1)) && (decide ((((cs).data.toList.getD 0 0).toNat : Int) < 128)))))]) (by kernel_rfl) rfl ⟨OpG.none_ rfl (op_move rfl (Ent.refl _)), OpG.none_ rfl (op_lens rfl (Ent.refl _) un9), OpG.none_ rfl (op_eql rfl (Ent.refl _) (Ent.refl _)), OpG.none_ rfl (op_move rfl (Ent.refl _)), OpG.one_ rfl rfl rfl (fun hg => (op_move rfl (Ent.refl _))), OpG.one_ rfl rfl rfl (fun hg => (g_sidx (i := 0) rfl un9 (Ent.cond (q := True ∧ (decide (((cs).size : Int) = 1)) = true) (R := Rep.is (.string (cs))) ⟨trivial, hg⟩ (Ent.refl _)) (Ent.refl _) (by first | omega | (simp only [vs0, vs1, decide_eq_true_eq, decide_eq_false_iff_not, Bool.not_eq_true, Bool.not_eq_false, Decidable.not_not, strOf_size, strOf_chars, ascSet_length, ba_size] at *; omega) | (simp [vs0, vs1, decide_eq_true_eq, decide_eq_false_iff_not, Bool.not_eq_true, Bool.not_eq_false, Decidable.not_not, strOf_size, strOf_chars, ascSet_length, ba_size] at *; omega)))), OpG.one_ rfl rfl rfl (fun hg => (op_lss rfl (Ent.cond (q := True ∧ (decide (((cs).size : Int) = 1)) = true) (R := Rep.is (bv ((cs).data.toList.getD 0 0))) ⟨trivial, hg⟩ (Ent.refl _)) (Ent.refl _))), OpG.none_ rfl (op_and rfl (Ent.refl _) (fun hz => Ent.cond (q := True ∧ (decide (((cs).size : Int) = 1)) = true) (R := Rep.is (.bool (decide ((((cs).data.toList.getD 0 0).toNat : Int) < 128)))) ⟨trivial, hz⟩ (Ent.refl _)) rfl), trivial⟩ rfl ?_
    refine E.next ?_
    refine J.cond (B := (decide (((cs).size : Int) = 1)) && (decide ((((cs).data.toList.getD 0 0).toNat : Int) < 128))) (Ent.refl _) (fun hc1 => ?_) (fun hc1 => ?_)
    ·
      try simp only [vb0, decide_eq_true_eq, decide_eq_false_iff_not, Bool.not_eq_true, Bool.not_eq_false, Decidable.not_not] at hc1
      exact absurd hc1.1 (by omega)
    ·
      try simp only [vb0, decide_eq_true_eq, decide_eq_false_iff_not, Bool.not_eq_true, Bool.not_eq_false, Decidable.not_not] at hc1
      refine J.skip ?_
      refine E.next ?_
      refine J.seq ?_
      refine J.seq ?_
      refine J.regL (is := [0, 1, 2, 3, 4, 5, 6, 7]) rfl ?_
      refine JO.plain (R := Rep.is (.string (cs))) rfl rfl rfl (Nat.le_of_ble_eq_true rfl) (op_move rfl (Ent.refl _)) ?_
      refine JO.plain (R := tup [(kArr 256 kB).rep (ascSet cs.data.toList), Rep.is (.bool (true))]) rfl rfl rfl (Nat.le_of_ble_eq_true rfl) (g_call rfl en156 (mkasc_ct cs (ha) (hs.2)) ⟨(Ent.refl _), trivial⟩) ?_
      refine JO.plain (R := tup [(kArr 256 kB).rep (ascSet cs.data.toList), Rep.is (.bool (true))]) rfl rfl rfl (Nat.le_of_ble_eq_true rfl) (op_move rfl (Ent.refl _)) ?_
      refine JO.plain (R := (kArr 256 kB).rep (ascSet cs.data.toList)) rfl rfl rfl (Nat.le_of_ble_eq_true rfl) (op_extract rfl (Ent.refl _) rfl) ?_
      refine JO.plain (R := Rep.is (.bool (true))) rfl rfl rfl (Nat.le_of_ble_eq_true rfl) (op_extract rfl (Ent.refl _) rfl) ?_
      refine JO.newB rfl rfl rfl (Nat.le_of_ble_eq_true rfl) (op_alloc (f := (kArr 256 kB).fp ((List.replicate 256 false))) rfl zt168 (fun h => zarrG kB (false) _ (fun _ => rfl) 256 h)) (fun b1 => ?_)
      refine JO.store (f := (kArr 256 kB).fp ((List.replicate 256 false))) (f' := (kArr 256 kB).fp (ascSet cs.data.toList)) (g := (kArr 256 kB).fp (ascSet cs.data.toList)) rfl rfl rfl rfl (Ent.refl _) (Ent.refl _) ld168.2 (Turn.all _ _ rfl) ?_
      refine JO.plain (R := Rep.is (.bool (true))) rfl rfl rfl (Nat.le_of_ble_eq_true rfl) (op_assign rfl (Ent.refl _)) ?_
      refine JO.nil ?_
      refine E.pubP (s := 5) (Ent.refl _) ?_
      refine E.next ?_
      refine J.seq ?_
      refine J.reg_ hmix ([plain (Rep.is (.bool (true)))]) (by kernel_rfl) rfl ⟨OpG.none_ rfl (op_move rfl (Ent.refl _)), trivial⟩ rfl ?_
      refine E.next ?_
      refine J.cond (B := true) (Ent.refl _) (fun hc2 => ?_) (fun hc2 => ?_)
      ·
        try simp only [vb0, decide_eq_true_eq, decide_eq_false_iff_not, Bool.not_eq_true, Bool.not_eq_false, Decidable.not_not] at hc2
        refine J.seq ?_
        refine J.reg_ hmix ([plain (Rep.is (.string (s))), plain (Rep.is (.string (strOf (trimR (inSet (ascSet cs.data.toList)) s.data.toList s.size)))), plain (Rep.is (.string (strOf ((strOf (trimR (inSet (ascSet cs.data.toList)) s.data.toList s.size)).data.toList.dropWhile (inSet (ascSet cs.data.toList)))))), plain (Rep.is (.string (strOf ((strOf (trimR (inSet (ascSet cs.data.toList)) s.data.toList s.size)).data.toList.dropWhile (inSet (ascSet cs.data.toList))))))]) (by kernel_rfl) rfl ⟨OpG.none_ rfl (op_move rfl (Ent.refl _)), OpG.none_ rfl (g_call rfl en158 (trimr_ct s (ascSet cs.data.toList) (by first | omega | (simp only [vs0, vs1, decide_eq_true_eq, decide_eq_false_iff_not, Bool.not_eq_true, Bool.not_eq_false, Decidable.not_not, strOf_size, strOf_chars, ascSet_length, ba_size] at *; omega) | (simp [vs0, vs1, decide_eq_true_eq, decide_eq_false_iff_not, Bool.not_eq_true, Bool.not_eq_false, Decidable.not_not, strOf_size, strOf_chars, ascSet_length, ba_size] at *; omega))) ⟨(Ent.refl _), (Ent.refl _), trivial⟩), OpG.none_ rfl (g_call rfl en157 (triml_ct (strOf (trimR (inSet (ascSet cs.data.toList)) s.data.toList s.size)) (ascSet cs.data.toList)) ⟨(Ent.refl _), (Ent.refl _), trivial⟩), OpG.none_ rfl (op_assign rfl (Ent.refl _)), trivial⟩ rfl ?_
        refine E.next ?_
        refine J.ret ?_
        refine E.passR ?_
        exact E.ret1 rfl (ent_s (by unfold trimB; rw [strOf_chars]))
      ·
        try simp only [vb0, decide_eq_true_eq, decide_eq_false_iff_not, Bool.not_eq_true, Bool.not_eq_false, Decidable.not_not] at hc2
        exact absurd hc2 (by decide)
-- sealery/right.Name
theorem name_ct (s : ByteArray) : Ct Tryz.prog 122 [Rep.is (.string (s))] (Rep.is (.bool (nameOk s))) := by
  refine CtG.of Tryz.func122 rfl rfl (Nat.le_of_ble_eq_true rfl) (fun w0 h0 hp => ?_)
  refine J.seq ?_
  refine J.reg_ hmix ([plain (Rep.is (.bool (false)))]) (by kernel_rfl) rfl ⟨OpG.none_ rfl (op_assign rfl (Ent.refl _)), trivial⟩ rfl ?_
  refine E.next ?_
  refine J.seq ?_
  refine J.reg_ hmix ([plain (Rep.is (.string (s))), plain (Rep.is (.int .i64 (((s).size : Int)))), plain (Rep.is (.bool (decide (1 ≤ ((s).size : Int))))), plain (Rep.is (.bool (decide (1 ≤ ((s).size : Int))))), plain (Rep.cond (True ∧ (decide (1 ≤ ((s).size : Int))) = true) (Rep.is (.string (s)))), plain (Rep.cond (True ∧ (decide (1 ≤ ((s).size : Int))) = true) (Rep.is (.int .i64 (((s).size : Int))))), plain (Rep.cond (True ∧ (decide (1 ≤ ((s).size : Int))) = true) (Rep.is (.bool (decide (((s).size : Int) ≤ 24))))), plain (Rep.is (.bool ((decide (1 ≤ ((s).size : Int))) && (decide (((s).size : Int) ≤ 24))))), plain (Rep.is (.bool ((decide (1 ≤ ((s).size : Int))) && (decide (((s).size : Int) ≤ 24))))), plain (Rep.cond (True ∧ ((decide (1 ≤ ((s).size : Int))) && (decide (((s).size : Int) ≤ 24))) = true) (Rep.is (.string (s)))), plain (Rep.cond (True ∧ ((decide (1 ≤ ((s).size : Int))) && (decide (((s).size : Int) ≤ 24))) = true) (Rep.is (bv ((s).data.toList.getD 0 0)))), plain (Rep.cond (True ∧ ((decide (1 ≤ ((s).size : Int))) && (decide (((s).size : Int) ≤ 24))) = true) (Rep.is (.int .i64 (ixB (⟨#[97, 98, 99, 100, 101, 102, 103, 104, 105, 106, 107, 108, 109, 110, 111, 112, 113, 114, 115, 116, 117, 118, 119, 120, 121, 122]⟩ : ByteArray) ((s).data.toList.getD 0 0))))), plain (Rep.cond (True ∧ ((decide (1 ≤ ((s).size : Int))) && (decide (((s).size : Int) ≤ 24))) = true) (Rep.is (.bool (decide (0 ≤ (ixB (⟨#[97, 98, 99, 100, 101, 102, 103, 104, 105, 106, 107, 108, 109, 110, 111, 112, 113, 114, 115, 116, 117, 118, 119, 120, 121, 122]⟩ : ByteArray) ((s).data.toList.getD 0 0))))))), plain (Rep.is (.bool (((decide (1 ≤ ((s).size : Int))) && (decide (((s).size : Int) ≤ 24))) && (decide (0 ≤ (ixB (⟨#[97, 98, 99, 100, 101, 102, 103, 104, 105, 106, 107, 108, 109, 110, 111, 112, 113, 114, 115, 116, 117, 118, 119, 120, 121, 122]⟩ : ByteArray) ((s).data.toList.getD 0 0))))))), plain (Rep.is (.bool (((decide (1 ≤ ((s).size : Int))) && (decide (((s).size : Int) ≤ 24))) && (decide (0 ≤ (ixB (⟨#[97, 98, 99, 100, 101, 102, 103, 104, 105, 106, 107, 108, 109, 110, 111, 112, 113, 114, 115, 116, 117, 118, 119, 120, 121, 122]⟩ : ByteArray) ((s).data.toList.getD 0 0))))))), plain (Rep.cond (True ∧ (((decide (1 ≤ ((s).size : Int))) && (decide (((s).size : Int) ≤ 24))) && (decide (0 ≤ (ixB (⟨#[97, 98, 99, 100, 101, 102, 103, 104, 105, 106, 107, 108, 109, 110, 111, 112, 113, 114, 115, 116, 117, 118, 119, 120, 121, 122]⟩ : ByteArray) ((s).data.toList.getD 0 0))))) = true) (Rep.is (.string (s)))), plain (Rep.cond (True ∧ (((decide (1 ≤ ((s).size : Int))) && (decide (((s).size : Int) ≤ 24))) && (decide (0 ≤ (ixB (⟨#[97, 98, 99, 100, 101, 102, 103, 104, 105, 106, 107, 108, 109, 110, 111, 112, 113, 114, 115, 116, 117, 118, 119, 120, 121, 122]⟩ : ByteArray) ((s).data.toList.getD 0 0))))) = true) (Rep.is (.string (trimB (ascSet (⟨#[97, 98, 99, 100, 101, 102, 103, 104, 105, 106, 107, 108, 109, 110, 111, 112, 113, 114, 115, 116, 117, 118, 119, 120, 121, 122, 48, 49, 50, 51, 52, 53, 54, 55, 56, 57, 45, 46]⟩ : ByteArray).data.toList) s)))), plain (Rep.cond (True ∧ (((decide (1 ≤ ((s).size : Int))) && (decide (((s).size : Int) ≤ 24))) && (decide (0 ≤ (ixB (⟨#[97, 98, 99, 100, 101, 102, 103, 104, 105, 106, 107, 108, 109, 110, 111, 112, 113, 114, 115, 116, 117, 118, 119, 120, 121, 122]⟩ : ByteArray) ((s).data.toList.getD 0 0))))) = true) (Rep.is (.bool (decide ((trimB (ascSet (⟨#[97, 98, 99, 100, 101, 102, 103, 104, 105, 106, 107, 108, 109, 110, 111, 112, 113, 114, 115, 116, 117, 118, 119, 120, 121, 122, 48, 49, 50, 51, 52, 53, 54, 55, 56, 57, 45, 46]⟩ : ByteArray).data.toList) s) = (⟨#[]⟩ : ByteArray)))))), plain (Rep.is (.bool ((((decide (1 ≤ ((s).size : Int))) && (decide (((s).size : Int) ≤ 24))) && (decide (0 ≤ (ixB (⟨#[97, 98, 99, 100, 101, 102, 103, 104, 105, 106, 107, 108, 109, 110, 111, 112, 113, 114, 115, 116, 117, 118, 119, 120, 121, 122]⟩ : ByteArray) ((s).data.toList.getD 0 0))))) && (decide ((trimB (ascSet (⟨#[97, 98, 99, 100, 101, 102, 103, 104, 105, 106, 107, 108, 109, 110, 111, 112, 113, 114, 115, 116, 117, 118, 119, 120, 121, 122, 48, 49, 50, 51, 52, 53, 54, 55, 56, 57, 45, 46]⟩ : ByteArray).data.toList) s) = (⟨#[]⟩ : ByteArray)))))), plain (Rep.is (.bool ((((decide (1 ≤ ((s).size : Int))) && (decide (((s).size : Int) ≤ 24))) && (decide (0 ≤ (ixB (⟨#[97, 98, 99, 100, 101, 102, 103, 104, 105, 106, 107, 108, 109, 110, 111, 112, 113, 114, 115, 116, 117, 118, 119, 120, 121, 122]⟩ : ByteArray) ((s).data.toList.getD 0 0))))) && (decide ((trimB (ascSet (⟨#[97, 98, 99, 100, 101, 102, 103, 104, 105, 106, 107, 108, 109, 110, 111, 112, 113, 114, 115, 116, 117, 118, 119, 120, 121, 122, 48, 49, 50, 51, 52, 53, 54, 55, 56, 57, 45, 46]⟩ : ByteArray).data.toList) s) = (⟨#[]⟩ : ByteArray))))))]) (by kernel_rfl) rfl ⟨OpG.none_ rfl (op_move rfl (Ent.refl _)), OpG.none_ rfl (op_lens rfl (Ent.refl _) un9), OpG.none_ rfl (op_geq rfl (Ent.refl _) (Ent.refl _)), OpG.none_ rfl (op_move rfl (Ent.refl _)), OpG.one_ rfl rfl rfl (fun hg => (op_move rfl (Ent.refl _))), OpG.one_ rfl rfl rfl (fun hg => (op_lens rfl (Ent.cond (q := True ∧ (decide (1 ≤ ((s).size : Int))) = true) (R := Rep.is (.string (s))) ⟨trivial, hg⟩ (Ent.refl _)) un9)), OpG.one_ rfl rfl rfl (fun hg => (op_leq rfl (Ent.cond (q := True ∧ (decide (1 ≤ ((s).size : Int))) = true) (R := Rep.is (.int .i64 (((s).size : Int)))) ⟨trivial, hg⟩ (Ent.refl _)) (Ent.refl _))), OpG.none_ rfl (op_and rfl (Ent.refl _) (fun hz => Ent.cond (q := True ∧ (decide (1 ≤ ((s).size : Int))) = true) (R := Rep.is (.bool (decide (((s).size : Int) ≤ 24)))) ⟨trivial, hz⟩ (Ent.refl _)) rfl), OpG.none_ rfl (op_move rfl (Ent.refl _)), OpG.one_ rfl rfl rfl (fun hg => (op_move rfl (Ent.refl _))), OpG.one_ rfl rfl rfl (fun hg => (g_sidx (i := 0) rfl un9 (Ent.cond (q := True ∧ ((decide (1 ≤ ((s).size : Int))) && (decide (((s).size : Int) ≤ 24))) = true) (R := Rep.is (.string (s))) ⟨trivial, hg⟩ (Ent.refl _)) (Ent.refl _) (by first | omega | (simp only [vs0, vs1, decide_eq_true_eq, decide_eq_false_iff_not, Bool.not_eq_true, Bool.not_eq_false, Decidable.not_not, strOf_size, strOf_chars, ascSet_length, ba_size] at *; omega) | (simp [vs0, vs1, decide_eq_true_eq, decide_eq_false_iff_not, Bool.not_eq_true, Bool.not_eq_false, Decidable.not_not, strOf_size, strOf_chars, ascSet_length, ba_size] at *; omega)))), OpG.one_ rfl rfl rfl (fun hg => (g_call rfl en149 (six_ct (⟨#[97, 98, 99, 100, 101, 102, 103, 104, 105, 106, 107, 108, 109, 110, 111, 112, 113, 114, 115, 116, 117, 118, 119, 120, 121, 122]⟩ : ByteArray) ((s).data.toList.getD 0 0)) ⟨(Ent.refl _), (Ent.cond (q := True ∧ ((decide (1 ≤ ((s).size : Int))) && (decide (((s).size : Int) ≤ 24))) = true) (R := Rep.is (bv ((s).data.toList.getD 0 0))) ⟨trivial, hg⟩ (Ent.refl _)), trivial⟩)), OpG.one_ rfl rfl rfl (fun hg => (op_geq rfl (Ent.cond (q := True ∧ ((decide (1 ≤ ((s).size : Int))) && (decide (((s).size : Int) ≤ 24))) = true) (R := Rep.is (.int .i64 (ixB (⟨#[97, 98, 99, 100, 101, 102, 103, 104, 105, 106, 107, 108, 109, 110, 111, 112, 113, 114, 115, 116, 117, 118, 119, 120, 121, 122]⟩ : ByteArray) ((s).data.toList.getD 0 0)))) ⟨trivial, hg⟩ (Ent.refl _)) (Ent.refl _))), OpG.none_ rfl (op_and rfl (Ent.refl _) (fun hz => Ent.cond (q := True ∧ ((decide (1 ≤ ((s).size : Int))) && (decide (((s).size : Int) ≤ 24))) = true) (R := Rep.is (.bool (decide (0 ≤ (ixB (⟨#[97, 98, 99, 100, 101, 102, 103, 104, 105, 106, 107, 108, 109, 110, 111, 112, 113, 114, 115, 116, 117, 118, 119, 120, 121, 122]⟩ : ByteArray) ((s).data.toList.getD 0 0)))))) ⟨trivial, hz⟩ (Ent.refl _)) rfl), OpG.none_ rfl (op_move rfl (Ent.refl _)), OpG.one_ rfl rfl rfl (fun hg => (op_move rfl (Ent.refl _))), OpG.one_ rfl rfl rfl (fun hg => (g_call rfl en150 (strings_Trim_ct s (⟨#[97, 98, 99, 100, 101, 102, 103, 104, 105, 106, 107, 108, 109, 110, 111, 112, 113, 114, 115, 116, 117, 118, 119, 120, 121, 122, 48, 49, 50, 51, 52, 53, 54, 55, 56, 57, 45, 46]⟩ : ByteArray) (signs_ascii) (by decide) (by first | omega | (simp only [vs0, vs1, decide_eq_true_eq, decide_eq_false_iff_not, Bool.not_eq_true, Bool.not_eq_false, Decidable.not_not, strOf_size, strOf_chars, ascSet_length, ba_size] at *; omega) | (simp [vs0, vs1, decide_eq_true_eq, decide_eq_false_iff_not, Bool.not_eq_true, Bool.not_eq_false, Decidable.not_not, strOf_size, strOf_chars, ascSet_length, ba_size] at *; omega))) ⟨(Ent.cond (q := True ∧ (((decide (1 ≤ ((s).size : Int))) && (decide (((s).size : Int) ≤ 24))) && (decide (0 ≤ (ixB (⟨#[97, 98, 99, 100, 101, 102, 103, 104, 105, 106, 107, 108, 109, 110, 111, 112, 113, 114, 115, 116, 117, 118, 119, 120, 121, 122]⟩ : ByteArray) ((s).data.toList.getD 0 0))))) = true) (R := Rep.is (.string (s))) ⟨trivial, hg⟩ (Ent.refl _)), (Ent.refl _), trivial⟩)), OpG.one_ rfl rfl rfl (fun hg => (op_seq rfl (Ent.cond (q := True ∧ (((decide (1 ≤ ((s).size : Int))) && (decide (((s).size : Int) ≤ 24))) && (decide (0 ≤ (ixB (⟨#[97, 98, 99, 100, 101, 102, 103, 104, 105, 106, 107, 108, 109, 110, 111, 112, 113, 114, 115, 116, 117, 118, 119, 120, 121, 122]⟩ : ByteArray) ((s).data.toList.getD 0 0))))) = true) (R := Rep.is (.string (trimB (ascSet (⟨#[97, 98, 99, 100, 101, 102, 103, 104, 105, 106, 107, 108, 109, 110, 111, 112, 113, 114, 115, 116, 117, 118, 119, 120, 121, 122, 48, 49, 50, 51, 52, 53, 54, 55, 56, 57, 45, 46]⟩ : ByteArray).data.toList) s))) ⟨trivial, hg⟩ (Ent.refl _)) (Ent.refl _))), OpG.none_ rfl (op_and rfl (Ent.refl _) (fun hz => Ent.cond (q := True ∧ (((decide (1 ≤ ((s).size : Int))) && (decide (((s).size : Int) ≤ 24))) && (decide (0 ≤ (ixB (⟨#[97, 98, 99, 100, 101, 102, 103, 104, 105, 106, 107, 108, 109, 110, 111, 112, 113, 114, 115, 116, 117, 118, 119, 120, 121, 122]⟩ : ByteArray) ((s).data.toList.getD 0 0))))) = true) (R := Rep.is (.bool (decide ((trimB (ascSet (⟨#[97, 98, 99, 100, 101, 102, 103, 104, 105, 106, 107, 108, 109, 110, 111, 112, 113, 114, 115, 116, 117, 118, 119, 120, 121, 122, 48, 49, 50, 51, 52, 53, 54, 55, 56, 57, 45, 46]⟩ : ByteArray).data.toList) s) = (⟨#[]⟩ : ByteArray))))) ⟨trivial, hz⟩ (Ent.refl _)) rfl), OpG.none_ rfl (op_assign rfl (Ent.refl _)), trivial⟩ rfl ?_
  refine E.next ?_
  refine J.ret ?_
  exact E.ret1 rfl (ent_b (by rfl))
-- sealery/right.prefixed
theorem prefixed_ct (s : ByteArray) : Ct Tryz.prog 126 [Rep.is (.string (s))] (Rep.is (.bool (preOk s))) := by
  refine CtG.of Tryz.func126 rfl rfl (Nat.le_of_ble_eq_true rfl) (fun w0 h0 hp => ?_)
  refine J.seq ?_
  refine J.reg_ hmix ([plain (Rep.is (.bool (false)))]) (by kernel_rfl) rfl ⟨OpG.none_ rfl (op_assign rfl (Ent.refl _)), trivial⟩ rfl ?_
  refine E.next ?_
  refine J.seq ?_
  refine J.reg_ hmix ([plain (Rep.is (.string (s))), plain (Rep.is (.bool (decide (s = (⟨#[]⟩ : ByteArray))))), plain (Rep.is (.bool (decide (s = (⟨#[]⟩ : ByteArray))))), plain (Rep.cond (True ∧ (decide (s = (⟨#[]⟩ : ByteArray))) = false) (Rep.is (.string (s)))), plain (Rep.cond (True ∧ (decide (s = (⟨#[]⟩ : ByteArray))) = false) (Rep.is (.bool (nameOk s)))), plain (Rep.is (.bool ((decide (s = (⟨#[]⟩ : ByteArray))) || (nameOk s)))), plain (Rep.is (.bool ((decide (s = (⟨#[]⟩ : ByteArray))) || (nameOk s))))]) (by kernel_rfl) rfl ⟨OpG.none_ rfl (op_move rfl (Ent.refl _)), OpG.none_ rfl (op_seq rfl (Ent.refl _) (Ent.refl _)), OpG.none_ rfl (op_move rfl (Ent.refl _)), OpG.one_ rfl rfl rfl (fun hg => (op_move rfl (Ent.refl _))), OpG.one_ rfl rfl rfl (fun hg => (g_call rfl en122 (name_ct s) ⟨(Ent.cond (q := True ∧ (decide (s = (⟨#[]⟩ : ByteArray))) = false) (R := Rep.is (.string (s))) ⟨trivial, hg⟩ (Ent.refl _)), trivial⟩)), OpG.none_ rfl (op_or rfl (Ent.refl _) rfl (fun hz => Ent.cond (q := True ∧ (decide (s = (⟨#[]⟩ : ByteArray))) = false) (R := Rep.is (.bool (nameOk s))) ⟨trivial, hz⟩ (Ent.refl _))), OpG.none_ rfl (op_assign rfl (Ent.refl _)), trivial⟩ rfl ?_
  refine E.next ?_
  refine J.ret ?_
  exact E.ret1 rfl (ent_b (by rfl))
end Go.Proofs.YtdioiepkbolnlaaGreatDoor
