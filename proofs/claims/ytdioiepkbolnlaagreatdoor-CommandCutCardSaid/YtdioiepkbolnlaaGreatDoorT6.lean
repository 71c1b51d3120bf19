import Derived.Test.YtdioiepkbolnlaaGreatDoorT5
import Derived.Test.YtdioiepkbolnlaaGreatDoorRd
set_option linter.unusedSimpArgs false
set_option linter.unusedVariables false
set_option linter.unnecessarySimpa false
set_option maxRecDepth 100000
set_option maxHeartbeats 4000000
namespace Go.Proofs.YtdioiepkbolnlaaGreatDoor
open Go.RowKit
attribute [local irreducible] OpC OpM 
theorem fa153_1 : FaT Tryz.prog 153 1 1 0 := ⟨by kernel_rfl, by kernel_rfl⟩
theorem fa153_0 : FaT Tryz.prog 153 0 0 0 := ⟨by kernel_rfl, by kernel_rfl⟩
theorem en138 : Enters Tryz.prog 138 := enters_of Tryz.func138 (by kernel_rfl) rfl
theorem en135 : Enters Tryz.prog 135 := enters_of Tryz.func135 (by kernel_rfl) rfl
theorem un154 : Tryz.prog.underlying 154 = some (.int .u64) := by kernel_rfl
theorem un3 : Tryz.prog.underlying 3 = some (.int .i64) := by kernel_rfl
theorem en87 : Enters Tryz.prog 87 := enters_of Tryz.func87 (by kernel_rfl) rfl
theorem en137 : Enters Tryz.prog 137 := enters_of Tryz.func137 (by kernel_rfl) rfl
theorem en93 : Enters Tryz.prog 93 := enters_of Tryz.func93 (by kernel_rfl) rfl
theorem en92 : Enters Tryz.prog 92 := enters_of Tryz.func92 (by kernel_rfl) rfl
theorem zt24 : ∀ w, (zeroValue 24).run Tryz.prog w = .ok (.agg #[.int .u8 0, .int .u8 0, .int .u8 0, .int .u8 0, .int .u8 0, .int .u8 0, .int .u8 0, .int .u8 0, .int .u8 0, .int .u8 0, .int .u8 0, .int .u8 0, .int .u8 0, .int .u8 0, .int .u8 0, .int .u8 0, .int .u8 0, .int .u8 0, .int .u8 0, .int .u8 0, .int .u8 0, .int .u8 0, .int .u8 0, .int .u8 0, .int .u8 0, .int .u8 0, .int .u8 0, .int .u8 0, .int .u8 0, .int .u8 0, .int .u8 0, .int .u8 0]) w := fun _ => by kernel_rfl

-- (*sealery/pack.Reader).stick
theorem stick_ct (b_r : Nat) (r : Rd) (e : Int) : CtM Tryz.prog 138 [Rep.is (pb b_r 0), Rep.is (.int .i64 (e))] [blkI b_r (kRd.fp (r))] [blkI b_r (kRd.fp (stickS r e))] (Rep.is (.tuple #[])) := by
  refine CtG.of Tryz.func138 rfl rfl (Nat.le_of_ble_eq_true rfl) (fun w0 h0 hp => ?_)
  refine J.seq ?_
  refine J.reg_ hmix ([plain (Rep.is (pb b_r 0)), plain (Rep.is (pb b_r 0)), plain (Rep.is (pb b_r 1)), plain (Rep.is (.int .i64 (r.why))), plain (Rep.is (.bool (decide (r.why = 0))))]) (by kernel_rfl) rfl ⟨OpG.none_ rfl (op_move rfl (Ent.refl _)), OpG.none_ rfl (op_nilB rfl (Ent.refl _)), OpG.none_ rfl (g_fieldP rfl fa153_1 (Ent.refl _)), OpG.none_ rfl (OpC.weak (g_loadP (f := kRd.fp (r)) (g := (kI .i64).fp (r.why)) rfl ld36 (by repeat (first | exact List.mem_cons_self | apply List.mem_cons_of_mem)) (Part.field (f := kRd.fp (r)) (g := (kI .i64).fp (r.why)) (l := kRdF (r)) (i := 1) (fun _ _ e => e) rfl) (Ent.refl _)) (rep_int _ _)), OpG.none_ rfl (op_eql rfl (Ent.refl _) (Ent.refl _)), trivial⟩ rfl ?_
  refine E.next ?_
  refine J.cond (B := decide (r.why = 0)) (Ent.refl _) (fun hc0 => ?_) (fun hc0 => ?_)
  ·
    try simp only [vb0, decide_eq_true_eq, decide_eq_false_iff_not, Bool.not_eq_true, Bool.not_eq_false, Decidable.not_not] at hc0
    refine J.regL (is := [0, 1, 2, 3, 4, 5, 6, 7, 8]) rfl ?_
    refine JO.plain (R := Rep.is (pb b_r 0)) rfl rfl rfl (Nat.le_of_ble_eq_true rfl) (op_move rfl (Ent.refl _)) ?_
    refine JO.plain (R := Rep.is (pb b_r 0)) rfl rfl rfl (Nat.le_of_ble_eq_true rfl) (op_move rfl (Ent.refl _)) ?_
    refine JO.plain (R := Rep.is (.int .i64 (e))) rfl rfl rfl (Nat.le_of_ble_eq_true rfl) (op_move rfl (Ent.refl _)) ?_
    refine JO.plain (R := Rep.is (pb b_r 0)) rfl rfl rfl (Nat.le_of_ble_eq_true rfl) (op_nilB rfl (Ent.refl _)) ?_
    refine JO.plain (R := Rep.is (pb b_r 1)) rfl rfl rfl (Nat.le_of_ble_eq_true rfl) (g_fieldP rfl fa153_1 (Ent.refl _)) ?_
    refine JO.store (f := kRd.fp (r)) (f' := kRd.fp (({ r with why := e } : Rd))) (g := (kI .i64).fp (e)) rfl rfl rfl rfl (Ent.refl _) ((Ent.refl _).trans (int_rep _ _)) ld36.2 (Turn.field (f := kRd.fp (r)) (f' := kRd.fp (({ r with why := e } : Rd))) (g := (kI .i64).fp (r.why)) (g' := (kI .i64).fp (e)) (l := kRdF (r)) (l' := kRdF (({ r with why := e } : Rd))) (i := 1) (fun _ _ e => e) rfl rfl rfl (fun _ _ e => e)) ?_
    refine JO.plain (R := Rep.is (pb b_r 0)) rfl rfl rfl (Nat.le_of_ble_eq_true rfl) (op_nilB rfl (Ent.refl _)) ?_
    refine JO.plain (R := Rep.is (pb b_r 0)) rfl rfl rfl (Nat.le_of_ble_eq_true rfl) (g_fieldP rfl fa153_0 (Ent.refl _)) ?_
    refine JO.store (f := kRd.fp (({ r with why := e } : Rd))) (f' := kRd.fp (({ ({ r with why := e } : Rd) with left := [] } : Rd))) (g := (kSl kU8).fp ([])) rfl rfl rfl rfl (Ent.refl _) ((Ent.refl _).trans (nil_sl _)) ld35.2 (Turn.field (f := kRd.fp (({ r with why := e } : Rd))) (f' := kRd.fp (({ ({ r with why := e } : Rd) with left := [] } : Rd))) (g := (kSl kU8).fp (({ r with why := e } : Rd).left)) (g' := (kSl kU8).fp ([])) (l := kRdF (({ r with why := e } : Rd))) (l' := kRdF (({ ({ r with why := e } : Rd) with left := [] } : Rd))) (i := 0) (fun _ _ e => e) rfl rfl rfl (fun _ _ e => e)) ?_
    refine JO.nil ?_
    refine E.fall ?_
    have how1 : ({ ({ r with why := e } : Rd) with left := [] } : Rd) = stickS r e := by simp [stickS, hc0]
    refine E.ownEq (l' := [blkI b_r (kRd.fp (stickS r e))]) (congrArg (fun z => [blkI b_r (kRd.fp z)]) how1) ?_
    exact E.ret0 rfl
  ·
    try simp only [vb0, decide_eq_true_eq, decide_eq_false_iff_not, Bool.not_eq_true, Bool.not_eq_false, Decidable.not_not] at hc0
    refine J.skip ?_
    refine E.fall ?_
    have how2 : r = stickS r e := by simp [stickS, hc0]
    refine E.ownEq (l' := [blkI b_r (kRd.fp (stickS r e))]) (congrArg (fun z => [blkI b_r (kRd.fp z)]) how2) ?_
    exact E.ret0 rfl
-- (*sealery/pack.Reader).take
theorem take_ct (b_r : Nat) (r : Rd) (n : Int) (hn : 0 ≤ n) : CtM Tryz.prog 135 [Rep.is (pb b_r 0), Rep.is (.int .i64 (n))] [blkI b_r (kRd.fp (r))] [blkI b_r (kRd.fp (takeS r n))] ((kSl kU8).rep (takeV r n)) := by
  refine CtG.of Tryz.func135 rfl rfl (Nat.le_of_ble_eq_true rfl) (fun w0 h0 hp => ?_)
  refine J.seq ?_
  refine J.reg_ hmix ([plain (Rep.is (.slice none 0 0))]) (by kernel_rfl) rfl ⟨OpG.none_ rfl (op_assign rfl (Ent.refl _)), trivial⟩ rfl ?_
  refine E.next ?_
  refine J.seq ?_
  refine J.seq ?_
  refine J.reg_ hmix ([plain (Rep.is (.int .i64 (n))), plain (Rep.is (pb b_r 0)), plain (Rep.is (pb b_r 0)), plain (Rep.is (pb b_r 0)), plain ((kSl kU8).rep (r.left)), plain (Rep.is (.int .i64 (((r.left).length : Int)))), plain (Rep.is (.bool (decide (((r.left).length : Int) < n))))]) (by kernel_rfl) rfl ⟨OpG.none_ rfl (op_move rfl (Ent.refl _)), OpG.none_ rfl (op_move rfl (Ent.refl _)), OpG.none_ rfl (op_nilB rfl (Ent.refl _)), OpG.none_ rfl (g_fieldP rfl fa153_0 (Ent.refl _)), OpG.none_ rfl (g_loadP (f := kRd.fp (r)) (g := (kSl kU8).fp (r.left)) rfl ld35 (by repeat (first | exact List.mem_cons_self | apply List.mem_cons_of_mem)) (Part.field (f := kRd.fp (r)) (g := (kSl kU8).fp (r.left)) (l := kRdF (r)) (i := 0) (fun _ _ e => e) rfl) (Ent.refl _)), OpG.none_ rfl (g_len rfl sl35 (Ent.refl _)), OpG.none_ rfl (op_gtr rfl (Ent.refl _) (Ent.refl _)), trivial⟩ rfl ?_
  refine E.len (s := 10) (k := kU8) (xs := r.left) (Ent.refl _) (fun hlen1 => ?_)
  refine E.next ?_
  refine J.cond (B := decide (((r.left).length : Int) < n)) (Ent.refl _) (fun hc0 => ?_) (fun hc0 => ?_)
  ·
    try simp only [vb0, decide_eq_true_eq, decide_eq_false_iff_not, Bool.not_eq_true, Bool.not_eq_false, Decidable.not_not] at hc0
    refine J.seq ?_
    refine J.regL (is := [0, 1]) rfl ?_
    refine JO.plain (R := Rep.is (pb b_r 0)) rfl rfl rfl (Nat.le_of_ble_eq_true rfl) (op_move rfl (Ent.refl _)) ?_
    refine JO.ofM (l' := [blkI b_r (kRd.fp (stickS r 4))]) rfl rfl rfl (Nat.le_of_ble_eq_true rfl) (OpM.call (l1 := []) (l2 := []) (I := blkI b_r (kRd.fp (r))) (I' := blkI b_r (kRd.fp (stickS r 4))) rfl en138 (stick_ct b_r r 4) ⟨(Ent.refl _), (Ent.refl _), trivial⟩) ?_
    refine JO.nil ?_
    refine E.next ?_
    refine J.seq ?_
    refine J.reg_ hmix ([plain (Rep.is (.slice none 0 0))]) (by kernel_rfl) rfl ⟨OpG.none_ rfl (op_assign rfl (Ent.refl _)), trivial⟩ rfl ?_
    refine E.next ?_
    refine J.ret ?_
    refine E.passR ?_
    have how2 : stickS r 4 = takeS r n := by simp [takeS, hc0]
    refine E.ownEq (l' := [blkI b_r (kRd.fp (takeS r n))]) (congrArg (fun z => [blkI b_r (kRd.fp z)]) how2) ?_
    exact E.ret1 rfl ((nil_sl _).trans (ent_v (k := (kSl kU8)) (a := []) (b := takeV r n) (by simp [takeV, hc0])))
  ·
    try simp only [vb0, decide_eq_true_eq, decide_eq_false_iff_not, Bool.not_eq_true, Bool.not_eq_false, Decidable.not_not] at hc0
    refine J.skip ?_
    refine E.next ?_
    refine J.seq ?_
    refine J.reg_ hmix ([plain (Rep.is (pb b_r 0)), plain (Rep.is (pb b_r 0)), plain (Rep.is (pb b_r 0)), plain ((kSl kU8).rep (r.left)), plain (Rep.is (.int .i64 (n))), plain (Rep.is (.int .i64 (n))), plain ((kSl kU8).rep (r.left.take ((n).toNat))), plain ((kSl kU8).rep (r.left.take ((n).toNat)))]) (by kernel_rfl) rfl ⟨OpG.none_ rfl (op_move rfl (Ent.refl _)), OpG.none_ rfl (op_nilB rfl (Ent.refl _)), OpG.none_ rfl (g_fieldP rfl fa153_0 (Ent.refl _)), OpG.none_ rfl (g_loadP (f := kRd.fp (r)) (g := (kSl kU8).fp (r.left)) rfl ld35 (by repeat (first | exact List.mem_cons_self | apply List.mem_cons_of_mem)) (Part.field (f := kRd.fp (r)) (g := (kSl kU8).fp (r.left)) (l := kRdF (r)) (i := 0) (fun _ _ e => e) rfl) (Ent.refl _)), OpG.none_ rfl (op_move rfl (Ent.refl _)), OpG.none_ rfl (op_move rfl (Ent.refl _)), OpG.none_ rfl (op_cut3 (j := (n).toNat) rfl sl35 (Ent.refl _) ⟨_, (Ent.refl _).trans (ent_i (by first | omega | (simp only [vs0, vs1, decide_eq_true_eq, decide_eq_false_iff_not, Bool.not_eq_true, Bool.not_eq_false, Decidable.not_not, strOf_size, strOf_chars, ascSet_length, ba_size, tokB_length, rowsB_length, List.flatMap_cons, List.flatMap_nil] at *; omega) | (simp [vs0, vs1, decide_eq_true_eq, decide_eq_false_iff_not, Bool.not_eq_true, Bool.not_eq_false, Decidable.not_not, strOf_size, strOf_chars, ascSet_length, ba_size, tokB_length, rowsB_length, List.flatMap_cons, List.flatMap_nil] at *; omega)))⟩ ⟨_, (Ent.refl _).trans (ent_i (by first | omega | (simp only [vs0, vs1, decide_eq_true_eq, decide_eq_false_iff_not, Bool.not_eq_true, Bool.not_eq_false, Decidable.not_not, strOf_size, strOf_chars, ascSet_length, ba_size, tokB_length, rowsB_length, List.flatMap_cons, List.flatMap_nil] at *; omega) | (simp [vs0, vs1, decide_eq_true_eq, decide_eq_false_iff_not, Bool.not_eq_true, Bool.not_eq_false, Decidable.not_not, strOf_size, strOf_chars, ascSet_length, ba_size, tokB_length, rowsB_length, List.flatMap_cons, List.flatMap_nil] at *; omega)))⟩ (by first | omega | (simp only [vs0, vs1, decide_eq_true_eq, decide_eq_false_iff_not, Bool.not_eq_true, Bool.not_eq_false, Decidable.not_not, strOf_size, strOf_chars, ascSet_length, ba_size, tokB_length, rowsB_length, List.flatMap_cons, List.flatMap_nil] at *; omega) | (simp [vs0, vs1, decide_eq_true_eq, decide_eq_false_iff_not, Bool.not_eq_true, Bool.not_eq_false, Decidable.not_not, strOf_size, strOf_chars, ascSet_length, ba_size, tokB_length, rowsB_length, List.flatMap_cons, List.flatMap_nil] at *; omega))), OpG.none_ rfl (op_assign rfl (Ent.refl _)), trivial⟩ rfl ?_
    refine E.next ?_
    refine J.seq ?_
    refine J.regL (is := [0, 1, 2, 3, 4, 5, 6, 7, 8, 9]) rfl ?_
    refine JO.plain (R := Rep.is (pb b_r 0)) rfl rfl rfl (Nat.le_of_ble_eq_true rfl) (op_move rfl (Ent.refl _)) ?_
    refine JO.plain (R := Rep.is (pb b_r 0)) rfl rfl rfl (Nat.le_of_ble_eq_true rfl) (op_move rfl (Ent.refl _)) ?_
    refine JO.plain (R := Rep.is (pb b_r 0)) rfl rfl rfl (Nat.le_of_ble_eq_true rfl) (op_nilB rfl (Ent.refl _)) ?_
    refine JO.plain (R := Rep.is (pb b_r 0)) rfl rfl rfl (Nat.le_of_ble_eq_true rfl) (g_fieldP rfl fa153_0 (Ent.refl _)) ?_
    refine JO.plain (R := (kSl kU8).rep (r.left)) rfl rfl rfl (Nat.le_of_ble_eq_true rfl) (g_loadP (f := kRd.fp (r)) (g := (kSl kU8).fp (r.left)) rfl ld35 (by repeat (first | exact List.mem_cons_self | apply List.mem_cons_of_mem)) (Part.field (f := kRd.fp (r)) (g := (kSl kU8).fp (r.left)) (l := kRdF (r)) (i := 0) (fun _ _ e => e) rfl) (Ent.refl _)) ?_
    refine JO.plain (R := Rep.is (.int .i64 (n))) rfl rfl rfl (Nat.le_of_ble_eq_true rfl) (op_move rfl (Ent.refl _)) ?_
    refine JO.plain (R := (kSl kU8).rep (r.left.drop ((n).toNat))) rfl rfl rfl (Nat.le_of_ble_eq_true rfl) (OpC.weak (g_cut (i := (n).toNat) (j := r.left.length) rfl sl35 (Ent.refl _) ⟨_, (Ent.refl _).trans (ent_i (by first | omega | (simp only [vs0, vs1, decide_eq_true_eq, decide_eq_false_iff_not, Bool.not_eq_true, Bool.not_eq_false, Decidable.not_not, strOf_size, strOf_chars, ascSet_length, ba_size, tokB_length, rowsB_length, List.flatMap_cons, List.flatMap_nil] at *; omega) | (simp [vs0, vs1, decide_eq_true_eq, decide_eq_false_iff_not, Bool.not_eq_true, Bool.not_eq_false, Decidable.not_not, strOf_size, strOf_chars, ascSet_length, ba_size, tokB_length, rowsB_length, List.flatMap_cons, List.flatMap_nil] at *; omega)))⟩ rfl (by first | omega | (simp only [vs0, vs1, decide_eq_true_eq, decide_eq_false_iff_not, Bool.not_eq_true, Bool.not_eq_false, Decidable.not_not, strOf_size, strOf_chars, ascSet_length, ba_size, tokB_length, rowsB_length, List.flatMap_cons, List.flatMap_nil] at *; omega) | (simp [vs0, vs1, decide_eq_true_eq, decide_eq_false_iff_not, Bool.not_eq_true, Bool.not_eq_false, Decidable.not_not, strOf_size, strOf_chars, ascSet_length, ba_size, tokB_length, rowsB_length, List.flatMap_cons, List.flatMap_nil] at *; omega))) (ent_v (cut_hi _ _))) ?_
    refine JO.plain (R := Rep.is (pb b_r 0)) rfl rfl rfl (Nat.le_of_ble_eq_true rfl) (op_nilB rfl (Ent.refl _)) ?_
    refine JO.plain (R := Rep.is (pb b_r 0)) rfl rfl rfl (Nat.le_of_ble_eq_true rfl) (g_fieldP rfl fa153_0 (Ent.refl _)) ?_
    refine JO.store (f := kRd.fp (r)) (f' := kRd.fp (({ r with left := r.left.drop ((n).toNat) } : Rd))) (g := (kSl kU8).fp (r.left.drop ((n).toNat))) rfl rfl rfl rfl (Ent.refl _) (Ent.refl _) ld35.2 (Turn.field (f := kRd.fp (r)) (f' := kRd.fp (({ r with left := r.left.drop ((n).toNat) } : Rd))) (g := (kSl kU8).fp (r.left)) (g' := (kSl kU8).fp (r.left.drop ((n).toNat))) (l := kRdF (r)) (l' := kRdF (({ r with left := r.left.drop ((n).toNat) } : Rd))) (i := 0) (fun _ _ e => e) rfl rfl rfl (fun _ _ e => e)) ?_
    refine JO.nil ?_
    refine E.next ?_
    refine J.seq ?_
    refine J.reg_ hmix ([plain ((kSl kU8).rep (r.left.take ((n).toNat))), plain ((kSl kU8).rep (r.left.take ((n).toNat)))]) (by kernel_rfl) rfl ⟨OpG.none_ rfl (op_move rfl (Ent.refl _)), OpG.none_ rfl (op_assign rfl (Ent.refl _)), trivial⟩ rfl ?_
    refine E.next ?_
    refine J.ret ?_
    have how3 : ({ r with left := r.left.drop ((n).toNat) } : Rd) = takeS r n := by simp [takeS]; omega
    refine E.ownEq (l' := [blkI b_r (kRd.fp (takeS r n))]) (congrArg (fun z => [blkI b_r (kRd.fp z)]) how3) ?_
    exact E.ret1 rfl (ent_v (k := (kSl kU8)) (a := r.left.take ((n).toNat)) (b := takeV r n) (by simp [takeV]; omega))
-- (*sealery/pack.Reader).Int
theorem rint_ct (b_r : Nat) (r : Rd) : CtM Tryz.prog 87 [Rep.is (pb b_r 0)] [blkI b_r (kRd.fp (r))] [blkI b_r (kRd.fp (intS r))] (Rep.is (.int .i64 (intV r))) := by
  refine CtG.of Tryz.func87 rfl rfl (Nat.le_of_ble_eq_true rfl) (fun w0 h0 hp => ?_)
  refine J.seq ?_
  refine J.reg_ hmix ([plain (Rep.is (.int .i64 (0)))]) (by kernel_rfl) rfl ⟨OpG.none_ rfl (op_assign rfl (Ent.refl _)), trivial⟩ rfl ?_
  refine E.next ?_
  refine J.seq ?_
  refine J.reg_ hmix ([plain (Rep.is (.int .u64 (0)))]) (by kernel_rfl) rfl ⟨OpG.none_ rfl (op_assign rfl (Ent.refl _)), trivial⟩ rfl ?_
  refine E.next ?_
  refine J.seq ?_
  refine J.seq ?_
  refine J.regL (is := [0, 1, 2, 3]) rfl ?_
  refine JO.plain (R := Rep.is (pb b_r 0)) rfl rfl rfl (Nat.le_of_ble_eq_true rfl) (op_move rfl (Ent.refl _)) ?_
  refine JO.ofM (l' := [blkI b_r (kRd.fp (takeS r 8))]) rfl rfl rfl (Nat.le_of_ble_eq_true rfl) (OpM.call (l1 := []) (l2 := []) (I := blkI b_r (kRd.fp (r))) (I' := blkI b_r (kRd.fp (takeS r 8))) rfl en135 (take_ct b_r r 8 (by decide)) ⟨(Ent.refl _), (Ent.refl _), trivial⟩) ?_
  refine JO.plain (R := Rep.is (.int .i64 (((takeV r 8).length : Int)))) rfl rfl rfl (Nat.le_of_ble_eq_true rfl) (g_len rfl sl35 (Ent.refl _)) ?_
  refine JO.plain (R := Rep.is (.int .i64 (0))) rfl rfl rfl (Nat.le_of_ble_eq_true rfl) (op_move rfl (Ent.refl _)) ?_
  refine JO.nil ?_
  refine E.len (s := 7) (k := kU8) (xs := takeV r 8) (Ent.refl _) (fun hlen1 => ?_)
  refine E.next ?_
  refine J.block ?_
  refine J.loop (ι := Nat) (fun i_ => (upd (upd (upd (upd (upd top 2 (Rep.is (.int .i64 (0)))) 3 (Rep.is (.int .u64 (beU (takeV r 8) i_)))) 7 ((kSl kU8).rep (takeV r 8))) 8 (Rep.is (.int .i64 (((takeV r 8).length : Int))))) 9 (Rep.is (.int .i64 ((i_ : Int)))))) (fun i_ => [blkI b_r (kRd.fp (takeS r 8))]) (fun i_ => i_ ≤ (takeV r 8).length) (fun i_ => (takeV r 8).length - i_) (0) (by first | rfl | (simp; done)) (by omega) (by exact (Sub.upd (Sub.upd (Sub.upd (Sub.upd (Sub.upd (Sub.top _) 2 (Ent.refl _)) 3 (ent_i (by rw [beU_zero]))) 7 (Ent.refl _)) 8 (Ent.refl _)) 9 (ent_i (by first | rfl | (simp; done) | omega | (simp only [vs0, vs1, decide_eq_true_eq, decide_eq_false_iff_not, Bool.not_eq_true, Bool.not_eq_false, Decidable.not_not, strOf_size, strOf_chars, ascSet_length, ba_size, tokB_length, rowsB_length, List.flatMap_cons, List.flatMap_nil] at *; omega) | (simp [vs0, vs1, decide_eq_true_eq, decide_eq_false_iff_not, Bool.not_eq_true, Bool.not_eq_false, Decidable.not_not, strOf_size, strOf_chars, ascSet_length, ba_size, tokB_length, rowsB_length, List.flatMap_cons, List.flatMap_nil, *]; done))))) ?_
  rintro k hl0
  skip
  refine J.seq ?_
  refine J.reg_ hmix ([plain (Rep.is (.bool (decide ((k : Int) < ((takeV r 8).length : Int)))))]) (by kernel_rfl) rfl ⟨OpG.none_ rfl (op_lss rfl (Ent.refl _) (Ent.refl _)), trivial⟩ rfl ?_
  refine E.next ?_
  refine J.seq ?_
  refine J.cond (B := decide ((k : Int) < ((takeV r 8).length : Int))) (Ent.refl _) (fun hc0 => ?_) (fun hc0 => ?_)
  ·
    try simp only [vb0, decide_eq_true_eq, decide_eq_false_iff_not, Bool.not_eq_true, Bool.not_eq_false, Decidable.not_not] at hc0
    refine J.skip ?_
    refine E.next ?_
    refine J.seq ?_
    refine J.block ?_
    refine J.seq ?_
    refine J.reg_ hmix ([plain (ptr (kU8.fp ((takeV r 8).getD k 0))), plain (Rep.is (bv ((takeV r 8).getD k 0))), plain (Rep.is (bv ((takeV r 8).getD k 0)))]) (by kernel_rfl) rfl ⟨OpG.none_ rfl (g_index (i := (k : Int)) (d := 0) rfl sl35 (Ent.refl _) (Ent.refl _) (by first | omega | (simp only [vs0, vs1, decide_eq_true_eq, decide_eq_false_iff_not, Bool.not_eq_true, Bool.not_eq_false, Decidable.not_not, strOf_size, strOf_chars, ascSet_length, ba_size, tokB_length, rowsB_length, List.flatMap_cons, List.flatMap_nil] at *; omega) | (simp [vs0, vs1, decide_eq_true_eq, decide_eq_false_iff_not, Bool.not_eq_true, Bool.not_eq_false, Decidable.not_not, strOf_size, strOf_chars, ascSet_length, ba_size, tokB_length, rowsB_length, List.flatMap_cons, List.flatMap_nil] at *; omega))), OpG.none_ rfl (g_loadU rfl ld5 (Ent.refl _)), OpG.none_ rfl (op_assign rfl (Ent.refl _)), trivial⟩ rfl ?_
    refine E.next ?_
    refine J.reg_ hmix ([plain (Rep.is (.int .u64 (beU (takeV r 8) k))), plain (Rep.is (.int .u64 (IntKind.u64.wrap ((beU (takeV r 8) k) * 2 ^ ((8 : Int)).toNat)))), plain (Rep.is (bv ((takeV r 8).getD k 0))), plain (Rep.is (.int .u64 (IntKind.u64.wrap (((takeV r 8).getD k 0).toNat : Int)))), plain (Rep.is (.int .u64 (bits .or .u64 (IntKind.u64.wrap ((beU (takeV r 8) k) * 2 ^ ((8 : Int)).toNat)) (IntKind.u64.wrap (((takeV r 8).getD k 0).toNat : Int))))), plain (Rep.is (.int .u64 (bits .or .u64 (IntKind.u64.wrap ((beU (takeV r 8) k) * 2 ^ ((8 : Int)).toNat)) (IntKind.u64.wrap (((takeV r 8).getD k 0).toNat : Int)))))]) (by kernel_rfl) rfl ⟨OpG.none_ rfl (op_move rfl (Ent.refl _)), OpG.none_ rfl (op_shl rfl (Ent.refl _) (Ent.refl _) (show 0 ≤ (8 : Int) ∧ (8 : Int) ≤ 64 from by first | omega | (simp only [vs0, vs1, decide_eq_true_eq, decide_eq_false_iff_not, Bool.not_eq_true, Bool.not_eq_false, Decidable.not_not, strOf_size, strOf_chars, ascSet_length, ba_size, tokB_length, rowsB_length, List.flatMap_cons, List.flatMap_nil] at *; omega) | (simp [vs0, vs1, decide_eq_true_eq, decide_eq_false_iff_not, Bool.not_eq_true, Bool.not_eq_false, Decidable.not_not, strOf_size, strOf_chars, ascSet_length, ba_size, tokB_length, rowsB_length, List.flatMap_cons, List.flatMap_nil] at *; omega))), OpG.none_ rfl (op_move rfl (Ent.refl _)), OpG.none_ rfl (op_conv rfl (Ent.refl _) (by kernel_rfl) un154), OpG.none_ rfl (op_or_bits rfl (Ent.refl _) (Ent.refl _)), OpG.none_ rfl (op_assign rfl (Ent.refl _)), trivial⟩ rfl ?_
    refine E.blockEnd ?_
    refine E.next ?_
    refine J.reg_ hmix ([plain (Rep.is (.int .i64 ((k : Int) + 1))), plain (Rep.is (.int .i64 ((k : Int) + 1)))]) (by kernel_rfl) rfl ⟨OpG.none_ rfl (g_add rfl (Ent.refl _) (Ent.refl _) (by first | omega | (simp only [vs0, vs1, decide_eq_true_eq, decide_eq_false_iff_not, Bool.not_eq_true, Bool.not_eq_false, Decidable.not_not, strOf_size, strOf_chars, ascSet_length, ba_size, tokB_length, rowsB_length, List.flatMap_cons, List.flatMap_nil] at *; omega) | (simp [vs0, vs1, decide_eq_true_eq, decide_eq_false_iff_not, Bool.not_eq_true, Bool.not_eq_false, Decidable.not_not, strOf_size, strOf_chars, ascSet_length, ba_size, tokB_length, rowsB_length, List.flatMap_cons, List.flatMap_nil] at *; omega))), OpG.none_ rfl (op_move rfl (Ent.refl _)), trivial⟩ rfl ?_
    exact E.again (k + 1) (by first | rfl | (simp; done)) (by omega) (by omega) (by exact (Sub.upd (Sub.upd (Sub.upd (Sub.upd (Sub.upd (Sub.top _) 2 (Ent.refl _)) 3 (ent_i (by exact beU_step _ k))) 7 (Ent.refl _)) 8 (Ent.refl _)) 9 (ent_i (by first | rfl | (simp; done) | omega | (simp only [vs0, vs1, decide_eq_true_eq, decide_eq_false_iff_not, Bool.not_eq_true, Bool.not_eq_false, Decidable.not_not, strOf_size, strOf_chars, ascSet_length, ba_size, tokB_length, rowsB_length, List.flatMap_cons, List.flatMap_nil] at *; omega) | (simp [vs0, vs1, decide_eq_true_eq, decide_eq_false_iff_not, Bool.not_eq_true, Bool.not_eq_false, Decidable.not_not, strOf_size, strOf_chars, ascSet_length, ba_size, tokB_length, rowsB_length, List.flatMap_cons, List.flatMap_nil, *]; done)))))
  ·
    try simp only [vb0, decide_eq_true_eq, decide_eq_false_iff_not, Bool.not_eq_true, Bool.not_eq_false, Decidable.not_not] at hc0
    refine J.exit ?_
    refine E.passX ?_
    refine E.passX ?_
    refine E.hit ?_
    refine E.next ?_
    refine J.seq ?_
    refine J.reg_ hmix ([plain (Rep.is (.int .u64 (beU (takeV r 8) k))), plain (Rep.is (.int .i64 (IntKind.i64.wrap (beU (takeV r 8) k)))), plain (Rep.is (.int .i64 (IntKind.i64.wrap (beU (takeV r 8) k))))]) (by kernel_rfl) rfl ⟨OpG.none_ rfl (op_move rfl (Ent.refl _)), OpG.none_ rfl (op_conv rfl (Ent.refl _) (by kernel_rfl) un3), OpG.none_ rfl (op_assign rfl (Ent.refl _)), trivial⟩ rfl ?_
    refine E.next ?_
    refine J.ret ?_
    have how2 : takeS r 8 = intS r := by first | rfl | (simp; done) | (simp [vs0, vs1, decide_eq_true_eq, decide_eq_false_iff_not, Bool.not_eq_true, Bool.not_eq_false, Decidable.not_not, strOf_size, strOf_chars, ascSet_length, ba_size, tokB_length, rowsB_length, List.flatMap_cons, List.flatMap_nil, *]; done)
    refine E.ownEq (l' := [blkI b_r (kRd.fp (intS r))]) (congrArg (fun z => [blkI b_r (kRd.fp z)]) how2) ?_
    exact E.ret1 rfl (ent_i (by (have h8 : k = (takeV r 8).length := by omega); subst h8; rfl))
-- (*sealery/pack.Reader).Bad
theorem bad_ct (b_r : Nat) (r : Rd) : CtM Tryz.prog 137 [Rep.is (pb b_r 0)] [blkI b_r (kRd.fp (r))] [blkI b_r (kRd.fp (r))] (Rep.is (.bool (badR r))) := by
  refine CtG.of Tryz.func137 rfl rfl (Nat.le_of_ble_eq_true rfl) (fun w0 h0 hp => ?_)
  refine J.seq ?_
  refine J.reg_ hmix ([plain (Rep.is (.bool (false)))]) (by kernel_rfl) rfl ⟨OpG.none_ rfl (op_assign rfl (Ent.refl _)), trivial⟩ rfl ?_
  refine E.next ?_
  refine J.seq ?_
  refine J.reg_ hmix ([plain (Rep.is (pb b_r 0)), plain (Rep.is (pb b_r 0)), plain (Rep.is (pb b_r 1)), plain (Rep.is (.int .i64 (r.why))), plain (Rep.is (.bool (decide (¬ r.why = 0)))), plain (Rep.is (.bool (decide (¬ r.why = 0))))]) (by kernel_rfl) rfl ⟨OpG.none_ rfl (op_move rfl (Ent.refl _)), OpG.none_ rfl (op_nilB rfl (Ent.refl _)), OpG.none_ rfl (g_fieldP rfl fa153_1 (Ent.refl _)), OpG.none_ rfl (OpC.weak (g_loadP (f := kRd.fp (r)) (g := (kI .i64).fp (r.why)) rfl ld36 (by repeat (first | exact List.mem_cons_self | apply List.mem_cons_of_mem)) (Part.field (f := kRd.fp (r)) (g := (kI .i64).fp (r.why)) (l := kRdF (r)) (i := 1) (fun _ _ e => e) rfl) (Ent.refl _)) (rep_int _ _)), OpG.none_ rfl (op_neq rfl (Ent.refl _) (Ent.refl _)), OpG.none_ rfl (op_assign rfl (Ent.refl _)), trivial⟩ rfl ?_
  refine E.next ?_
  refine J.ret ?_
  exact E.ret1 rfl (ent_b (by rfl))
-- (*sealery/pack.Reader).Count
theorem cnt_ct (b_r : Nat) (r : Rd) (most : Int) : CtM Tryz.prog 93 [Rep.is (pb b_r 0), Rep.is (.int .i64 (most))] [blkI b_r (kRd.fp (r))] [blkI b_r (kRd.fp (cntS r most))] (Rep.is (.int .i64 (cntV r most))) := by
  refine CtG.of Tryz.func93 rfl rfl (Nat.le_of_ble_eq_true rfl) (fun w0 h0 hp => ?_)
  refine J.seq ?_
  refine J.reg_ hmix ([plain (Rep.is (.int .i64 (0)))]) (by kernel_rfl) rfl ⟨OpG.none_ rfl (op_assign rfl (Ent.refl _)), trivial⟩ rfl ?_
  refine E.next ?_
  refine J.seq ?_
  refine J.regL (is := [0, 1, 2]) rfl ?_
  refine JO.plain (R := Rep.is (pb b_r 0)) rfl rfl rfl (Nat.le_of_ble_eq_true rfl) (op_move rfl (Ent.refl _)) ?_
  refine JO.ofM (l' := [blkI b_r (kRd.fp (intS r))]) rfl rfl rfl (Nat.le_of_ble_eq_true rfl) (OpM.call (l1 := []) (l2 := []) (I := blkI b_r (kRd.fp (r))) (I' := blkI b_r (kRd.fp (intS r))) rfl en87 (rint_ct b_r r) ⟨(Ent.refl _), trivial⟩) ?_
  refine JO.plain (R := Rep.is (.int .i64 (intV r))) rfl rfl rfl (Nat.le_of_ble_eq_true rfl) (op_assign rfl (Ent.refl _)) ?_
  refine JO.nil ?_
  refine E.next ?_
  refine J.cut (ι := Unit) (fun i_ => (upd (upd (upd top 0 (Rep.is (pb b_r 0))) 4 (Rep.is (.int .i64 (0)))) 5 (Rep.is (.int .i64 (intV r))))) (fun i_ => [blkI b_r (kRd.fp (cntS r most))]) (fun i_ => True) ?_ ?_
  ·
    refine J.seq ?_
    refine J.reg_ hmix ([plain (Rep.is (pb b_r 0)), plain (Rep.is (pb b_r 0)), plain (Rep.is (pb b_r 1)), plain (Rep.is (.int .i64 ((intS r).why))), plain (Rep.is (.bool (decide (((intS r).why) = 0)))), plain (Rep.is (.bool (decide (((intS r).why) = 0)))), plain (Rep.cond (True ∧ (decide (((intS r).why) = 0)) = true) (Rep.is (.int .i64 (intV r)))), plain (Rep.cond (True ∧ (decide (((intS r).why) = 0)) = true) (Rep.is (.bool (decide ((intV r) < 0))))), plain (Rep.cond (True ∧ (decide (((intS r).why) = 0)) = true) (Rep.is (.bool (decide ((intV r) < 0))))), plain (Rep.cond ((True ∧ (decide (((intS r).why) = 0)) = true) ∧ (decide ((intV r) < 0)) = false) (Rep.is (.int .i64 (intV r)))), plain (Rep.cond ((True ∧ (decide (((intS r).why) = 0)) = true) ∧ (decide ((intV r) < 0)) = false) (Rep.is (.int .i64 (most)))), plain (Rep.cond ((True ∧ (decide (((intS r).why) = 0)) = true) ∧ (decide ((intV r) < 0)) = false) (Rep.is (.bool (decide (most < (intV r)))))), plain (Rep.cond (True ∧ (decide (((intS r).why) = 0)) = true) (Rep.is (.bool ((decide ((intV r) < 0)) || (decide (most < (intV r))))))), plain (Rep.is (.bool ((decide (((intS r).why) = 0)) && ((decide ((intV r) < 0)) || (decide (most < (intV r)))))))]) (by kernel_rfl) rfl ⟨OpG.none_ rfl (op_move rfl (Ent.refl _)), OpG.none_ rfl (op_nilB rfl (Ent.refl _)), OpG.none_ rfl (g_fieldP rfl fa153_1 (Ent.refl _)), OpG.none_ rfl (OpC.weak (g_loadP (f := kRd.fp (intS r)) (g := (kI .i64).fp ((intS r).why)) rfl ld36 (by repeat (first | exact List.mem_cons_self | apply List.mem_cons_of_mem)) (Part.field (f := kRd.fp (intS r)) (g := (kI .i64).fp ((intS r).why)) (l := kRdF (intS r)) (i := 1) (fun _ _ e => e) rfl) (Ent.refl _)) (rep_int _ _)), OpG.none_ rfl (op_eql rfl (Ent.refl _) (Ent.refl _)), OpG.none_ rfl (op_move rfl (Ent.refl _)), OpG.one_ rfl rfl rfl (fun hg => (op_move rfl (Ent.refl _))), OpG.one_ rfl rfl rfl (fun hg => (op_lss rfl (Ent.cond (q := True ∧ (decide (((intS r).why) = 0)) = true) (R := Rep.is (.int .i64 (intV r))) ⟨trivial, hg⟩ (Ent.refl _)) (Ent.refl _))), OpG.one_ rfl rfl rfl (fun hg => (op_move rfl (Ent.cond (q := True ∧ (decide (((intS r).why) = 0)) = true) (R := Rep.is (.bool (decide ((intV r) < 0)))) ⟨trivial, hg⟩ (Ent.refl _)))), OpG.two_ rfl rfl rfl (fun hq hg => (op_move rfl (Ent.refl _))), OpG.two_ rfl rfl rfl (fun hq hg => (op_move rfl (Ent.refl _))), OpG.two_ rfl rfl rfl (fun hq hg => (op_gtr rfl (Ent.cond (q := (True ∧ (decide (((intS r).why) = 0)) = true) ∧ (decide ((intV r) < 0)) = false) (R := Rep.is (.int .i64 (intV r))) ⟨hq, hg⟩ (Ent.refl _)) (Ent.cond (q := (True ∧ (decide (((intS r).why) = 0)) = true) ∧ (decide ((intV r) < 0)) = false) (R := Rep.is (.int .i64 (most))) ⟨hq, hg⟩ (Ent.refl _)))), OpG.one_ rfl rfl rfl (fun hg => (op_or rfl (Ent.cond (q := True ∧ (decide (((intS r).why) = 0)) = true) (R := Rep.is (.bool (decide ((intV r) < 0)))) ⟨trivial, hg⟩ (Ent.refl _)) rfl (fun hz => Ent.cond (q := (True ∧ (decide (((intS r).why) = 0)) = true) ∧ (decide ((intV r) < 0)) = false) (R := Rep.is (.bool (decide (most < (intV r))))) ⟨⟨trivial, hg⟩, hz⟩ (Ent.refl _)))), OpG.none_ rfl (op_and rfl (Ent.refl _) (fun hz => Ent.cond (q := True ∧ (decide (((intS r).why) = 0)) = true) (R := Rep.is (.bool ((decide ((intV r) < 0)) || (decide (most < (intV r)))))) ⟨trivial, hz⟩ (Ent.refl _)) rfl), trivial⟩ rfl ?_
    refine E.next ?_
    refine J.cond (B := (decide (((intS r).why) = 0)) && ((decide ((intV r) < 0)) || (decide (most < (intV r))))) (Ent.refl _) (fun hc0 => ?_) (fun hc0 => ?_)
    ·
      try simp only [vb0, decide_eq_true_eq, decide_eq_false_iff_not, Bool.not_eq_true, Bool.not_eq_false, Decidable.not_not] at hc0
      refine J.regL (is := [0, 1]) rfl ?_
      refine JO.plain (R := Rep.is (pb b_r 0)) rfl rfl rfl (Nat.le_of_ble_eq_true rfl) (op_move rfl (Ent.refl _)) ?_
      refine JO.ofM (l' := [blkI b_r (kRd.fp (stickS (intS r) 3))]) rfl rfl rfl (Nat.le_of_ble_eq_true rfl) (OpM.call (l1 := []) (l2 := []) (I := blkI b_r (kRd.fp (intS r))) (I' := blkI b_r (kRd.fp (stickS (intS r) 3))) rfl en138 (stick_ct b_r (intS r) 3) ⟨(Ent.refl _), (Ent.refl _), trivial⟩) ?_
      refine JO.nil ?_
      have how1 : stickS (intS r) 3 = cntS r most := by first | exact cntS_on hc0 | exact cntS_off hc0
      exact E.meet () (by first | rfl | (rw [how1]; done) | (simp only [how1]; done) | (simp; done)) (by first | trivial | omega | (simp [vs0, vs1, decide_eq_true_eq, decide_eq_false_iff_not, Bool.not_eq_true, Bool.not_eq_false, Decidable.not_not, strOf_size, strOf_chars, ascSet_length, ba_size, tokB_length, rowsB_length, List.flatMap_cons, List.flatMap_nil, *]; done)) (by exact (Sub.upd (Sub.upd (Sub.upd (Sub.top _) 0 (Ent.refl _)) 4 (Ent.refl _)) 5 (Ent.refl _)))
    ·
      try simp only [vb0, decide_eq_true_eq, decide_eq_false_iff_not, Bool.not_eq_true, Bool.not_eq_false, Decidable.not_not] at hc0
      refine J.skip ?_
      have how2 : intS r = cntS r most := by first | exact cntS_on hc0 | exact cntS_off hc0
      exact E.meet () (by first | rfl | (rw [how2]; done) | (simp only [how2]; done) | (simp; done)) (by first | trivial | omega | (simp [vs0, vs1, decide_eq_true_eq, decide_eq_false_iff_not, Bool.not_eq_true, Bool.not_eq_false, Decidable.not_not, strOf_size, strOf_chars, ascSet_length, ba_size, tokB_length, rowsB_length, List.flatMap_cons, List.flatMap_nil, *]; done)) (by exact (Sub.upd (Sub.upd (Sub.upd (Sub.top _) 0 (Ent.refl _)) 4 (Ent.refl _)) 5 (Ent.refl _)))
  ·
    rintro _ hj0
    refine J.seq ?_
    refine J.seq ?_
    refine J.regL (is := [0, 1]) rfl ?_
    refine JO.plain (R := Rep.is (pb b_r 0)) rfl rfl rfl (Nat.le_of_ble_eq_true rfl) (op_move rfl (Ent.refl _)) ?_
    refine JO.ofM (l' := [blkI b_r (kRd.fp ((cntS r most)))]) rfl rfl rfl (Nat.le_of_ble_eq_true rfl) (OpM.call (l1 := []) (l2 := []) (I := blkI b_r (kRd.fp (cntS r most))) (I' := blkI b_r (kRd.fp ((cntS r most)))) rfl en137 (bad_ct b_r (cntS r most)) ⟨(Ent.refl _), trivial⟩) ?_
    refine JO.nil ?_
    refine E.next ?_
    refine J.cond (B := badR (cntS r most)) (Ent.refl _) (fun hc1 => ?_) (fun hc1 => ?_)
    ·
      try simp only [vb0, decide_eq_true_eq, decide_eq_false_iff_not, Bool.not_eq_true, Bool.not_eq_false, Decidable.not_not] at hc1
      refine J.seq ?_
      refine J.reg_ hmix ([plain (Rep.is (.int .i64 (0)))]) (by kernel_rfl) rfl ⟨OpG.none_ rfl (op_assign rfl (Ent.refl _)), trivial⟩ rfl ?_
      refine E.next ?_
      refine J.ret ?_
      refine E.passR ?_
      have how3 : (cntS r most) = cntS r most := by first | rfl | (simp; done) | (simp [vs0, vs1, decide_eq_true_eq, decide_eq_false_iff_not, Bool.not_eq_true, Bool.not_eq_false, Decidable.not_not, strOf_size, strOf_chars, ascSet_length, ba_size, tokB_length, rowsB_length, List.flatMap_cons, List.flatMap_nil, *]; done)
      refine E.ownEq (l' := [blkI b_r (kRd.fp (cntS r most))]) (congrArg (fun z => [blkI b_r (kRd.fp z)]) how3) ?_
      exact E.ret1 rfl (ent_i (by simp [cntV, *]))
    ·
      try simp only [vb0, decide_eq_true_eq, decide_eq_false_iff_not, Bool.not_eq_true, Bool.not_eq_false, Decidable.not_not] at hc1
      refine J.skip ?_
      refine E.next ?_
      refine J.seq ?_
      refine J.reg_ hmix ([plain (Rep.is (.int .i64 (intV r))), plain (Rep.is (.int .i64 (intV r)))]) (by kernel_rfl) rfl ⟨OpG.none_ rfl (op_move rfl (Ent.refl _)), OpG.none_ rfl (op_assign rfl (Ent.refl _)), trivial⟩ rfl ?_
      refine E.next ?_
      refine J.ret ?_
      have how4 : (cntS r most) = cntS r most := by first | rfl | (simp; done) | (simp [vs0, vs1, decide_eq_true_eq, decide_eq_false_iff_not, Bool.not_eq_true, Bool.not_eq_false, Decidable.not_not, strOf_size, strOf_chars, ascSet_length, ba_size, tokB_length, rowsB_length, List.flatMap_cons, List.flatMap_nil, *]; done)
      refine E.ownEq (l' := [blkI b_r (kRd.fp (cntS r most))]) (congrArg (fun z => [blkI b_r (kRd.fp z)]) how4) ?_
      exact E.ret1 rfl (ent_i (by simp [cntV, *]))
-- (*sealery/pack.Reader).Blob
theorem rblob_ct (b_r : Nat) (r : Rd) (most : Int) : CtM Tryz.prog 92 [Rep.is (pb b_r 0), Rep.is (.int .i64 (most))] [blkI b_r (kRd.fp (r))] [blkI b_r (kRd.fp (blobS r most))] ((kSl kU8).rep (blobV r most)) := by
  refine CtG.of Tryz.func92 rfl rfl (Nat.le_of_ble_eq_true rfl) (fun w0 h0 hp => ?_)
  refine J.seq ?_
  refine J.reg_ hmix ([plain (Rep.is (.slice none 0 0))]) (by kernel_rfl) rfl ⟨OpG.none_ rfl (op_assign rfl (Ent.refl _)), trivial⟩ rfl ?_
  refine E.next ?_
  refine J.seq ?_
  refine J.seq ?_
  refine J.regL (is := [0, 1, 2, 3]) rfl ?_
  refine JO.plain (R := Rep.is (pb b_r 0)) rfl rfl rfl (Nat.le_of_ble_eq_true rfl) (op_move rfl (Ent.refl _)) ?_
  refine JO.plain (R := Rep.is (.int .i64 (most))) rfl rfl rfl (Nat.le_of_ble_eq_true rfl) (op_move rfl (Ent.refl _)) ?_
  refine JO.ofM (l' := [blkI b_r (kRd.fp (cntS r most))]) rfl rfl rfl (Nat.le_of_ble_eq_true rfl) (OpM.call (l1 := []) (l2 := []) (I := blkI b_r (kRd.fp (r))) (I' := blkI b_r (kRd.fp (cntS r most))) rfl en93 (cnt_ct b_r r most) ⟨(Ent.refl _), (Ent.refl _), trivial⟩) ?_
  refine JO.plain (R := Rep.is (.int .i64 (cntV r most))) rfl rfl rfl (Nat.le_of_ble_eq_true rfl) (op_assign rfl (Ent.refl _)) ?_
  refine JO.nil ?_
  refine E.next ?_
  refine J.seq ?_
  refine J.regL (is := [0, 1, 2]) rfl ?_
  refine JO.plain (R := Rep.is (pb b_r 0)) rfl rfl rfl (Nat.le_of_ble_eq_true rfl) (op_move rfl (Ent.refl _)) ?_
  refine JO.ofM (l' := [blkI b_r (kRd.fp ((cntS r most)))]) rfl rfl rfl (Nat.le_of_ble_eq_true rfl) (OpM.call (l1 := []) (l2 := []) (I := blkI b_r (kRd.fp (cntS r most))) (I' := blkI b_r (kRd.fp ((cntS r most)))) rfl en137 (bad_ct b_r (cntS r most)) ⟨(Ent.refl _), trivial⟩) ?_
  refine JO.plain (R := Rep.is (.bool (!(badR (cntS r most))))) rfl rfl rfl (Nat.le_of_ble_eq_true rfl) (op_not rfl (Ent.refl _)) ?_
  refine JO.nil ?_
  refine E.next ?_
  refine J.cond (B := !(badR (cntS r most))) (Ent.refl _) (fun hc0 => ?_) (fun hc0 => ?_)
  ·
    try simp only [vb0, decide_eq_true_eq, decide_eq_false_iff_not, Bool.not_eq_true, Bool.not_eq_false, Decidable.not_not] at hc0
    refine J.seq ?_
    refine J.regL (is := [0, 1, 2, 3]) rfl ?_
    refine JO.plain (R := Rep.is (pb b_r 0)) rfl rfl rfl (Nat.le_of_ble_eq_true rfl) (op_move rfl (Ent.refl _)) ?_
    refine JO.plain (R := Rep.is (.int .i64 (cntV r most))) rfl rfl rfl (Nat.le_of_ble_eq_true rfl) (op_move rfl (Ent.refl _)) ?_
    refine JO.ofM (l' := [blkI b_r (kRd.fp (takeS (cntS r most) (cntV r most)))]) rfl rfl rfl (Nat.le_of_ble_eq_true rfl) (OpM.call (l1 := []) (l2 := []) (I := blkI b_r (kRd.fp ((cntS r most)))) (I' := blkI b_r (kRd.fp (takeS (cntS r most) (cntV r most)))) rfl en135 (take_ct b_r (cntS r most) (cntV r most) (cntV_pos r most hc0)) ⟨(Ent.refl _), (Ent.refl _), trivial⟩) ?_
    refine JO.plain (R := (kSl kU8).rep (takeV (cntS r most) (cntV r most))) rfl rfl rfl (Nat.le_of_ble_eq_true rfl) (op_assign rfl (Ent.refl _)) ?_
    refine JO.nil ?_
    refine E.next ?_
    refine J.ret ?_
    refine E.passR ?_
    have how1 : takeS (cntS r most) (cntV r most) = blobS r most := by simp [blobS, hc0]
    refine E.ownEq (l' := [blkI b_r (kRd.fp (blobS r most))]) (congrArg (fun z => [blkI b_r (kRd.fp z)]) how1) ?_
    exact E.ret1 rfl (ent_v (k := (kSl kU8)) (a := takeV (cntS r most) (cntV r most)) (b := blobV r most) (by simp [blobV, hc0]))
  ·
    try simp only [vb0, decide_eq_true_eq, decide_eq_false_iff_not, Bool.not_eq_true, Bool.not_eq_false, Decidable.not_not] at hc0
    refine J.skip ?_
    refine E.next ?_
    refine J.seq ?_
    refine J.reg_ hmix ([plain (Rep.is (.slice none 0 0))]) (by kernel_rfl) rfl ⟨OpG.none_ rfl (op_assign rfl (Ent.refl _)), trivial⟩ rfl ?_
    refine E.next ?_
    refine J.ret ?_
    have how2 : (cntS r most) = blobS r most := by simp [blobS, hc0]
    refine E.ownEq (l' := [blkI b_r (kRd.fp (blobS r most))]) (congrArg (fun z => [blkI b_r (kRd.fp z)]) how2) ?_
    exact E.ret1 rfl ((nil_sl _).trans (ent_v (k := (kSl kU8)) (a := []) (b := blobV r most) (by simp [blobV, hc0])))
-- (*sealery/pack.Reader).Text
theorem rtext_ct (b_r : Nat) (r : Rd) (most : Int) : CtM Tryz.prog 136 [Rep.is (pb b_r 0), Rep.is (.int .i64 (most))] [blkI b_r (kRd.fp (r))] [blkI b_r (kRd.fp (blobS r most))] (Rep.is (.string (textV r most))) := by
  refine CtG.of Tryz.func136 rfl rfl (Nat.le_of_ble_eq_true rfl) (fun w0 h0 hp => ?_)
  refine J.seq ?_
  refine J.reg_ hmix ([plain (Rep.is (.string ((⟨#[]⟩ : ByteArray))))]) (by kernel_rfl) rfl ⟨OpG.none_ rfl (op_assign rfl (Ent.refl _)), trivial⟩ rfl ?_
  refine E.next ?_
  refine J.seq ?_
  refine J.regL (is := [0, 1, 2, 3, 4]) rfl ?_
  refine JO.plain (R := Rep.is (pb b_r 0)) rfl rfl rfl (Nat.le_of_ble_eq_true rfl) (op_move rfl (Ent.refl _)) ?_
  refine JO.plain (R := Rep.is (.int .i64 (most))) rfl rfl rfl (Nat.le_of_ble_eq_true rfl) (op_move rfl (Ent.refl _)) ?_
  refine JO.ofM (l' := [blkI b_r (kRd.fp (blobS r most))]) rfl rfl rfl (Nat.le_of_ble_eq_true rfl) (OpM.call (l1 := []) (l2 := []) (I := blkI b_r (kRd.fp (r))) (I' := blkI b_r (kRd.fp (blobS r most))) rfl en92 (rblob_ct b_r r most) ⟨(Ent.refl _), (Ent.refl _), trivial⟩) ?_
  refine JO.plain (R := Rep.is (.string (strOf (blobV r most)))) rfl rfl rfl (Nat.le_of_ble_eq_true rfl) (op_b2s rfl sl35 un5 un9 (Ent.refl _)) ?_
  refine JO.plain (R := Rep.is (.string (strOf (blobV r most)))) rfl rfl rfl (Nat.le_of_ble_eq_true rfl) (op_assign rfl (Ent.refl _)) ?_
  refine JO.nil ?_
  refine E.next ?_
  refine J.ret ?_
  exact E.ret1 rfl (ent_s (by rfl))
-- (*sealery/pack.Reader).Sum
theorem rsum_ct (b_r : Nat) (r : Rd) : CtM Tryz.prog 107 [Rep.is (pb b_r 0)] [blkI b_r (kRd.fp (r))] [blkI b_r (kRd.fp (sumS r))] ((kArr 32 kU8).rep (sumV r)) := by
  refine CtG.of Tryz.func107 rfl rfl (Nat.le_of_ble_eq_true rfl) (fun w0 h0 hp => ?_)
  refine J.seq ?_
  refine J.regL (is := [0]) rfl ?_
  refine JO.newB rfl rfl rfl (Nat.le_of_ble_eq_true rfl) (op_alloc (f := (kArr 32 kU8).fp ((List.replicate 32 0))) rfl zt24 (fun h => zarrG kU8 (0) _ (fun _ => rfl) 32 h)) (fun b1 => ?_)
  refine JO.nil ?_
  refine E.next ?_
  refine J.seq ?_
  refine J.regX0 hmix [⟨plain (Rep.is (sb b1 32)), none⟩, ⟨plain (Rep.is (pb b_r 0)), none⟩, ⟨plain ((kSl kU8).rep (takeV r 32)), some [blkI b1 ((kArr 32 kU8).fp ((List.replicate 32 0))), blkI b_r (kRd.fp (takeS r 32))]⟩, ⟨plain (Rep.is (.int .i64 (((min (takeV r 32).length 32 : Nat) : Int)))), some [blkI b1 ((kArr 32 kU8).fp ((takeV r 32).take 32 ++ (List.replicate 32 0).drop (takeV r 32).length)), blkI b_r (kRd.fp (takeS r 32))]⟩] [blkI b1 ((kArr 32 kU8).fp ((takeV r 32).take 32 ++ (List.replicate 32 0).drop (takeV r 32).length)), blkI b_r (kRd.fp (takeS r 32))] [] (by kernel_rfl) (by kernel_rfl) rfl ⟨fun V => OpG.none_ rfl (op_cutAB rfl ar24 (Ent.refl _)), fun V => OpG.none_ rfl (op_move rfl (Ent.refl _)), ⟨rfl, rfl, (OpMF.call (l1 := [blkI b1 ((kArr 32 kU8).fp ((List.replicate 32 0)))]) (l2 := []) (I := blkI b_r (kRd.fp (r))) (I' := blkI b_r (kRd.fp (takeS r 32))) rfl en135 (take_ct b_r r 32 (by decide)) ⟨(Ent.refl _), (Ent.refl _), trivial⟩)⟩, ⟨rfl, rfl, (OpMF.copy (l1 := []) (l2 := [blkI b_r (kRd.fp (takeS r 32))]) (k := kU8) (n := 32) (xs := (List.replicate 32 0)) (ys := takeV r 32) rfl sl35 (Ent.refl _) (Ent.refl _))⟩, trivial⟩ rfl rfl ?_
  refine JO.nil ?_
  refine E.next ?_
  refine J.seq ?_
  refine J.regL (is := [0, 1]) rfl ?_
  refine JO.plain (R := (kArr 32 kU8).rep ((takeV r 32).take 32 ++ (List.replicate 32 0).drop (takeV r 32).length)) rfl rfl rfl (Nat.le_of_ble_eq_true rfl) (g_loadP (f := (kArr 32 kU8).fp ((takeV r 32).take 32 ++ (List.replicate 32 0).drop (takeV r 32).length)) (g := (kArr 32 kU8).fp ((takeV r 32).take 32 ++ (List.replicate 32 0).drop (takeV r 32).length)) rfl ld24 (by repeat (first | exact List.mem_cons_self | apply List.mem_cons_of_mem)) (Part.all _) (Ent.refl _)) ?_
  refine JO.store (f := (kArr 32 kU8).fp ((takeV r 32).take 32 ++ (List.replicate 32 0).drop (takeV r 32).length)) (f' := (kArr 32 kU8).fp ((takeV r 32).take 32 ++ (List.replicate 32 0).drop (takeV r 32).length)) (g := (kArr 32 kU8).fp ((takeV r 32).take 32 ++ (List.replicate 32 0).drop (takeV r 32).length)) rfl rfl rfl rfl (Ent.refl _) (Ent.refl _) ld24.2 (Turn.all _ _ rfl) ?_
  refine JO.nil ?_
  refine E.next ?_
  refine J.ret ?_
  have how2 : takeS r 32 = sumS r := by first | rfl | (simp; done) | (simp [vs0, vs1, decide_eq_true_eq, decide_eq_false_iff_not, Bool.not_eq_true, Bool.not_eq_false, Decidable.not_not, strOf_size, strOf_chars, ascSet_length, ba_size, tokB_length, rowsB_length, List.flatMap_cons, List.flatMap_nil, *]; done)
  refine E.ownEq (l' := [blkI b1 ((kArr 32 kU8).fp ((takeV r 32).take 32 ++ (List.replicate 32 0).drop (takeV r 32).length)), blkI b_r (kRd.fp (sumS r))]) (congrArg (fun z => [blkI b1 ((kArr 32 kU8).fp ((takeV r 32).take 32 ++ (List.replicate 32 0).drop (takeV r 32).length)), blkI b_r (kRd.fp z)]) how2) ?_
  exact g_retCe (k := (kArr 32 kU8)) (x := (takeV r 32).take 32 ++ (List.replicate 32 0).drop (takeV r 32).length) rfl (Ent.refl _) (by repeat (first | exact List.mem_cons_self | apply List.mem_cons_of_mem)) ld24 (by rfl)
-- (*sealery/pack.Reader).End
theorem rend_ct (b_r : Nat) (r : Rd) : CtM Tryz.prog 94 [Rep.is (pb b_r 0)] [blkI b_r (kRd.fp (r))] [blkI b_r (kRd.fp (r))] (Rep.is (.int .i64 (endR r))) := by
  refine CtG.of Tryz.func94 rfl rfl (Nat.le_of_ble_eq_true rfl) (fun w0 h0 hp => ?_)
  refine J.seq ?_
  refine J.reg_ hmix ([plain (Rep.is (.int .i64 (0)))]) (by kernel_rfl) rfl ⟨OpG.none_ rfl (op_assign rfl (Ent.refl _)), trivial⟩ rfl ?_
  refine E.next ?_
  refine J.seq ?_
  refine J.seq ?_
  refine J.reg_ hmix ([plain (Rep.is (pb b_r 0)), plain (Rep.is (pb b_r 0)), plain (Rep.is (pb b_r 0)), plain ((kSl kU8).rep (r.left)), plain (Rep.is (.int .i64 (((r.left).length : Int)))), plain (Rep.is (.bool (decide (0 < ((r.left).length : Int)))))]) (by kernel_rfl) rfl ⟨OpG.none_ rfl (op_move rfl (Ent.refl _)), OpG.none_ rfl (op_nilB rfl (Ent.refl _)), OpG.none_ rfl (g_fieldP rfl fa153_0 (Ent.refl _)), OpG.none_ rfl (g_loadP (f := kRd.fp (r)) (g := (kSl kU8).fp (r.left)) rfl ld35 (by repeat (first | exact List.mem_cons_self | apply List.mem_cons_of_mem)) (Part.field (f := kRd.fp (r)) (g := (kSl kU8).fp (r.left)) (l := kRdF (r)) (i := 0) (fun _ _ e => e) rfl) (Ent.refl _)), OpG.none_ rfl (g_len rfl sl35 (Ent.refl _)), OpG.none_ rfl (op_gtr rfl (Ent.refl _) (Ent.refl _)), trivial⟩ rfl ?_
  refine E.len (s := 6) (k := kU8) (xs := r.left) (Ent.refl _) (fun hlen1 => ?_)
  refine E.next ?_
  refine J.cond (B := decide (0 < ((r.left).length : Int))) (Ent.refl _) (fun hc0 => ?_) (fun hc0 => ?_)
  ·
    try simp only [vb0, decide_eq_true_eq, decide_eq_false_iff_not, Bool.not_eq_true, Bool.not_eq_false, Decidable.not_not] at hc0
    refine J.seq ?_
    refine J.reg_ hmix ([plain (Rep.is (.int .i64 (5)))]) (by kernel_rfl) rfl ⟨OpG.none_ rfl (op_assign rfl (Ent.refl _)), trivial⟩ rfl ?_
    refine E.next ?_
    refine J.ret ?_
    refine E.passR ?_
    exact E.ret1 rfl (ent_i (by exact (if_pos (decide_eq_true hc0)).symm))
  ·
    try simp only [vb0, decide_eq_true_eq, decide_eq_false_iff_not, Bool.not_eq_true, Bool.not_eq_false, Decidable.not_not] at hc0
    refine J.skip ?_
    refine E.next ?_
    refine J.seq ?_
    refine J.reg_ hmix ([plain (Rep.is (pb b_r 0)), plain (Rep.is (pb b_r 0)), plain (Rep.is (pb b_r 1)), plain (Rep.is (.int .i64 (r.why))), plain (Rep.is (.int .i64 (r.why)))]) (by kernel_rfl) rfl ⟨OpG.none_ rfl (op_move rfl (Ent.refl _)), OpG.none_ rfl (op_nilB rfl (Ent.refl _)), OpG.none_ rfl (g_fieldP rfl fa153_1 (Ent.refl _)), OpG.none_ rfl (OpC.weak (g_loadP (f := kRd.fp (r)) (g := (kI .i64).fp (r.why)) rfl ld36 (by repeat (first | exact List.mem_cons_self | apply List.mem_cons_of_mem)) (Part.field (f := kRd.fp (r)) (g := (kI .i64).fp (r.why)) (l := kRdF (r)) (i := 1) (fun _ _ e => e) rfl) (Ent.refl _)) (rep_int _ _)), OpG.none_ rfl (op_assign rfl (Ent.refl _)), trivial⟩ rfl ?_
    refine E.next ?_
    refine J.ret ?_
    exact E.ret1 rfl (ent_i (by exact (if_neg (by simpa using hc0)).symm))
end Go.Proofs.YtdioiepkbolnlaaGreatDoor
