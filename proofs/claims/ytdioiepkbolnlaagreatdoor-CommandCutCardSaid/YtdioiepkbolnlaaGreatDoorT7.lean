import Derived.Test.YtdioiepkbolnlaaGreatDoorT6
import Derived.Test.YtdioiepkbolnlaaGreatDoorOb
import Derived.Test.YtdioiepkbolnlaaGreatDoorGt
set_option linter.unusedSimpArgs false
set_option linter.unusedVariables false
set_option linter.unnecessarySimpa false
set_option maxRecDepth 100000
set_option maxHeartbeats 4000000
namespace Go.Proofs.YtdioiepkbolnlaaGreatDoor
open Go.RowKit
attribute [local irreducible] OpC OpM 
theorem en134 : Enters Tryz.prog 134 := enters_of Tryz.func134 (by kernel_rfl) rfl
theorem bs153 : ∀ ps, Tryz.prog.built 153 ps = Instr.fill (fun i => ([(0, 1), (1, 1)] : List (Nat × Nat)).toArray[i]?) #[.slice none 0 0, .int .i64 0] ps := fun _ => by kernel_rfl
theorem fa116_0 : FaT Tryz.prog 116 0 0 0 := ⟨by kernel_rfl, by kernel_rfl⟩
theorem ld113 : LdT Tryz.prog 113 false 1 := ⟨by kernel_rfl, by kernel_rfl⟩
theorem en136 : Enters Tryz.prog 136 := enters_of Tryz.func136 (by kernel_rfl) rfl
theorem zt26 : ∀ w, (zeroValue 26).run Tryz.prog w = .ok (.agg #[.string ⟨#[]⟩, .int .i64 0, .slice none 0 0, .int .u8 0, .int .u8 0, .int .u8 0, .int .u8 0, .int .u8 0, .int .u8 0, .int .u8 0, .int .u8 0, .int .u8 0, .int .u8 0, .int .u8 0, .int .u8 0, .int .u8 0, .int .u8 0, .int .u8 0, .int .u8 0, .int .u8 0, .int .u8 0, .int .u8 0, .int .u8 0, .int .u8 0, .int .u8 0, .int .u8 0, .int .u8 0, .int .u8 0, .int .u8 0, .int .u8 0, .int .u8 0, .int .u8 0, .int .u8 0, .int .u8 0, .int .u8 0]) w := fun _ => by kernel_rfl
theorem bs26 : ∀ ps, Tryz.prog.built 26 ps = Instr.fill (fun i => ([(0, 1), (1, 1), (2, 1), (3, 32)] : List (Nat × Nat)).toArray[i]?) #[.string ⟨#[]⟩, .int .i64 0, .slice none 0 0, .int .u8 0, .int .u8 0, .int .u8 0, .int .u8 0, .int .u8 0, .int .u8 0, .int .u8 0, .int .u8 0, .int .u8 0, .int .u8 0, .int .u8 0, .int .u8 0, .int .u8 0, .int .u8 0, .int .u8 0, .int .u8 0, .int .u8 0, .int .u8 0, .int .u8 0, .int .u8 0, .int .u8 0, .int .u8 0, .int .u8 0, .int .u8 0, .int .u8 0, .int .u8 0, .int .u8 0, .int .u8 0, .int .u8 0, .int .u8 0, .int .u8 0, .int .u8 0] ps := fun _ => by kernel_rfl
theorem ap22 : ApT Tryz.prog 22 29 (.agg #[.int .i64 0, .string ⟨#[]⟩, .bool false, .int .i64 0]) 4 40 := ⟨by kernel_rfl, by kernel_rfl⟩
theorem en107 : Enters Tryz.prog 107 := enters_of Tryz.func107 (by kernel_rfl) rfl
theorem en91 : Enters Tryz.prog 91 := enters_of Tryz.func91 (by kernel_rfl) rfl
theorem zt35 : ∀ w, (zeroValue 35).run Tryz.prog w = .ok (.slice none 0 0) w := fun _ => by kernel_rfl
theorem ap27 : ApT Tryz.prog 27 35 (.slice none 0 0) 1 24 := ⟨by kernel_rfl, by kernel_rfl⟩

-- bytes.Clone
theorem bclone_ct (b : List UInt8) (hb : b.length ≤ 35184372088832) : Ct Tryz.prog 134 [(kSl kU8).rep (b)] ((kSl kU8).rep (b)) := by
  refine CtG.of Tryz.func134 rfl rfl (Nat.le_of_ble_eq_true rfl) (fun w0 h0 hp => ?_)
  refine J.len (s := 0) (k := kU8) (xs := b) (Ent.refl _) (fun hlen_0 => ?_)
  refine J.seq ?_
  refine J.reg_ hmix ([plain (Rep.is (.slice none 0 0))]) (by kernel_rfl) rfl ⟨OpG.none_ rfl (op_assign rfl (Ent.refl _)), trivial⟩ rfl ?_
  refine E.next ?_
  refine J.seq ?_
  refine J.seq ?_
  refine J.reg_ hmix ([plain ((kSl kU8).rep (b)), plain (nilq (b))]) (by kernel_rfl) rfl ⟨OpG.none_ rfl (op_move rfl (Ent.refl _)), OpG.none_ rfl (op_nilq rfl rfl (Ent.refl _) sl35.1), trivial⟩ rfl ?_
  refine E.nilq (s := 4) (Ent.refl _) (fun q1 hq1 => ?_)
  refine E.next ?_
  refine J.cond (B := q1) (Ent.refl _) (fun hc0 => ?_) (fun hc0 => ?_)
  ·
    try simp only [vb0, decide_eq_true_eq, decide_eq_false_iff_not, Bool.not_eq_true, Bool.not_eq_false, Decidable.not_not] at hc0
    refine J.seq ?_
    refine J.reg_ hmix ([plain (Rep.is (.slice none 0 0))]) (by kernel_rfl) rfl ⟨OpG.none_ rfl (op_assign rfl (Ent.refl _)), trivial⟩ rfl ?_
    refine E.next ?_
    refine J.ret ?_
    refine E.passR ?_
    exact E.ret1 rfl ((nil_sl _).trans (ent_v (k := (kSl kU8)) (a := []) (b := b) (by exact (hq1 hc0).symm)))
  ·
    try simp only [vb0, decide_eq_true_eq, decide_eq_false_iff_not, Bool.not_eq_true, Bool.not_eq_false, Decidable.not_not] at hc0
    refine J.skip ?_
    refine E.next ?_
    refine J.seq ?_
    refine J.regL (is := [0, 1, 2, 3]) rfl ?_
    refine JO.new rfl rfl rfl (Nat.le_of_ble_eq_true rfl) (op_slit0 (k := kU8) rfl sl35) (fun v2 => ?_)
    refine JO.plain (R := (kSl kU8).rep (b)) rfl rfl rfl (Nat.le_of_ble_eq_true rfl) (op_move rfl (Ent.refl _)) ?_
    refine JO.append (k := kU8) (xs := []) (ys := b) rfl rfl rfl (Nat.le_of_ble_eq_true rfl) rfl ((Ent.refl _).trans (rv_is _ _ _)) (Ent.refl _) ap35.1 ap35.2 rfl (by decide) (by first | omega | (simp only [vs0, vs1, decide_eq_true_eq, decide_eq_false_iff_not, Bool.not_eq_true, Bool.not_eq_false, Decidable.not_not, strOf_size, strOf_chars, ascSet_length, ba_size, tokB_length, rowsB_length, List.flatMap_cons, List.flatMap_nil, many_length] at *; omega) | (simp [vs0, vs1, decide_eq_true_eq, decide_eq_false_iff_not, Bool.not_eq_true, Bool.not_eq_false, Decidable.not_not, strOf_size, strOf_chars, ascSet_length, ba_size, tokB_length, rowsB_length, List.flatMap_cons, List.flatMap_nil, many_length] at *; omega)) (by first | omega | (simp only [vs0, vs1, decide_eq_true_eq, decide_eq_false_iff_not, Bool.not_eq_true, Bool.not_eq_false, Decidable.not_not, strOf_size, strOf_chars, ascSet_length, ba_size, tokB_length, rowsB_length, List.flatMap_cons, List.flatMap_nil, many_length] at *; omega) | (simp [vs0, vs1, decide_eq_true_eq, decide_eq_false_iff_not, Bool.not_eq_true, Bool.not_eq_false, Decidable.not_not, strOf_size, strOf_chars, ascSet_length, ba_size, tokB_length, rowsB_length, List.flatMap_cons, List.flatMap_nil, many_length] at *; omega)) (fun v3 => ?_)
    refine JO.plain (R := rv v3 kU8 (([]) ++ b)) rfl rfl rfl (Nat.le_of_ble_eq_true rfl) (op_assign rfl (Ent.refl _)) ?_
    refine JO.nil ?_
    refine E.next ?_
    refine J.ret ?_
    exact E.ret1 rfl ((rv_sl _ _ _).trans (ent_v (k := (kSl kU8)) (a := ([]) ++ b) (b := b) (by simp)))
-- sealery/pack.Read
theorem pread_ct (b : List UInt8) (hb : b.length ≤ 35184372088832) : CtO Tryz.prog 86 [(kSl kU8).rep (b)] (isPb) (blkOf (kRd.fp ((⟨b, 0⟩ : Rd)))) := by
  refine CtG.of Tryz.func86 rfl rfl (Nat.le_of_ble_eq_true rfl) (fun w0 h0 hp => ?_)
  refine J.len (s := 0) (k := kU8) (xs := b) (Ent.refl _) (fun hlen_0 => ?_)
  refine J.seq ?_
  refine J.reg_ hmix ([plain (Rep.is (.pointer none))]) (by kernel_rfl) rfl ⟨OpG.none_ rfl (op_assign rfl (Ent.refl _)), trivial⟩ rfl ?_
  refine E.next ?_
  refine J.seq ?_
  refine J.regL (is := [0, 1, 2, 3, 4]) rfl ?_
  refine JO.plain (R := (kSl kU8).rep (b)) rfl rfl rfl (Nat.le_of_ble_eq_true rfl) (op_move rfl (Ent.refl _)) ?_
  refine JO.plain (R := (kSl kU8).rep (b)) rfl rfl rfl (Nat.le_of_ble_eq_true rfl) (g_call rfl en134 (bclone_ct b (by first | omega | (simp only [vs0, vs1, decide_eq_true_eq, decide_eq_false_iff_not, Bool.not_eq_true, Bool.not_eq_false, Decidable.not_not, strOf_size, strOf_chars, ascSet_length, ba_size, tokB_length, rowsB_length, List.flatMap_cons, List.flatMap_nil, many_length] at *; omega) | (simp [vs0, vs1, decide_eq_true_eq, decide_eq_false_iff_not, Bool.not_eq_true, Bool.not_eq_false, Decidable.not_not, strOf_size, strOf_chars, ascSet_length, ba_size, tokB_length, rowsB_length, List.flatMap_cons, List.flatMap_nil, many_length] at *; omega))) ⟨(Ent.refl _), trivial⟩) ?_
  refine JO.plain (R := kRd.rep ((⟨b, 0⟩ : Rd))) rfl rfl rfl (Nat.le_of_ble_eq_true rfl) (op_build (f := kRd.fp (⟨b, 0⟩ : Rd)) rfl bs153 zRd ⟨_, (kSl kU8).fp (b), rfl, rfl, (Ent.refl _), rfl, rfl⟩ (fun _ _ e => e) rfl) ?_
  refine JO.newB rfl rfl rfl (Nat.le_of_ble_eq_true rfl) (op_boxB (f := kRd.fp ((⟨b, 0⟩ : Rd))) rfl (Ent.refl _)) (fun b1 => ?_)
  refine JO.plain (R := Rep.is (pb b1 0)) rfl rfl rfl (Nat.le_of_ble_eq_true rfl) (op_assign rfl (Ent.refl _)) ?_
  refine JO.nil ?_
  refine E.next ?_
  refine J.ret ?_
  exact E.ret1B rfl (Ent.refl _)
-- (sealery/command.reader).name
theorem rname_ct (b_rd : Nat) (rd : Rd) : CtM Tryz.prog 89 [kRdr.rep ((⟨b_rd⟩ : Rdr))] [blkI b_rd (kRd.fp (rd))] [blkI b_rd (kRd.fp (blobS rd 24))] (Rep.is (.string (textV rd 24))) := by
  refine CtG.of Tryz.func89 rfl rfl (Nat.le_of_ble_eq_true rfl) (fun w0 h0 hp => ?_)
  refine J.seq ?_
  refine J.reg_ hmix ([plain (ptr (kRdr.fp ((⟨b_rd⟩ : Rdr)))), plain (Rep.is (.string ((⟨#[]⟩ : ByteArray))))]) (by kernel_rfl) rfl ⟨OpG.none_ rfl (op_box (f := kRdr.fp ((⟨b_rd⟩ : Rdr))) rfl (Ent.refl _)), OpG.none_ rfl (op_assign rfl (Ent.refl _)), trivial⟩ rfl ?_
  refine E.next ?_
  refine J.seq ?_
  refine J.regL (is := [0, 1, 2, 3]) rfl ?_
  refine JO.plain (R := ptr (kPb.fp (b_rd))) rfl rfl rfl (Nat.le_of_ble_eq_true rfl) (g_field (l := kRdrF ((⟨b_rd⟩ : Rdr))) rfl fa116_0 (fun _ _ e => e) rfl rfl (Ent.refl _)) ?_
  refine JO.plain (R := Rep.is (pb b_rd 0)) rfl rfl rfl (Nat.le_of_ble_eq_true rfl) (g_loadPb rfl ld113 (Ent.refl _)) ?_
  refine JO.ofM (l' := [blkI b_rd (kRd.fp (blobS rd 24))]) rfl rfl rfl (Nat.le_of_ble_eq_true rfl) (OpM.call (l1 := []) (l2 := []) (I := blkI b_rd (kRd.fp (rd))) (I' := blkI b_rd (kRd.fp (blobS rd 24))) rfl en136 (rtext_ct b_rd rd 24) ⟨(Ent.refl _), (Ent.refl _), trivial⟩) ?_
  refine JO.plain (R := Rep.is (.string (textV rd 24))) rfl rfl rfl (Nat.le_of_ble_eq_true rfl) (op_assign rfl (Ent.refl _)) ?_
  refine JO.nil ?_
  refine E.next ?_
  refine J.ret ?_
  exact E.ret1 rfl (Ent.refl _)
-- (sealery/command.reader).code
theorem rcode_ct (b_rd : Nat) (rd : Rd) : CtM Tryz.prog 102 [kRdr.rep ((⟨b_rd⟩ : Rdr))] [blkI b_rd (kRd.fp (rd))] [blkI b_rd (kRd.fp (intS rd))] (Rep.is (.int .i64 (intV rd))) := by
  refine CtG.of Tryz.func102 rfl rfl (Nat.le_of_ble_eq_true rfl) (fun w0 h0 hp => ?_)
  refine J.seq ?_
  refine J.reg_ hmix ([plain (ptr (kRdr.fp ((⟨b_rd⟩ : Rdr)))), plain (Rep.is (.int .i64 (0)))]) (by kernel_rfl) rfl ⟨OpG.none_ rfl (op_box (f := kRdr.fp ((⟨b_rd⟩ : Rdr))) rfl (Ent.refl _)), OpG.none_ rfl (op_assign rfl (Ent.refl _)), trivial⟩ rfl ?_
  refine E.next ?_
  refine J.seq ?_
  refine J.regL (is := [0, 1, 2, 3]) rfl ?_
  refine JO.plain (R := ptr (kPb.fp (b_rd))) rfl rfl rfl (Nat.le_of_ble_eq_true rfl) (g_field (l := kRdrF ((⟨b_rd⟩ : Rdr))) rfl fa116_0 (fun _ _ e => e) rfl rfl (Ent.refl _)) ?_
  refine JO.plain (R := Rep.is (pb b_rd 0)) rfl rfl rfl (Nat.le_of_ble_eq_true rfl) (g_loadPb rfl ld113 (Ent.refl _)) ?_
  refine JO.ofM (l' := [blkI b_rd (kRd.fp (intS rd))]) rfl rfl rfl (Nat.le_of_ble_eq_true rfl) (OpM.call (l1 := []) (l2 := []) (I := blkI b_rd (kRd.fp (rd))) (I' := blkI b_rd (kRd.fp (intS rd))) rfl en87 (rint_ct b_rd rd) ⟨(Ent.refl _), trivial⟩) ?_
  refine JO.plain (R := Rep.is (.int .i64 (intV rd))) rfl rfl rfl (Nat.le_of_ble_eq_true rfl) (op_assign rfl (Ent.refl _)) ?_
  refine JO.nil ?_
  refine E.next ?_
  refine J.ret ?_
  exact E.ret1 rfl (Ent.refl _)
-- sealery/token.Read
theorem tread_ct (b_r : Nat) (r : Rd) : CtM Tryz.prog 88 [Rep.is (pb b_r 0)] [blkI b_r (kRd.fp (r))] [blkI b_r (kRd.fp (tokS r))] (kToken.rep (tokV r)) := by
  refine CtG.of Tryz.func88 rfl rfl (Nat.le_of_ble_eq_true rfl) (fun w0 h0 hp => ?_)
  refine J.seq ?_
  refine J.regL (is := [0]) rfl ?_
  refine JO.newB rfl rfl rfl (Nat.le_of_ble_eq_true rfl) (op_alloc (f := kToken.fp (zTokenV)) rfl zt26 (fun h => zToken h)) (fun b1 => ?_)
  refine JO.nil ?_
  refine E.next ?_
  refine J.seq ?_
  refine J.regL (is := [0, 1, 2, 3, 4, 5, 6]) rfl ?_
  refine JO.plain (R := Rep.is (pb b_r 0)) rfl rfl rfl (Nat.le_of_ble_eq_true rfl) (op_move rfl (Ent.refl _)) ?_
  refine JO.ofM (l' := [blkI b1 (kToken.fp (zTokenV)), blkI b_r (kRd.fp (blobS r 24))]) rfl rfl rfl (Nat.le_of_ble_eq_true rfl) (OpM.call (l1 := [blkI b1 (kToken.fp (zTokenV))]) (l2 := []) (I := blkI b_r (kRd.fp (r))) (I' := blkI b_r (kRd.fp (blobS r 24))) rfl en136 (rtext_ct b_r r 24) ⟨(Ent.refl _), (Ent.refl _), trivial⟩) ?_
  refine JO.plain (R := Rep.is (pb b_r 0)) rfl rfl rfl (Nat.le_of_ble_eq_true rfl) (op_move rfl (Ent.refl _)) ?_
  refine JO.ofM (l' := [blkI b1 (kToken.fp (zTokenV)), blkI b_r (kRd.fp (intS (blobS r 24)))]) rfl rfl rfl (Nat.le_of_ble_eq_true rfl) (OpM.call (l1 := [blkI b1 (kToken.fp (zTokenV))]) (l2 := []) (I := blkI b_r (kRd.fp (blobS r 24))) (I' := blkI b_r (kRd.fp (intS (blobS r 24)))) rfl en87 (rint_ct b_r (blobS r 24)) ⟨(Ent.refl _), trivial⟩) ?_
  refine JO.plain (R := (kV kToken kTokenF 2 (.slice none 0 0)).rep ((⟨textV r 24, intV (blobS r 24), [], (List.replicate 32 0)⟩ : Token))) rfl rfl rfl (Nat.le_of_ble_eq_true rfl) (op_build (f := (kV kToken kTokenF 2 (.slice none 0 0)).fp (⟨textV r 24, intV (blobS r 24), [], (List.replicate 32 0)⟩ : Token)) (l0 := (kTokenF zTokenV).set 2 (isF (.slice none 0 0))) (l' := (kTokenF (⟨textV r 24, intV (blobS r 24), [], (List.replicate 32 0)⟩ : Token)).set 2 (isF (.slice none 0 0))) rfl bs26 (fun h => RowF.kvz (zToken h) rfl rfl rfl) ⟨_, kS.fp (textV r 24), rfl, rfl, ((Ent.refl _).trans (str_rep _)), rfl, _, (kI .i64).fp (intV (blobS r 24)), rfl, rfl, ((Ent.refl _).trans (int_rep _ _)), rfl, rfl⟩ (fun _ _ e => ⟨e.length.trans rfl, e⟩) rfl) ?_
  refine JO.newB rfl rfl rfl (Nat.le_of_ble_eq_true rfl) (op_alloc (f := kToken.fp (zTokenV)) rfl zt26 (fun h => zToken h)) (fun b2 => ?_)
  refine JO.store (f := kToken.fp (zTokenV)) (f' := (kV kToken kTokenF 2 (.slice none 0 0)).fp ((⟨textV r 24, intV (blobS r 24), [], (List.replicate 32 0)⟩ : Token))) (g := (kV kToken kTokenF 2 (.slice none 0 0)).fp ((⟨textV r 24, intV (blobS r 24), [], (List.replicate 32 0)⟩ : Token))) rfl rfl rfl rfl (Ent.refl _) (Ent.refl _) ld26.2 (Turn.all _ _ rfl) ?_
  refine JO.nil ?_
  refine E.next ?_
  refine J.seq ?_
  refine J.seq ?_
  refine J.row0 kGrant 29 ?_
  refine J.regL (is := [0, 1, 2]) rfl ?_
  refine JO.plain (R := Rep.is (pb b_r 0)) rfl rfl rfl (Nat.le_of_ble_eq_true rfl) (op_move rfl (Ent.refl _)) ?_
  refine JO.ofM (l' := [rowI (.slice none 0 0) kGrant 29 ([]), blkI b2 ((kV kToken kTokenF 2 (.slice none 0 0)).fp ((⟨textV r 24, intV (blobS r 24), [], (List.replicate 32 0)⟩ : Token))), blkI b1 (kToken.fp (zTokenV)), blkI b_r (kRd.fp (cntS (intS (blobS r 24)) 6))]) rfl rfl rfl (Nat.le_of_ble_eq_true rfl) (OpM.call (l1 := [rowI (.slice none 0 0) kGrant 29 ([]), blkI b2 ((kV kToken kTokenF 2 (.slice none 0 0)).fp ((⟨textV r 24, intV (blobS r 24), [], (List.replicate 32 0)⟩ : Token))), blkI b1 (kToken.fp (zTokenV))]) (l2 := []) (I := blkI b_r (kRd.fp (intS (blobS r 24)))) (I' := blkI b_r (kRd.fp (cntS (intS (blobS r 24)) 6))) rfl en93 (cnt_ct b_r (intS (blobS r 24)) 6) ⟨(Ent.refl _), (Ent.refl _), trivial⟩) ?_
  refine JO.plain (R := Rep.is (.int .i64 (0))) rfl rfl rfl (Nat.le_of_ble_eq_true rfl) (op_move rfl (Ent.refl _)) ?_
  refine JO.nil ?_
  refine E.next ?_
  refine J.block ?_
  refine J.loop (ι := Nat × Value) (fun i_ => (upd (upd (upd (upd (upd top 0 (Rep.is (pb b_r 0))) 2 (Rep.is (pb b1 0))) 3 (Rep.is (pb b2 0))) 11 (Rep.is (.int .i64 (cntV (intS (blobS r 24)) 6)))) 12 (Rep.is (.int .i64 ((i_.1 : Int)))))) (fun i_ => [rowI i_.2 kGrant 29 (many grV grS i_.1 (cntS (intS (blobS r 24)) 6)), blkI b2 ((kV kToken kTokenF 2 i_.2).fp ((⟨textV r 24, intV (blobS r 24), many grV grS i_.1 (cntS (intS (blobS r 24)) 6), List.replicate 32 0⟩ : Token))), blkI b1 (kToken.fp (zTokenV)), blkI b_r (kRd.fp (itS grS i_.1 (cntS (intS (blobS r 24)) 6)))]) (fun i_ => (i_.1 : Int) ≤ cntV (intS (blobS r 24)) 6) (fun i_ => (cntV (intS (blobS r 24)) 6).toNat - i_.1) (0, (.slice none 0 0)) (by first | rfl | (simp; done)) (by exact cntV_nn _ _ (by decide)) (by exact (Sub.upd (Sub.upd (Sub.upd (Sub.upd (Sub.upd (Sub.top _) 0 (Ent.refl _)) 2 (Ent.refl _)) 3 (Ent.refl _)) 11 (Ent.refl _)) 12 (ent_i (by first | rfl | (simp; done) | omega | (simp only [vs0, vs1, decide_eq_true_eq, decide_eq_false_iff_not, Bool.not_eq_true, Bool.not_eq_false, Decidable.not_not, strOf_size, strOf_chars, ascSet_length, ba_size, tokB_length, rowsB_length, List.flatMap_cons, List.flatMap_nil, many_length] at *; omega) | (simp [vs0, vs1, decide_eq_true_eq, decide_eq_false_iff_not, Bool.not_eq_true, Bool.not_eq_false, Decidable.not_not, strOf_size, strOf_chars, ascSet_length, ba_size, tokB_length, rowsB_length, List.flatMap_cons, List.flatMap_nil, many_length, *]; done))))) ?_
  rintro ⟨k, v⟩ hl0
  skip
  have hcl := cntV_le (intS (blobS r 24)) 6 (by decide)
  refine J.seq ?_
  refine J.reg_ hmix ([plain (Rep.is (.bool (decide ((k : Int) < (cntV (intS (blobS r 24)) 6)))))]) (by kernel_rfl) rfl ⟨OpG.none_ rfl (op_lss rfl (Ent.refl _) (Ent.refl _)), trivial⟩ rfl ?_
  refine E.next ?_
  refine J.seq ?_
  refine J.cond (B := decide ((k : Int) < (cntV (intS (blobS r 24)) 6))) (Ent.refl _) (fun hc0 => ?_) (fun hc0 => ?_)
  ·
    try simp only [vb0, decide_eq_true_eq, decide_eq_false_iff_not, Bool.not_eq_true, Bool.not_eq_false, Decidable.not_not] at hc0
    refine J.skip ?_
    refine E.next ?_
    refine J.seq ?_
    refine J.block ?_
    refine J.seq ?_
    refine J.regL (is := [0, 1, 2, 3, 4, 5, 6, 7, 8, 9]) rfl ?_
    refine JO.plain (R := Rep.is (pb b_r 0)) rfl rfl rfl (Nat.le_of_ble_eq_true rfl) (op_move rfl (Ent.refl _)) ?_
    refine JO.ofM (l' := [rowI v kGrant 29 (many grV grS k (cntS (intS (blobS r 24)) 6)), blkI b2 ((kV kToken kTokenF 2 v).fp ((⟨textV r 24, intV (blobS r 24), many grV grS k (cntS (intS (blobS r 24)) 6), List.replicate 32 0⟩ : Token))), blkI b1 (kToken.fp (zTokenV)), blkI b_r (kRd.fp (intS (itS grS k (cntS (intS (blobS r 24)) 6))))]) rfl rfl rfl (Nat.le_of_ble_eq_true rfl) (OpM.call (l1 := [rowI v kGrant 29 (many grV grS k (cntS (intS (blobS r 24)) 6)), blkI b2 ((kV kToken kTokenF 2 v).fp ((⟨textV r 24, intV (blobS r 24), many grV grS k (cntS (intS (blobS r 24)) 6), List.replicate 32 0⟩ : Token))), blkI b1 (kToken.fp (zTokenV))]) (l2 := []) (I := blkI b_r (kRd.fp (itS grS k (cntS (intS (blobS r 24)) 6)))) (I' := blkI b_r (kRd.fp (intS (itS grS k (cntS (intS (blobS r 24)) 6))))) rfl en87 (rint_ct b_r (itS grS k (cntS (intS (blobS r 24)) 6))) ⟨(Ent.refl _), trivial⟩) ?_
    refine JO.plain (R := Rep.is (pb b_r 0)) rfl rfl rfl (Nat.le_of_ble_eq_true rfl) (op_move rfl (Ent.refl _)) ?_
    refine JO.ofM (l' := [rowI v kGrant 29 (many grV grS k (cntS (intS (blobS r 24)) 6)), blkI b2 ((kV kToken kTokenF 2 v).fp ((⟨textV r 24, intV (blobS r 24), many grV grS k (cntS (intS (blobS r 24)) 6), List.replicate 32 0⟩ : Token))), blkI b1 (kToken.fp (zTokenV)), blkI b_r (kRd.fp (blobS (intS (itS grS k (cntS (intS (blobS r 24)) 6))) 24))]) rfl rfl rfl (Nat.le_of_ble_eq_true rfl) (OpM.call (l1 := [rowI v kGrant 29 (many grV grS k (cntS (intS (blobS r 24)) 6)), blkI b2 ((kV kToken kTokenF 2 v).fp ((⟨textV r 24, intV (blobS r 24), many grV grS k (cntS (intS (blobS r 24)) 6), List.replicate 32 0⟩ : Token))), blkI b1 (kToken.fp (zTokenV))]) (l2 := []) (I := blkI b_r (kRd.fp (intS (itS grS k (cntS (intS (blobS r 24)) 6))))) (I' := blkI b_r (kRd.fp (blobS (intS (itS grS k (cntS (intS (blobS r 24)) 6))) 24))) rfl en136 (rtext_ct b_r (intS (itS grS k (cntS (intS (blobS r 24)) 6))) 24) ⟨(Ent.refl _), (Ent.refl _), trivial⟩) ?_
    refine JO.plain (R := Rep.is (pb b_r 0)) rfl rfl rfl (Nat.le_of_ble_eq_true rfl) (op_move rfl (Ent.refl _)) ?_
    refine JO.ofM (l' := [rowI v kGrant 29 (many grV grS k (cntS (intS (blobS r 24)) 6)), blkI b2 ((kV kToken kTokenF 2 v).fp ((⟨textV r 24, intV (blobS r 24), many grV grS k (cntS (intS (blobS r 24)) 6), List.replicate 32 0⟩ : Token))), blkI b1 (kToken.fp (zTokenV)), blkI b_r (kRd.fp (cntS (blobS (intS (itS grS k (cntS (intS (blobS r 24)) 6))) 24) 1))]) rfl rfl rfl (Nat.le_of_ble_eq_true rfl) (OpM.call (l1 := [rowI v kGrant 29 (many grV grS k (cntS (intS (blobS r 24)) 6)), blkI b2 ((kV kToken kTokenF 2 v).fp ((⟨textV r 24, intV (blobS r 24), many grV grS k (cntS (intS (blobS r 24)) 6), List.replicate 32 0⟩ : Token))), blkI b1 (kToken.fp (zTokenV))]) (l2 := []) (I := blkI b_r (kRd.fp (blobS (intS (itS grS k (cntS (intS (blobS r 24)) 6))) 24))) (I' := blkI b_r (kRd.fp (cntS (blobS (intS (itS grS k (cntS (intS (blobS r 24)) 6))) 24) 1))) rfl en93 (cnt_ct b_r (blobS (intS (itS grS k (cntS (intS (blobS r 24)) 6))) 24) 1) ⟨(Ent.refl _), (Ent.refl _), trivial⟩) ?_
    refine JO.plain (R := Rep.is (.bool (decide ((cntV (blobS (intS (itS grS k (cntS (intS (blobS r 24)) 6))) 24) 1) = 1)))) rfl rfl rfl (Nat.le_of_ble_eq_true rfl) (op_eql rfl (Ent.refl _) (Ent.refl _)) ?_
    refine JO.plain (R := kGrant.rep ((⟨intV (itS grS k (cntS (intS (blobS r 24)) 6)), textV (intS (itS grS k (cntS (intS (blobS r 24)) 6))) 24, decide ((cntV (blobS (intS (itS grS k (cntS (intS (blobS r 24)) 6))) 24) 1) = 1), 0⟩ : Grant))) rfl rfl rfl (Nat.le_of_ble_eq_true rfl) (op_build (f := kGrant.fp (⟨intV (itS grS k (cntS (intS (blobS r 24)) 6)), textV (intS (itS grS k (cntS (intS (blobS r 24)) 6))) 24, decide ((cntV (blobS (intS (itS grS k (cntS (intS (blobS r 24)) 6))) 24) 1) = 1), 0⟩ : Grant)) rfl bs29 zGrant ⟨_, (kI .i64).fp (intV (itS grS k (cntS (intS (blobS r 24)) 6))), rfl, rfl, ((Ent.refl _).trans (int_rep _ _)), rfl, _, kS.fp (textV (intS (itS grS k (cntS (intS (blobS r 24)) 6))) 24), rfl, rfl, ((Ent.refl _).trans (str_rep _)), rfl, _, kB.fp (decide ((cntV (blobS (intS (itS grS k (cntS (intS (blobS r 24)) 6))) 24) 1) = 1)), rfl, rfl, ((Ent.refl _).trans (bool_rep _)), rfl, rfl⟩ (fun _ _ e => e) rfl) ?_
    refine JO.newB rfl rfl rfl (Nat.le_of_ble_eq_true rfl) (op_alloc (f := kGrant.fp (zGrantV)) rfl zt29 (fun h => zGrant h)) (fun b3 => ?_)
    refine JO.store (f := kGrant.fp (zGrantV)) (f' := kGrant.fp ((⟨intV (itS grS k (cntS (intS (blobS r 24)) 6)), textV (intS (itS grS k (cntS (intS (blobS r 24)) 6))) 24, decide ((cntV (blobS (intS (itS grS k (cntS (intS (blobS r 24)) 6))) 24) 1) = 1), 0⟩ : Grant))) (g := kGrant.fp ((⟨intV (itS grS k (cntS (intS (blobS r 24)) 6)), textV (intS (itS grS k (cntS (intS (blobS r 24)) 6))) 24, decide ((cntV (blobS (intS (itS grS k (cntS (intS (blobS r 24)) 6))) 24) 1) = 1), 0⟩ : Grant))) rfl rfl rfl rfl (Ent.refl _) (Ent.refl _) ld29.2 (Turn.all _ _ rfl) ?_
    refine JO.nil ?_
    refine E.next ?_
    refine J.seq ?_
    refine J.regL (is := [0, 1, 2, 3]) rfl ?_
    refine JO.plain (R := Rep.is (pb b_r 0)) rfl rfl rfl (Nat.le_of_ble_eq_true rfl) (op_move rfl (Ent.refl _)) ?_
    refine JO.ofM (l' := [blkI b3 (kGrant.fp ((⟨intV (itS grS k (cntS (intS (blobS r 24)) 6)), textV (intS (itS grS k (cntS (intS (blobS r 24)) 6))) 24, decide ((cntV (blobS (intS (itS grS k (cntS (intS (blobS r 24)) 6))) 24) 1) = 1), 0⟩ : Grant))), rowI v kGrant 29 (many grV grS k (cntS (intS (blobS r 24)) 6)), blkI b2 ((kV kToken kTokenF 2 v).fp ((⟨textV r 24, intV (blobS r 24), many grV grS k (cntS (intS (blobS r 24)) 6), List.replicate 32 0⟩ : Token))), blkI b1 (kToken.fp (zTokenV)), blkI b_r (kRd.fp (intS (cntS (blobS (intS (itS grS k (cntS (intS (blobS r 24)) 6))) 24) 1)))]) rfl rfl rfl (Nat.le_of_ble_eq_true rfl) (OpM.call (l1 := [blkI b3 (kGrant.fp ((⟨intV (itS grS k (cntS (intS (blobS r 24)) 6)), textV (intS (itS grS k (cntS (intS (blobS r 24)) 6))) 24, decide ((cntV (blobS (intS (itS grS k (cntS (intS (blobS r 24)) 6))) 24) 1) = 1), 0⟩ : Grant))), rowI v kGrant 29 (many grV grS k (cntS (intS (blobS r 24)) 6)), blkI b2 ((kV kToken kTokenF 2 v).fp ((⟨textV r 24, intV (blobS r 24), many grV grS k (cntS (intS (blobS r 24)) 6), List.replicate 32 0⟩ : Token))), blkI b1 (kToken.fp (zTokenV))]) (l2 := []) (I := blkI b_r (kRd.fp (cntS (blobS (intS (itS grS k (cntS (intS (blobS r 24)) 6))) 24) 1))) (I' := blkI b_r (kRd.fp (intS (cntS (blobS (intS (itS grS k (cntS (intS (blobS r 24)) 6))) 24) 1)))) rfl en87 (rint_ct b_r (cntS (blobS (intS (itS grS k (cntS (intS (blobS r 24)) 6))) 24) 1)) ⟨(Ent.refl _), trivial⟩) ?_
    refine JO.plain (R := Rep.is (pb b3 3)) rfl rfl rfl (Nat.le_of_ble_eq_true rfl) (g_fieldP rfl fa29_3 (Ent.refl _)) ?_
    refine JO.store (f := kGrant.fp ((⟨intV (itS grS k (cntS (intS (blobS r 24)) 6)), textV (intS (itS grS k (cntS (intS (blobS r 24)) 6))) 24, decide ((cntV (blobS (intS (itS grS k (cntS (intS (blobS r 24)) 6))) 24) 1) = 1), 0⟩ : Grant))) (f' := kGrant.fp ((⟨intV (itS grS k (cntS (intS (blobS r 24)) 6)), textV (intS (itS grS k (cntS (intS (blobS r 24)) 6))) 24, decide ((cntV (blobS (intS (itS grS k (cntS (intS (blobS r 24)) 6))) 24) 1) = 1), intV (cntS (blobS (intS (itS grS k (cntS (intS (blobS r 24)) 6))) 24) 1)⟩ : Grant))) (g := (kI .i64).fp (intV (cntS (blobS (intS (itS grS k (cntS (intS (blobS r 24)) 6))) 24) 1))) rfl rfl rfl rfl (Ent.refl _) ((Ent.refl _).trans (int_rep _ _)) ld3.2 (Turn.field (f := kGrant.fp ((⟨intV (itS grS k (cntS (intS (blobS r 24)) 6)), textV (intS (itS grS k (cntS (intS (blobS r 24)) 6))) 24, decide ((cntV (blobS (intS (itS grS k (cntS (intS (blobS r 24)) 6))) 24) 1) = 1), 0⟩ : Grant))) (f' := kGrant.fp ((⟨intV (itS grS k (cntS (intS (blobS r 24)) 6)), textV (intS (itS grS k (cntS (intS (blobS r 24)) 6))) 24, decide ((cntV (blobS (intS (itS grS k (cntS (intS (blobS r 24)) 6))) 24) 1) = 1), intV (cntS (blobS (intS (itS grS k (cntS (intS (blobS r 24)) 6))) 24) 1)⟩ : Grant))) (g := (kI .i64).fp (0)) (g' := (kI .i64).fp (intV (cntS (blobS (intS (itS grS k (cntS (intS (blobS r 24)) 6))) 24) 1))) (l := kGrantF ((⟨intV (itS grS k (cntS (intS (blobS r 24)) 6)), textV (intS (itS grS k (cntS (intS (blobS r 24)) 6))) 24, decide ((cntV (blobS (intS (itS grS k (cntS (intS (blobS r 24)) 6))) 24) 1) = 1), 0⟩ : Grant))) (l' := kGrantF ((⟨intV (itS grS k (cntS (intS (blobS r 24)) 6)), textV (intS (itS grS k (cntS (intS (blobS r 24)) 6))) 24, decide ((cntV (blobS (intS (itS grS k (cntS (intS (blobS r 24)) 6))) 24) 1) = 1), intV (cntS (blobS (intS (itS grS k (cntS (intS (blobS r 24)) 6))) 24) 1)⟩ : Grant))) (i := 3) (fun _ _ e => e) rfl rfl rfl (fun _ _ e => e)) ?_
    refine JO.nil ?_
    refine E.next ?_
    refine J.regL (is := [0, 1, 2, 3, 4, 5, 6]) rfl ?_
    refine JO.plain (R := Rep.is (pb b2 2)) rfl rfl rfl (Nat.le_of_ble_eq_true rfl) (g_fieldP rfl fa26_2 (Ent.refl _)) ?_
    refine JO.plain (R := Rep.is (v)) rfl rfl rfl (Nat.le_of_ble_eq_true rfl) (OpC.weak (g_loadP (f := (kV kToken kTokenF 2 v).fp ((⟨textV r 24, intV (blobS r 24), many grV grS k (cntS (intS (blobS r 24)) 6), List.replicate 32 0⟩ : Token))) (g := isF v) rfl ld22 (by repeat (first | exact List.mem_cons_self | apply List.mem_cons_of_mem)) (Part.field (f := (kV kToken kTokenF 2 v).fp ((⟨textV r 24, intV (blobS r 24), many grV grS k (cntS (intS (blobS r 24)) 6), List.replicate 32 0⟩ : Token))) (g := isF v) (l := (kTokenF ((⟨textV r 24, intV (blobS r 24), many grV grS k (cntS (intS (blobS r 24)) 6), List.replicate 32 0⟩ : Token))).set 2 (isF v)) (i := 2) (fun _ _ e => e.2) rfl) (Ent.refl _)) (isF_is _)) ?_
    refine JO.plain (R := kGrant.rep ((⟨intV (itS grS k (cntS (intS (blobS r 24)) 6)), textV (intS (itS grS k (cntS (intS (blobS r 24)) 6))) 24, decide ((cntV (blobS (intS (itS grS k (cntS (intS (blobS r 24)) 6))) 24) 1) = 1), intV (cntS (blobS (intS (itS grS k (cntS (intS (blobS r 24)) 6))) 24) 1)⟩ : Grant))) rfl rfl rfl (Nat.le_of_ble_eq_true rfl) (g_loadP (f := kGrant.fp ((⟨intV (itS grS k (cntS (intS (blobS r 24)) 6)), textV (intS (itS grS k (cntS (intS (blobS r 24)) 6))) 24, decide ((cntV (blobS (intS (itS grS k (cntS (intS (blobS r 24)) 6))) 24) 1) = 1), intV (cntS (blobS (intS (itS grS k (cntS (intS (blobS r 24)) 6))) 24) 1)⟩ : Grant))) (g := kGrant.fp ((⟨intV (itS grS k (cntS (intS (blobS r 24)) 6)), textV (intS (itS grS k (cntS (intS (blobS r 24)) 6))) 24, decide ((cntV (blobS (intS (itS grS k (cntS (intS (blobS r 24)) 6))) 24) 1) = 1), intV (cntS (blobS (intS (itS grS k (cntS (intS (blobS r 24)) 6))) 24) 1)⟩ : Grant))) rfl ld29 (by repeat (first | exact List.mem_cons_self | apply List.mem_cons_of_mem)) (Part.all _) (Ent.refl _)) ?_
    refine JO.plain (R := (kSl kGrant).rep ([(⟨intV (itS grS k (cntS (intS (blobS r 24)) 6)), textV (intS (itS grS k (cntS (intS (blobS r 24)) 6))) 24, decide ((cntV (blobS (intS (itS grS k (cntS (intS (blobS r 24)) 6))) 24) 1) = 1), intV (cntS (blobS (intS (itS grS k (cntS (intS (blobS r 24)) 6))) 24) 1)⟩ : Grant)])) rfl rfl rfl (Nat.le_of_ble_eq_true rfl) (op_slit (k := kGrant) (xs := [(⟨intV (itS grS k (cntS (intS (blobS r 24)) 6)), textV (intS (itS grS k (cntS (intS (blobS r 24)) 6))) 24, decide ((cntV (blobS (intS (itS grS k (cntS (intS (blobS r 24)) 6))) 24) 1) = 1), intV (cntS (blobS (intS (itS grS k (cntS (intS (blobS r 24)) 6))) 24) 1)⟩ : Grant)]) rfl sl22.1 sl22.2 zt29 rfl rfl (by decide) (by decide) rfl ⟨_, kGrant.fp ((⟨intV (itS grS k (cntS (intS (blobS r 24)) 6)), textV (intS (itS grS k (cntS (intS (blobS r 24)) 6))) 24, decide ((cntV (blobS (intS (itS grS k (cntS (intS (blobS r 24)) 6))) 24) 1) = 1), intV (cntS (blobS (intS (itS grS k (cntS (intS (blobS r 24)) 6))) 24) 1)⟩ : Grant)), rfl, rfl, (Ent.refl _), rfl, rfl⟩) ?_
    refine JO.front (l1 := [blkI b3 (kGrant.fp ((⟨intV (itS grS k (cntS (intS (blobS r 24)) 6)), textV (intS (itS grS k (cntS (intS (blobS r 24)) 6))) 24, decide ((cntV (blobS (intS (itS grS k (cntS (intS (blobS r 24)) 6))) 24) 1) = 1), intV (cntS (blobS (intS (itS grS k (cntS (intS (blobS r 24)) 6))) 24) 1)⟩ : Grant)))]) (l2 := [blkI b2 ((kV kToken kTokenF 2 v).fp ((⟨textV r 24, intV (blobS r 24), many grV grS k (cntS (intS (blobS r 24)) 6), List.replicate 32 0⟩ : Token))), blkI b1 (kToken.fp (zTokenV)), blkI b_r (kRd.fp (intS (cntS (blobS (intS (itS grS k (cntS (intS (blobS r 24)) 6))) 24) 1)))]) ?_
    refine JO.append (k := kGrant) (xs := many grV grS k (cntS (intS (blobS r 24)) 6)) (ys := [(⟨intV (itS grS k (cntS (intS (blobS r 24)) 6)), textV (intS (itS grS k (cntS (intS (blobS r 24)) 6))) 24, decide ((cntV (blobS (intS (itS grS k (cntS (intS (blobS r 24)) 6))) 24) 1) = 1), intV (cntS (blobS (intS (itS grS k (cntS (intS (blobS r 24)) 6))) 24) 1)⟩ : Grant)]) rfl rfl rfl (Nat.le_of_ble_eq_true rfl) rfl (Ent.refl _) (Ent.refl _) ap22.1 ap22.2 rfl (by decide) (by first | omega | (simp only [vs0, vs1, decide_eq_true_eq, decide_eq_false_iff_not, Bool.not_eq_true, Bool.not_eq_false, Decidable.not_not, strOf_size, strOf_chars, ascSet_length, ba_size, tokB_length, rowsB_length, List.flatMap_cons, List.flatMap_nil, many_length] at *; omega) | (simp [vs0, vs1, decide_eq_true_eq, decide_eq_false_iff_not, Bool.not_eq_true, Bool.not_eq_false, Decidable.not_not, strOf_size, strOf_chars, ascSet_length, ba_size, tokB_length, rowsB_length, List.flatMap_cons, List.flatMap_nil, many_length] at *; omega)) (by first | omega | (simp only [vs0, vs1, decide_eq_true_eq, decide_eq_false_iff_not, Bool.not_eq_true, Bool.not_eq_false, Decidable.not_not, strOf_size, strOf_chars, ascSet_length, ba_size, tokB_length, rowsB_length, List.flatMap_cons, List.flatMap_nil, many_length] at *; omega) | (simp [vs0, vs1, decide_eq_true_eq, decide_eq_false_iff_not, Bool.not_eq_true, Bool.not_eq_false, Decidable.not_not, strOf_size, strOf_chars, ascSet_length, ba_size, tokB_length, rowsB_length, List.flatMap_cons, List.flatMap_nil, many_length] at *; omega)) (fun v4 => ?_)
    refine JO.plain (R := Rep.is (pb b2 2)) rfl rfl rfl (Nat.le_of_ble_eq_true rfl) (g_fieldP rfl fa26_2 (Ent.refl _)) ?_
    refine JO.front (l1 := [rowI v4 kGrant 29 ((many grV grS k (cntS (intS (blobS r 24)) 6)) ++ ([(⟨intV (itS grS k (cntS (intS (blobS r 24)) 6)), textV (intS (itS grS k (cntS (intS (blobS r 24)) 6))) 24, decide ((cntV (blobS (intS (itS grS k (cntS (intS (blobS r 24)) 6))) 24) 1) = 1), intV (cntS (blobS (intS (itS grS k (cntS (intS (blobS r 24)) 6))) 24) 1)⟩ : Grant)])), blkI b3 (kGrant.fp ((⟨intV (itS grS k (cntS (intS (blobS r 24)) 6)), textV (intS (itS grS k (cntS (intS (blobS r 24)) 6))) 24, decide ((cntV (blobS (intS (itS grS k (cntS (intS (blobS r 24)) 6))) 24) 1) = 1), intV (cntS (blobS (intS (itS grS k (cntS (intS (blobS r 24)) 6))) 24) 1)⟩ : Grant)))]) (l2 := [blkI b1 (kToken.fp (zTokenV)), blkI b_r (kRd.fp (intS (cntS (blobS (intS (itS grS k (cntS (intS (blobS r 24)) 6))) 24) 1)))]) ?_
    refine JO.store (f := (kV kToken kTokenF 2 v).fp ((⟨textV r 24, intV (blobS r 24), many grV grS k (cntS (intS (blobS r 24)) 6), List.replicate 32 0⟩ : Token))) (f' := (kV kToken kTokenF 2 v4).fp ((⟨textV r 24, intV (blobS r 24), (many grV grS k (cntS (intS (blobS r 24)) 6)) ++ ([(⟨intV (itS grS k (cntS (intS (blobS r 24)) 6)), textV (intS (itS grS k (cntS (intS (blobS r 24)) 6))) 24, decide ((cntV (blobS (intS (itS grS k (cntS (intS (blobS r 24)) 6))) 24) 1) = 1), intV (cntS (blobS (intS (itS grS k (cntS (intS (blobS r 24)) 6))) 24) 1)⟩ : Grant)]), List.replicate 32 0⟩ : Token))) (g := isF v4) rfl rfl rfl rfl (Ent.refl _) ((Ent.refl _).trans (rv_isF _ _ _)) ld22.2 (Turn.field (f := (kV kToken kTokenF 2 v).fp ((⟨textV r 24, intV (blobS r 24), many grV grS k (cntS (intS (blobS r 24)) 6), List.replicate 32 0⟩ : Token))) (f' := (kV kToken kTokenF 2 v4).fp ((⟨textV r 24, intV (blobS r 24), (many grV grS k (cntS (intS (blobS r 24)) 6)) ++ ([(⟨intV (itS grS k (cntS (intS (blobS r 24)) 6)), textV (intS (itS grS k (cntS (intS (blobS r 24)) 6))) 24, decide ((cntV (blobS (intS (itS grS k (cntS (intS (blobS r 24)) 6))) 24) 1) = 1), intV (cntS (blobS (intS (itS grS k (cntS (intS (blobS r 24)) 6))) 24) 1)⟩ : Grant)]), List.replicate 32 0⟩ : Token))) (g := isF v) (g' := isF v4) (l := (kTokenF ((⟨textV r 24, intV (blobS r 24), many grV grS k (cntS (intS (blobS r 24)) 6), List.replicate 32 0⟩ : Token))).set 2 (isF v)) (l' := (kTokenF ((⟨textV r 24, intV (blobS r 24), (many grV grS k (cntS (intS (blobS r 24)) 6)) ++ ([(⟨intV (itS grS k (cntS (intS (blobS r 24)) 6)), textV (intS (itS grS k (cntS (intS (blobS r 24)) 6))) 24, decide ((cntV (blobS (intS (itS grS k (cntS (intS (blobS r 24)) 6))) 24) 1) = 1), intV (cntS (blobS (intS (itS grS k (cntS (intS (blobS r 24)) 6))) 24) 1)⟩ : Grant)]), List.replicate 32 0⟩ : Token))).set 2 (isF v4)) (i := 2) (fun _ _ e => e.2) rfl rfl rfl (fun _ _ e => ⟨e.length.trans rfl, e⟩)) ?_
    refine JO.nil ?_
    refine E.blockEnd ?_
    refine E.next ?_
    refine J.reg_ hmix ([plain (Rep.is (.int .i64 ((k : Int) + 1))), plain (Rep.is (.int .i64 ((k : Int) + 1)))]) (by kernel_rfl) rfl ⟨OpG.none_ rfl (g_add rfl (Ent.refl _) (Ent.refl _) (by first | omega | (simp only [vs0, vs1, decide_eq_true_eq, decide_eq_false_iff_not, Bool.not_eq_true, Bool.not_eq_false, Decidable.not_not, strOf_size, strOf_chars, ascSet_length, ba_size, tokB_length, rowsB_length, List.flatMap_cons, List.flatMap_nil, many_length] at *; omega) | (simp [vs0, vs1, decide_eq_true_eq, decide_eq_false_iff_not, Bool.not_eq_true, Bool.not_eq_false, Decidable.not_not, strOf_size, strOf_chars, ascSet_length, ba_size, tokB_length, rowsB_length, List.flatMap_cons, List.flatMap_nil, many_length] at *; omega))), OpG.none_ rfl (op_move rfl (Ent.refl _)), trivial⟩ rfl ?_
    refine E.front (l1 := [blkI b2 ((kV kToken kTokenF 2 v4).fp ((⟨textV r 24, intV (blobS r 24), (many grV grS k (cntS (intS (blobS r 24)) 6)) ++ ([(⟨intV (itS grS k (cntS (intS (blobS r 24)) 6)), textV (intS (itS grS k (cntS (intS (blobS r 24)) 6))) 24, decide ((cntV (blobS (intS (itS grS k (cntS (intS (blobS r 24)) 6))) 24) 1) = 1), intV (cntS (blobS (intS (itS grS k (cntS (intS (blobS r 24)) 6))) 24) 1)⟩ : Grant)]), List.replicate 32 0⟩ : Token))), rowI v4 kGrant 29 ((many grV grS k (cntS (intS (blobS r 24)) 6)) ++ ([(⟨intV (itS grS k (cntS (intS (blobS r 24)) 6)), textV (intS (itS grS k (cntS (intS (blobS r 24)) 6))) 24, decide ((cntV (blobS (intS (itS grS k (cntS (intS (blobS r 24)) 6))) 24) 1) = 1), intV (cntS (blobS (intS (itS grS k (cntS (intS (blobS r 24)) 6))) 24) 1)⟩ : Grant)])), blkI b3 (kGrant.fp ((⟨intV (itS grS k (cntS (intS (blobS r 24)) 6)), textV (intS (itS grS k (cntS (intS (blobS r 24)) 6))) 24, decide ((cntV (blobS (intS (itS grS k (cntS (intS (blobS r 24)) 6))) 24) 1) = 1), intV (cntS (blobS (intS (itS grS k (cntS (intS (blobS r 24)) 6))) 24) 1)⟩ : Grant))), blkI b1 (kToken.fp (zTokenV))]) (l2 := []) ?_
    refine E.front (l1 := [blkI b_r (kRd.fp (intS (cntS (blobS (intS (itS grS k (cntS (intS (blobS r 24)) 6))) 24) 1))), blkI b2 ((kV kToken kTokenF 2 v4).fp ((⟨textV r 24, intV (blobS r 24), (many grV grS k (cntS (intS (blobS r 24)) 6)) ++ ([(⟨intV (itS grS k (cntS (intS (blobS r 24)) 6)), textV (intS (itS grS k (cntS (intS (blobS r 24)) 6))) 24, decide ((cntV (blobS (intS (itS grS k (cntS (intS (blobS r 24)) 6))) 24) 1) = 1), intV (cntS (blobS (intS (itS grS k (cntS (intS (blobS r 24)) 6))) 24) 1)⟩ : Grant)]), List.replicate 32 0⟩ : Token))), rowI v4 kGrant 29 ((many grV grS k (cntS (intS (blobS r 24)) 6)) ++ ([(⟨intV (itS grS k (cntS (intS (blobS r 24)) 6)), textV (intS (itS grS k (cntS (intS (blobS r 24)) 6))) 24, decide ((cntV (blobS (intS (itS grS k (cntS (intS (blobS r 24)) 6))) 24) 1) = 1), intV (cntS (blobS (intS (itS grS k (cntS (intS (blobS r 24)) 6))) 24) 1)⟩ : Grant)])), blkI b3 (kGrant.fp ((⟨intV (itS grS k (cntS (intS (blobS r 24)) 6)), textV (intS (itS grS k (cntS (intS (blobS r 24)) 6))) 24, decide ((cntV (blobS (intS (itS grS k (cntS (intS (blobS r 24)) 6))) 24) 1) = 1), intV (cntS (blobS (intS (itS grS k (cntS (intS (blobS r 24)) 6))) 24) 1)⟩ : Grant)))]) (l2 := []) ?_
    refine E.front (l1 := [blkI b1 (kToken.fp (zTokenV)), blkI b_r (kRd.fp (intS (cntS (blobS (intS (itS grS k (cntS (intS (blobS r 24)) 6))) 24) 1)))]) (l2 := [rowI v4 kGrant 29 ((many grV grS k (cntS (intS (blobS r 24)) 6)) ++ ([(⟨intV (itS grS k (cntS (intS (blobS r 24)) 6)), textV (intS (itS grS k (cntS (intS (blobS r 24)) 6))) 24, decide ((cntV (blobS (intS (itS grS k (cntS (intS (blobS r 24)) 6))) 24) 1) = 1), intV (cntS (blobS (intS (itS grS k (cntS (intS (blobS r 24)) 6))) 24) 1)⟩ : Grant)])), blkI b3 (kGrant.fp ((⟨intV (itS grS k (cntS (intS (blobS r 24)) 6)), textV (intS (itS grS k (cntS (intS (blobS r 24)) 6))) 24, decide ((cntV (blobS (intS (itS grS k (cntS (intS (blobS r 24)) 6))) 24) 1) = 1), intV (cntS (blobS (intS (itS grS k (cntS (intS (blobS r 24)) 6))) 24) 1)⟩ : Grant)))]) ?_
    refine E.front (l1 := [blkI b2 ((kV kToken kTokenF 2 v4).fp ((⟨textV r 24, intV (blobS r 24), (many grV grS k (cntS (intS (blobS r 24)) 6)) ++ ([(⟨intV (itS grS k (cntS (intS (blobS r 24)) 6)), textV (intS (itS grS k (cntS (intS (blobS r 24)) 6))) 24, decide ((cntV (blobS (intS (itS grS k (cntS (intS (blobS r 24)) 6))) 24) 1) = 1), intV (cntS (blobS (intS (itS grS k (cntS (intS (blobS r 24)) 6))) 24) 1)⟩ : Grant)]), List.replicate 32 0⟩ : Token))), blkI b1 (kToken.fp (zTokenV)), blkI b_r (kRd.fp (intS (cntS (blobS (intS (itS grS k (cntS (intS (blobS r 24)) 6))) 24) 1)))]) (l2 := [blkI b3 (kGrant.fp ((⟨intV (itS grS k (cntS (intS (blobS r 24)) 6)), textV (intS (itS grS k (cntS (intS (blobS r 24)) 6))) 24, decide ((cntV (blobS (intS (itS grS k (cntS (intS (blobS r 24)) 6))) 24) 1) = 1), intV (cntS (blobS (intS (itS grS k (cntS (intS (blobS r 24)) 6))) 24) 1)⟩ : Grant)))]) ?_
    refine E.drop (l' := [rowI v4 kGrant 29 ((many grV grS k (cntS (intS (blobS r 24)) 6)) ++ ([(⟨intV (itS grS k (cntS (intS (blobS r 24)) 6)), textV (intS (itS grS k (cntS (intS (blobS r 24)) 6))) 24, decide ((cntV (blobS (intS (itS grS k (cntS (intS (blobS r 24)) 6))) 24) 1) = 1), intV (cntS (blobS (intS (itS grS k (cntS (intS (blobS r 24)) 6))) 24) 1)⟩ : Grant)])), blkI b2 ((kV kToken kTokenF 2 v4).fp ((⟨textV r 24, intV (blobS r 24), (many grV grS k (cntS (intS (blobS r 24)) 6)) ++ ([(⟨intV (itS grS k (cntS (intS (blobS r 24)) 6)), textV (intS (itS grS k (cntS (intS (blobS r 24)) 6))) 24, decide ((cntV (blobS (intS (itS grS k (cntS (intS (blobS r 24)) 6))) 24) 1) = 1), intV (cntS (blobS (intS (itS grS k (cntS (intS (blobS r 24)) 6))) 24) 1)⟩ : Grant)]), List.replicate 32 0⟩ : Token))), blkI b1 (kToken.fp (zTokenV)), blkI b_r (kRd.fp (intS (cntS (blobS (intS (itS grS k (cntS (intS (blobS r 24)) 6))) 24) 1)))]) (by repeat (first | exact List.Sublist.refl _ | apply List.Sublist.cons_cons | apply List.Sublist.cons)) ?_
    have how5 : (many grV grS k (cntS (intS (blobS r 24)) 6)) ++ ([(⟨intV (itS grS k (cntS (intS (blobS r 24)) 6)), textV (intS (itS grS k (cntS (intS (blobS r 24)) 6))) 24, decide ((cntV (blobS (intS (itS grS k (cntS (intS (blobS r 24)) 6))) 24) 1) = 1), intV (cntS (blobS (intS (itS grS k (cntS (intS (blobS r 24)) 6))) 24) 1)⟩ : Grant)]) = many grV grS (k + 1) (cntS (intS (blobS r 24)) 6) := by rfl
    have how6 : (⟨textV r 24, intV (blobS r 24), (many grV grS k (cntS (intS (blobS r 24)) 6)) ++ ([(⟨intV (itS grS k (cntS (intS (blobS r 24)) 6)), textV (intS (itS grS k (cntS (intS (blobS r 24)) 6))) 24, decide ((cntV (blobS (intS (itS grS k (cntS (intS (blobS r 24)) 6))) 24) 1) = 1), intV (cntS (blobS (intS (itS grS k (cntS (intS (blobS r 24)) 6))) 24) 1)⟩ : Grant)]), List.replicate 32 0⟩ : Token) = (⟨textV r 24, intV (blobS r 24), many grV grS (k + 1) (cntS (intS (blobS r 24)) 6), List.replicate 32 0⟩ : Token) := by rfl
    have how7 : intS (cntS (blobS (intS (itS grS k (cntS (intS (blobS r 24)) 6))) 24) 1) = itS grS (k + 1) (cntS (intS (blobS r 24)) 6) := by rfl
    exact E.again (k + 1, v4) (by first | rfl | (rw [how5, how6, how7]; done) | (simp only [how5, how6, how7]; done) | (simp; done)) (by omega) (by omega) (by exact (Sub.upd (Sub.upd (Sub.upd (Sub.upd (Sub.upd (Sub.top _) 0 (Ent.refl _)) 2 (Ent.refl _)) 3 (Ent.refl _)) 11 (Ent.refl _)) 12 (ent_i (by first | rfl | (simp; done) | omega | (simp only [vs0, vs1, decide_eq_true_eq, decide_eq_false_iff_not, Bool.not_eq_true, Bool.not_eq_false, Decidable.not_not, strOf_size, strOf_chars, ascSet_length, ba_size, tokB_length, rowsB_length, List.flatMap_cons, List.flatMap_nil, many_length] at *; omega) | (simp [vs0, vs1, decide_eq_true_eq, decide_eq_false_iff_not, Bool.not_eq_true, Bool.not_eq_false, Decidable.not_not, strOf_size, strOf_chars, ascSet_length, ba_size, tokB_length, rowsB_length, List.flatMap_cons, List.flatMap_nil, many_length, *]; done)))))
  ·
    try simp only [vb0, decide_eq_true_eq, decide_eq_false_iff_not, Bool.not_eq_true, Bool.not_eq_false, Decidable.not_not] at hc0
    refine J.exit ?_
    refine E.passX ?_
    refine E.passX ?_
    refine E.hit ?_
    refine E.next ?_
    refine J.seq ?_
    have h8 : k = (cntV (intS (blobS r 24)) 6).toNat := by omega
    refine J.front (l1 := [rowI v kGrant 29 (many grV grS k (cntS (intS (blobS r 24)) 6))]) (l2 := [blkI b1 (kToken.fp (zTokenV)), blkI b_r (kRd.fp (itS grS k (cntS (intS (blobS r 24)) 6)))]) ?_
    refine J.settle (k := kToken) (fl := kTokenF) (i := 2) (fun _ _ e => e) rfl ?_
    refine J.regL (is := [0, 1, 2, 3]) rfl ?_
    refine JO.plain (R := Rep.is (pb b_r 0)) rfl rfl rfl (Nat.le_of_ble_eq_true rfl) (op_move rfl (Ent.refl _)) ?_
    refine JO.ofM (l' := [blkI b2 (kToken.fp ((⟨textV r 24, intV (blobS r 24), many grV grS k (cntS (intS (blobS r 24)) 6), List.replicate 32 0⟩ : Token))), rowI v kGrant 29 (many grV grS k (cntS (intS (blobS r 24)) 6)), blkI b1 (kToken.fp (zTokenV)), blkI b_r (kRd.fp (sumS (itS grS k (cntS (intS (blobS r 24)) 6))))]) rfl rfl rfl (Nat.le_of_ble_eq_true rfl) (OpM.call (l1 := [blkI b2 (kToken.fp ((⟨textV r 24, intV (blobS r 24), many grV grS k (cntS (intS (blobS r 24)) 6), List.replicate 32 0⟩ : Token))), rowI v kGrant 29 (many grV grS k (cntS (intS (blobS r 24)) 6)), blkI b1 (kToken.fp (zTokenV))]) (l2 := []) (I := blkI b_r (kRd.fp (itS grS k (cntS (intS (blobS r 24)) 6)))) (I' := blkI b_r (kRd.fp (sumS (itS grS k (cntS (intS (blobS r 24)) 6))))) rfl en107 (rsum_ct b_r (itS grS k (cntS (intS (blobS r 24)) 6))) ⟨(Ent.refl _), trivial⟩) ?_
    refine JO.plain (R := Rep.is (pb b2 3)) rfl rfl rfl (Nat.le_of_ble_eq_true rfl) (g_fieldP rfl fa26_3 (Ent.refl _)) ?_
    refine JO.store (f := kToken.fp ((⟨textV r 24, intV (blobS r 24), many grV grS k (cntS (intS (blobS r 24)) 6), List.replicate 32 0⟩ : Token))) (f' := kToken.fp ((⟨textV r 24, intV (blobS r 24), many grV grS k (cntS (intS (blobS r 24)) 6), sumV (itS grS k (cntS (intS (blobS r 24)) 6))⟩ : Token))) (g := (kArr 32 kU8).fp (sumV (itS grS k (cntS (intS (blobS r 24)) 6)))) rfl rfl rfl rfl (Ent.refl _) (Ent.refl _) ld24.2 (Turn.field (f := kToken.fp ((⟨textV r 24, intV (blobS r 24), many grV grS k (cntS (intS (blobS r 24)) 6), List.replicate 32 0⟩ : Token))) (f' := kToken.fp ((⟨textV r 24, intV (blobS r 24), many grV grS k (cntS (intS (blobS r 24)) 6), sumV (itS grS k (cntS (intS (blobS r 24)) 6))⟩ : Token))) (g := (kArr 32 kU8).fp ((List.replicate 32 0))) (g' := (kArr 32 kU8).fp (sumV (itS grS k (cntS (intS (blobS r 24)) 6)))) (l := kTokenF ((⟨textV r 24, intV (blobS r 24), many grV grS k (cntS (intS (blobS r 24)) 6), List.replicate 32 0⟩ : Token))) (l' := kTokenF ((⟨textV r 24, intV (blobS r 24), many grV grS k (cntS (intS (blobS r 24)) 6), sumV (itS grS k (cntS (intS (blobS r 24)) 6))⟩ : Token))) (i := 3) (fun _ _ e => e) rfl rfl rfl (fun _ _ e => e)) ?_
    refine JO.nil ?_
    refine E.next ?_
    refine J.seq ?_
    refine J.seq ?_
    refine J.regL (is := [0, 1]) rfl ?_
    refine JO.plain (R := Rep.is (pb b_r 0)) rfl rfl rfl (Nat.le_of_ble_eq_true rfl) (op_move rfl (Ent.refl _)) ?_
    refine JO.ofM (l' := [blkI b2 (kToken.fp ((⟨textV r 24, intV (blobS r 24), many grV grS k (cntS (intS (blobS r 24)) 6), sumV (itS grS k (cntS (intS (blobS r 24)) 6))⟩ : Token))), rowI v kGrant 29 (many grV grS k (cntS (intS (blobS r 24)) 6)), blkI b1 (kToken.fp (zTokenV)), blkI b_r (kRd.fp ((sumS (itS grS k (cntS (intS (blobS r 24)) 6)))))]) rfl rfl rfl (Nat.le_of_ble_eq_true rfl) (OpM.call (l1 := [blkI b2 (kToken.fp ((⟨textV r 24, intV (blobS r 24), many grV grS k (cntS (intS (blobS r 24)) 6), sumV (itS grS k (cntS (intS (blobS r 24)) 6))⟩ : Token))), rowI v kGrant 29 (many grV grS k (cntS (intS (blobS r 24)) 6)), blkI b1 (kToken.fp (zTokenV))]) (l2 := []) (I := blkI b_r (kRd.fp (sumS (itS grS k (cntS (intS (blobS r 24)) 6))))) (I' := blkI b_r (kRd.fp ((sumS (itS grS k (cntS (intS (blobS r 24)) 6)))))) rfl en137 (bad_ct b_r (sumS (itS grS k (cntS (intS (blobS r 24)) 6)))) ⟨(Ent.refl _), trivial⟩) ?_
    refine JO.nil ?_
    refine E.next ?_
    refine J.cond (B := badR (sumS (itS grS k (cntS (intS (blobS r 24)) 6)))) (Ent.refl _) (fun hc1 => ?_) (fun hc1 => ?_)
    ·
      try simp only [vb0, decide_eq_true_eq, decide_eq_false_iff_not, Bool.not_eq_true, Bool.not_eq_false, Decidable.not_not] at hc1
      refine J.seq ?_
      refine J.regL (is := [0, 1]) rfl ?_
      refine JO.plain (R := kToken.rep ((⟨⟨#[]⟩, 0, [], (List.replicate 32 0)⟩ : Token))) rfl rfl rfl (Nat.le_of_ble_eq_true rfl) (op_build (f := kToken.fp (⟨⟨#[]⟩, 0, [], (List.replicate 32 0)⟩ : Token)) rfl bs26 zToken rfl (fun _ _ e => e) rfl) ?_
      refine JO.front (l1 := [blkI b2 (kToken.fp ((⟨textV r 24, intV (blobS r 24), many grV grS k (cntS (intS (blobS r 24)) 6), sumV (itS grS k (cntS (intS (blobS r 24)) 6))⟩ : Token))), rowI v kGrant 29 (many grV grS k (cntS (intS (blobS r 24)) 6))]) (l2 := [blkI b_r (kRd.fp ((sumS (itS grS k (cntS (intS (blobS r 24)) 6)))))]) ?_
      refine JO.store (f := kToken.fp (zTokenV)) (f' := kToken.fp ((⟨⟨#[]⟩, 0, [], (List.replicate 32 0)⟩ : Token))) (g := kToken.fp ((⟨⟨#[]⟩, 0, [], (List.replicate 32 0)⟩ : Token))) rfl rfl rfl rfl (Ent.refl _) (Ent.refl _) ld26.2 (Turn.all _ _ rfl) ?_
      refine JO.nil ?_
      refine E.next ?_
      refine J.ret ?_
      refine E.passR ?_
      have how8 : (sumS (itS grS k (cntS (intS (blobS r 24)) 6))) = tokS r := by (subst h8; rfl)
      refine E.ownEq (l' := [blkI b1 (kToken.fp ((⟨⟨#[]⟩, 0, [], (List.replicate 32 0)⟩ : Token))), blkI b2 (kToken.fp ((⟨textV r 24, intV (blobS r 24), many grV grS k (cntS (intS (blobS r 24)) 6), sumV (itS grS k (cntS (intS (blobS r 24)) 6))⟩ : Token))), rowI v kGrant 29 (many grV grS k (cntS (intS (blobS r 24)) 6)), blkI b_r (kRd.fp (tokS r))]) (congrArg (fun z => [blkI b1 (kToken.fp ((⟨⟨#[]⟩, 0, [], (List.replicate 32 0)⟩ : Token))), blkI b2 (kToken.fp ((⟨textV r 24, intV (blobS r 24), many grV grS k (cntS (intS (blobS r 24)) 6), sumV (itS grS k (cntS (intS (blobS r 24)) 6))⟩ : Token))), rowI v kGrant 29 (many grV grS k (cntS (intS (blobS r 24)) 6)), blkI b_r (kRd.fp z)]) how8) ?_
      exact g_retCe (k := kToken) (x := (⟨⟨#[]⟩, 0, [], (List.replicate 32 0)⟩ : Token)) rfl (Ent.refl _) (by repeat (first | exact List.mem_cons_self | apply List.mem_cons_of_mem)) ld26 (by (subst h8; exact (if_pos hc1).symm))
    ·
      try simp only [vb0, decide_eq_true_eq, decide_eq_false_iff_not, Bool.not_eq_true, Bool.not_eq_false, Decidable.not_not] at hc1
      refine J.skip ?_
      refine E.next ?_
      refine J.seq ?_
      refine J.regL (is := [0, 1]) rfl ?_
      refine JO.plain (R := kToken.rep ((⟨textV r 24, intV (blobS r 24), many grV grS k (cntS (intS (blobS r 24)) 6), sumV (itS grS k (cntS (intS (blobS r 24)) 6))⟩ : Token))) rfl rfl rfl (Nat.le_of_ble_eq_true rfl) (g_loadP (f := kToken.fp ((⟨textV r 24, intV (blobS r 24), many grV grS k (cntS (intS (blobS r 24)) 6), sumV (itS grS k (cntS (intS (blobS r 24)) 6))⟩ : Token))) (g := kToken.fp ((⟨textV r 24, intV (blobS r 24), many grV grS k (cntS (intS (blobS r 24)) 6), sumV (itS grS k (cntS (intS (blobS r 24)) 6))⟩ : Token))) rfl ld26 (by repeat (first | exact List.mem_cons_self | apply List.mem_cons_of_mem)) (Part.all _) (Ent.refl _)) ?_
      refine JO.front (l1 := [blkI b2 (kToken.fp ((⟨textV r 24, intV (blobS r 24), many grV grS k (cntS (intS (blobS r 24)) 6), sumV (itS grS k (cntS (intS (blobS r 24)) 6))⟩ : Token))), rowI v kGrant 29 (many grV grS k (cntS (intS (blobS r 24)) 6))]) (l2 := [blkI b_r (kRd.fp ((sumS (itS grS k (cntS (intS (blobS r 24)) 6)))))]) ?_
      refine JO.store (f := kToken.fp (zTokenV)) (f' := kToken.fp ((⟨textV r 24, intV (blobS r 24), many grV grS k (cntS (intS (blobS r 24)) 6), sumV (itS grS k (cntS (intS (blobS r 24)) 6))⟩ : Token))) (g := kToken.fp ((⟨textV r 24, intV (blobS r 24), many grV grS k (cntS (intS (blobS r 24)) 6), sumV (itS grS k (cntS (intS (blobS r 24)) 6))⟩ : Token))) rfl rfl rfl rfl (Ent.refl _) (Ent.refl _) ld26.2 (Turn.all _ _ rfl) ?_
      refine JO.nil ?_
      refine E.next ?_
      refine J.ret ?_
      have how9 : (sumS (itS grS k (cntS (intS (blobS r 24)) 6))) = tokS r := by (subst h8; rfl)
      refine E.ownEq (l' := [blkI b1 (kToken.fp ((⟨textV r 24, intV (blobS r 24), many grV grS k (cntS (intS (blobS r 24)) 6), sumV (itS grS k (cntS (intS (blobS r 24)) 6))⟩ : Token))), blkI b2 (kToken.fp ((⟨textV r 24, intV (blobS r 24), many grV grS k (cntS (intS (blobS r 24)) 6), sumV (itS grS k (cntS (intS (blobS r 24)) 6))⟩ : Token))), rowI v kGrant 29 (many grV grS k (cntS (intS (blobS r 24)) 6)), blkI b_r (kRd.fp (tokS r))]) (congrArg (fun z => [blkI b1 (kToken.fp ((⟨textV r 24, intV (blobS r 24), many grV grS k (cntS (intS (blobS r 24)) 6), sumV (itS grS k (cntS (intS (blobS r 24)) 6))⟩ : Token))), blkI b2 (kToken.fp ((⟨textV r 24, intV (blobS r 24), many grV grS k (cntS (intS (blobS r 24)) 6), sumV (itS grS k (cntS (intS (blobS r 24)) 6))⟩ : Token))), rowI v kGrant 29 (many grV grS k (cntS (intS (blobS r 24)) 6)), blkI b_r (kRd.fp z)]) how9) ?_
      exact g_retCe (k := kToken) (x := (⟨textV r 24, intV (blobS r 24), many grV grS k (cntS (intS (blobS r 24)) 6), sumV (itS grS k (cntS (intS (blobS r 24)) 6))⟩ : Token)) rfl (Ent.refl _) (by repeat (first | exact List.mem_cons_self | apply List.mem_cons_of_mem)) ld26 (by (subst h8; exact (if_neg (fun h9 => Bool.false_ne_true (hc1.symm.trans h9))).symm))
-- sealery/command.Get$1
theorem get1_ct (b_rd : Nat) (rd : Rd) : CtM Tryz.prog 91 [ptr (kRdr.fp ((⟨b_rd⟩ : Rdr)))] [blkI b_rd (kRd.fp (rd))] [blkI b_rd (kRd.fp (bodS rd))] ((kSl kU8).rep (bodV rd)) := by
  refine CtG.of Tryz.func91 rfl rfl (Nat.le_of_ble_eq_true rfl) (fun w0 h0 hp => ?_)
  refine J.seq ?_
  refine J.reg_ hmix ([plain (Rep.is (.slice none 0 0))]) (by kernel_rfl) rfl ⟨OpG.none_ rfl (op_assign rfl (Ent.refl _)), trivial⟩ rfl ?_
  refine E.next ?_
  refine J.seq ?_
  refine J.regL (is := [0, 1, 2, 3]) rfl ?_
  refine JO.plain (R := ptr (kPb.fp (b_rd))) rfl rfl rfl (Nat.le_of_ble_eq_true rfl) (g_field (l := kRdrF ((⟨b_rd⟩ : Rdr))) rfl fa116_0 (fun _ _ e => e) rfl rfl (Ent.refl _)) ?_
  refine JO.plain (R := Rep.is (pb b_rd 0)) rfl rfl rfl (Nat.le_of_ble_eq_true rfl) (g_loadPb rfl ld113 (Ent.refl _)) ?_
  refine JO.ofM (l' := [blkI b_rd (kRd.fp (blobS rd 256))]) rfl rfl rfl (Nat.le_of_ble_eq_true rfl) (OpM.call (l1 := []) (l2 := []) (I := blkI b_rd (kRd.fp (rd))) (I' := blkI b_rd (kRd.fp (blobS rd 256))) rfl en92 (rblob_ct b_rd rd 256) ⟨(Ent.refl _), (Ent.refl _), trivial⟩) ?_
  refine JO.plain (R := (kSl kU8).rep (blobV rd 256)) rfl rfl rfl (Nat.le_of_ble_eq_true rfl) (op_assign rfl (Ent.refl _)) ?_
  refine JO.nil ?_
  refine E.next ?_
  refine J.ret ?_
  have how1 : blobS rd 256 = bodS rd := by rfl
  refine E.ownEq (l' := [blkI b_rd (kRd.fp (bodS rd))]) (congrArg (fun z => [blkI b_rd (kRd.fp z)]) how1) ?_
  exact E.ret1 rfl (ent_v (k := (kSl kU8)) (a := blobV rd 256) (b := bodV rd) (by rfl))
-- sealery/command.list[[]byte]
theorem list_b_ct (most : Int) (b_rd : Nat) (rd : Rd) (hm : 0 ≤ most ∧ most ≤ 64) : CtM Tryz.prog 90 [kRdr.rep ((⟨b_rd⟩ : Rdr)), Rep.is (.int .i64 (most)), clo 91 [ptr (kRdr.fp ((⟨b_rd⟩ : Rdr)))]] [blkI b_rd (kRd.fp (rd))] [blkI b_rd (kRd.fp (rowsS bodS rd most))] ((kSl (kSl kU8)).rep (rowsV bodV bodS rd most)) := by
  refine CtG.of Tryz.func90 rfl rfl (Nat.le_of_ble_eq_true rfl) (fun w0 h0 hp => ?_)
  refine J.seq ?_
  refine J.regL (is := [0, 1]) rfl ?_
  refine JO.plain (R := ptr (kRdr.fp ((⟨b_rd⟩ : Rdr)))) rfl rfl rfl (Nat.le_of_ble_eq_true rfl) (op_box (f := kRdr.fp ((⟨b_rd⟩ : Rdr))) rfl (Ent.refl _)) ?_
  refine JO.row0 (kSl kU8) 35 ?_
  refine JO.plain (R := rv (.slice none 0 0) (kSl kU8) []) rfl rfl rfl (Nat.le_of_ble_eq_true rfl) (op_assign rfl (nil_rv _)) ?_
  refine JO.nil ?_
  refine E.next ?_
  refine J.seq ?_
  refine J.seq ?_
  refine J.regL (is := [0, 1, 2, 3, 4]) rfl ?_
  refine JO.plain (R := ptr (kPb.fp (b_rd))) rfl rfl rfl (Nat.le_of_ble_eq_true rfl) (g_field (l := kRdrF ((⟨b_rd⟩ : Rdr))) rfl fa116_0 (fun _ _ e => e) rfl rfl (Ent.refl _)) ?_
  refine JO.plain (R := Rep.is (pb b_rd 0)) rfl rfl rfl (Nat.le_of_ble_eq_true rfl) (g_loadPb rfl ld113 (Ent.refl _)) ?_
  refine JO.plain (R := Rep.is (.int .i64 (most))) rfl rfl rfl (Nat.le_of_ble_eq_true rfl) (op_move rfl (Ent.refl _)) ?_
  refine JO.ofM (l' := [rowI (.slice none 0 0) (kSl kU8) 35 ([]), blkI b_rd (kRd.fp (cntS rd most))]) rfl rfl rfl (Nat.le_of_ble_eq_true rfl) (OpM.call (l1 := [rowI (.slice none 0 0) (kSl kU8) 35 ([])]) (l2 := []) (I := blkI b_rd (kRd.fp (rd))) (I' := blkI b_rd (kRd.fp (cntS rd most))) rfl en93 (cnt_ct b_rd rd most) ⟨(Ent.refl _), (Ent.refl _), trivial⟩) ?_
  refine JO.plain (R := Rep.is (.int .i64 (0))) rfl rfl rfl (Nat.le_of_ble_eq_true rfl) (op_move rfl (Ent.refl _)) ?_
  refine JO.nil ?_
  refine E.next ?_
  refine J.block ?_
  refine J.loop (ι := Nat × Value) (fun i_ => (upd (upd (upd (upd top 2 (clo 91 [ptr (kRdr.fp ((⟨b_rd⟩ : Rdr)))])) 6 (rv i_.2 (kSl kU8) (many bodV bodS i_.1 (cntS rd most)))) 10 (Rep.is (.int .i64 (cntV rd most)))) 11 (Rep.is (.int .i64 ((i_.1 : Int)))))) (fun i_ => [rowI i_.2 (kSl kU8) 35 (many bodV bodS i_.1 (cntS rd most)), blkI b_rd (kRd.fp (itS bodS i_.1 (cntS rd most)))]) (fun i_ => (i_.1 : Int) ≤ cntV rd most) (fun i_ => (cntV rd most).toNat - i_.1) (0, (.slice none 0 0)) (by first | rfl | (simp; done)) (by exact cntV_nn _ _ hm.1) (by exact (Sub.upd (Sub.upd (Sub.upd (Sub.upd (Sub.top _) 2 (Ent.refl _)) 6 (ent_r (by first | rfl | (simp; done) | omega | (simp only [vs0, vs1, decide_eq_true_eq, decide_eq_false_iff_not, Bool.not_eq_true, Bool.not_eq_false, Decidable.not_not, strOf_size, strOf_chars, ascSet_length, ba_size, tokB_length, rowsB_length, List.flatMap_cons, List.flatMap_nil, many_length] at *; omega) | (simp [vs0, vs1, decide_eq_true_eq, decide_eq_false_iff_not, Bool.not_eq_true, Bool.not_eq_false, Decidable.not_not, strOf_size, strOf_chars, ascSet_length, ba_size, tokB_length, rowsB_length, List.flatMap_cons, List.flatMap_nil, many_length, *]; done)))) 10 (Ent.refl _)) 11 (ent_i (by first | rfl | (simp; done) | omega | (simp only [vs0, vs1, decide_eq_true_eq, decide_eq_false_iff_not, Bool.not_eq_true, Bool.not_eq_false, Decidable.not_not, strOf_size, strOf_chars, ascSet_length, ba_size, tokB_length, rowsB_length, List.flatMap_cons, List.flatMap_nil, many_length] at *; omega) | (simp [vs0, vs1, decide_eq_true_eq, decide_eq_false_iff_not, Bool.not_eq_true, Bool.not_eq_false, Decidable.not_not, strOf_size, strOf_chars, ascSet_length, ba_size, tokB_length, rowsB_length, List.flatMap_cons, List.flatMap_nil, many_length, *]; done))))) ?_
  rintro ⟨k, v⟩ hl0
  skip
  have hcl := cntV_le rd most hm.1
  refine J.seq ?_
  refine J.reg_ hmix ([plain (Rep.is (.bool (decide ((k : Int) < (cntV rd most)))))]) (by kernel_rfl) rfl ⟨OpG.none_ rfl (op_lss rfl (Ent.refl _) (Ent.refl _)), trivial⟩ rfl ?_
  refine E.next ?_
  refine J.seq ?_
  refine J.cond (B := decide ((k : Int) < (cntV rd most))) (Ent.refl _) (fun hc0 => ?_) (fun hc0 => ?_)
  ·
    try simp only [vb0, decide_eq_true_eq, decide_eq_false_iff_not, Bool.not_eq_true, Bool.not_eq_false, Decidable.not_not] at hc0
    refine J.skip ?_
    refine E.next ?_
    refine J.seq ?_
    refine J.block ?_
    refine J.regL (is := [0, 1, 2, 3, 4, 5]) rfl ?_
    refine JO.plain (R := rv v (kSl kU8) (many bodV bodS k (cntS rd most))) rfl rfl rfl (Nat.le_of_ble_eq_true rfl) (op_move rfl (Ent.refl _)) ?_
    refine JO.plain (R := clo 91 [ptr (kRdr.fp ((⟨b_rd⟩ : Rdr)))]) rfl rfl rfl (Nat.le_of_ble_eq_true rfl) (op_move rfl (Ent.refl _)) ?_
    refine JO.ofM (l' := [rowI v (kSl kU8) 35 (many bodV bodS k (cntS rd most)), blkI b_rd (kRd.fp (bodS (itS bodS k (cntS rd most))))]) rfl rfl rfl (Nat.le_of_ble_eq_true rfl) (OpM.callg (l1 := [rowI v (kSl kU8) 35 (many bodV bodS k (cntS rd most))]) (l2 := []) (I := blkI b_rd (kRd.fp (itS bodS k (cntS rd most)))) (I' := blkI b_rd (kRd.fp (bodS (itS bodS k (cntS rd most))))) (Rs := []) (Cs := [ptr (kRdr.fp ((⟨b_rd⟩ : Rdr)))]) rfl en91 (get1_ct b_rd (itS bodS k (cntS rd most))) (Ent.refl _) trivial) ?_
    refine JO.plain (R := (kSl (kSl kU8)).rep ([bodV (itS bodS k (cntS rd most))])) rfl rfl rfl (Nat.le_of_ble_eq_true rfl) (op_slit (k := (kSl kU8)) (xs := [bodV (itS bodS k (cntS rd most))]) rfl sl27.1 sl27.2 zt35 rfl rfl (by decide) (by decide) rfl ⟨_, (kSl kU8).fp (bodV (itS bodS k (cntS rd most))), rfl, rfl, (Ent.refl _), rfl, rfl⟩) ?_
    refine JO.append (k := (kSl kU8)) (xs := many bodV bodS k (cntS rd most)) (ys := [bodV (itS bodS k (cntS rd most))]) rfl rfl rfl (Nat.le_of_ble_eq_true rfl) rfl ((Ent.refl _).trans (rv_is _ _ _)) (Ent.refl _) ap27.1 ap27.2 rfl (by decide) (by first | omega | (simp only [vs0, vs1, decide_eq_true_eq, decide_eq_false_iff_not, Bool.not_eq_true, Bool.not_eq_false, Decidable.not_not, strOf_size, strOf_chars, ascSet_length, ba_size, tokB_length, rowsB_length, List.flatMap_cons, List.flatMap_nil, many_length] at *; omega) | (simp [vs0, vs1, decide_eq_true_eq, decide_eq_false_iff_not, Bool.not_eq_true, Bool.not_eq_false, Decidable.not_not, strOf_size, strOf_chars, ascSet_length, ba_size, tokB_length, rowsB_length, List.flatMap_cons, List.flatMap_nil, many_length] at *; omega)) (by first | omega | (simp only [vs0, vs1, decide_eq_true_eq, decide_eq_false_iff_not, Bool.not_eq_true, Bool.not_eq_false, Decidable.not_not, strOf_size, strOf_chars, ascSet_length, ba_size, tokB_length, rowsB_length, List.flatMap_cons, List.flatMap_nil, many_length] at *; omega) | (simp [vs0, vs1, decide_eq_true_eq, decide_eq_false_iff_not, Bool.not_eq_true, Bool.not_eq_false, Decidable.not_not, strOf_size, strOf_chars, ascSet_length, ba_size, tokB_length, rowsB_length, List.flatMap_cons, List.flatMap_nil, many_length] at *; omega)) (fun v1 => ?_)
    refine JO.plain (R := rv v1 (kSl kU8) ((many bodV bodS k (cntS rd most)) ++ ([bodV (itS bodS k (cntS rd most))]))) rfl rfl rfl (Nat.le_of_ble_eq_true rfl) (op_assign rfl (Ent.refl _)) ?_
    refine JO.nil ?_
    refine E.blockEnd ?_
    refine E.next ?_
    refine J.reg_ hmix ([plain (Rep.is (.int .i64 ((k : Int) + 1))), plain (Rep.is (.int .i64 ((k : Int) + 1)))]) (by kernel_rfl) rfl ⟨OpG.none_ rfl (g_add rfl (Ent.refl _) (Ent.refl _) (by first | omega | (simp only [vs0, vs1, decide_eq_true_eq, decide_eq_false_iff_not, Bool.not_eq_true, Bool.not_eq_false, Decidable.not_not, strOf_size, strOf_chars, ascSet_length, ba_size, tokB_length, rowsB_length, List.flatMap_cons, List.flatMap_nil, many_length] at *; omega) | (simp [vs0, vs1, decide_eq_true_eq, decide_eq_false_iff_not, Bool.not_eq_true, Bool.not_eq_false, Decidable.not_not, strOf_size, strOf_chars, ascSet_length, ba_size, tokB_length, rowsB_length, List.flatMap_cons, List.flatMap_nil, many_length] at *; omega))), OpG.none_ rfl (op_move rfl (Ent.refl _)), trivial⟩ rfl ?_
    have how2 : (many bodV bodS k (cntS rd most)) ++ ([bodV (itS bodS k (cntS rd most))]) = many bodV bodS (k + 1) (cntS rd most) := by rfl
    have how3 : bodS (itS bodS k (cntS rd most)) = itS bodS (k + 1) (cntS rd most) := by rfl
    exact E.again (k + 1, v1) (by first | rfl | (rw [how2, how3]; done) | (simp only [how2, how3]; done) | (simp; done)) (by omega) (by omega) (by exact (Sub.upd (Sub.upd (Sub.upd (Sub.upd (Sub.top _) 2 (Ent.refl _)) 6 (ent_r how2)) 10 (Ent.refl _)) 11 (ent_i (by first | rfl | (simp; done) | omega | (simp only [vs0, vs1, decide_eq_true_eq, decide_eq_false_iff_not, Bool.not_eq_true, Bool.not_eq_false, Decidable.not_not, strOf_size, strOf_chars, ascSet_length, ba_size, tokB_length, rowsB_length, List.flatMap_cons, List.flatMap_nil, many_length] at *; omega) | (simp [vs0, vs1, decide_eq_true_eq, decide_eq_false_iff_not, Bool.not_eq_true, Bool.not_eq_false, Decidable.not_not, strOf_size, strOf_chars, ascSet_length, ba_size, tokB_length, rowsB_length, List.flatMap_cons, List.flatMap_nil, many_length, *]; done)))))
  ·
    try simp only [vb0, decide_eq_true_eq, decide_eq_false_iff_not, Bool.not_eq_true, Bool.not_eq_false, Decidable.not_not] at hc0
    refine J.exit ?_
    refine E.passX ?_
    refine E.passX ?_
    refine E.hit ?_
    refine E.next ?_
    refine J.seq ?_
    refine J.reg_ hmix ([plain (rv v (kSl kU8) (many bodV bodS k (cntS rd most))), plain (rv v (kSl kU8) (many bodV bodS k (cntS rd most)))]) (by kernel_rfl) rfl ⟨OpG.none_ rfl (op_move rfl (Ent.refl _)), OpG.none_ rfl (op_assign rfl (Ent.refl _)), trivial⟩ rfl ?_
    refine E.next ?_
    refine J.ret ?_
    have how4 : itS bodS k (cntS rd most) = rowsS bodS rd most := by (have h8 : k = (cntV rd most).toNat := (by omega); subst h8; rfl)
    refine E.ownEq (l' := [rowI v (kSl kU8) 35 (many bodV bodS k (cntS rd most)), blkI b_rd (kRd.fp (rowsS bodS rd most))]) (congrArg (fun z => [rowI v (kSl kU8) 35 (many bodV bodS k (cntS rd most)), blkI b_rd (kRd.fp z)]) how4) ?_
    exact E.ret1 rfl ((rv_sl _ _ _).trans (ent_v (k := (kSl (kSl kU8))) (a := many bodV bodS k (cntS rd most)) (b := rowsV bodV bodS rd most) (by (have h8 : k = (cntV rd most).toNat := (by omega); subst h8; rfl))))
end Go.Proofs.YtdioiepkbolnlaaGreatDoor
