import Derived.Test.YtdioiepkbolnlaaGreatDoorNc
import Derived.Test.YtdioiepkbolnlaaGreatDoorProg
set_option linter.unusedSimpArgs false
set_option linter.unusedVariables false
set_option linter.unnecessarySimpa false
set_option maxRecDepth 100000
set_option maxHeartbeats 4000000
namespace Go.Proofs.YtdioiepkbolnlaaGreatDoor
open Go.RowKit
attribute [local irreducible] OpC OpM 
theorem sl35 : SlT Tryz.prog 35 5 1 := ⟨by kernel_rfl, by kernel_rfl⟩
theorem ap35 : ApT Tryz.prog 35 5 (.int .u8 0) 1 1 := ⟨by kernel_rfl, by kernel_rfl⟩
theorem un9 : Tryz.prog.underlying 9 = some (.string) := by kernel_rfl
theorem un5 : Tryz.prog.underlying 5 = some (.int .u8) := by kernel_rfl
theorem ld5 : LdT Tryz.prog 5 false 1 := ⟨by kernel_rfl, by kernel_rfl⟩
theorem en148 : Enters Tryz.prog 148 := enters_of Tryz.func148 (by kernel_rfl) rfl
theorem en119 : Enters Tryz.prog 119 := enters_of Tryz.func119 (by kernel_rfl) rfl
theorem en118 : Enters Tryz.prog 118 := enters_of Tryz.func118 (by kernel_rfl) rfl
theorem en146 : Enters Tryz.prog 146 := enters_of Tryz.func146 (by kernel_rfl) rfl
theorem ar24 : ArT Tryz.prog 24 32 5 1 := ⟨by kernel_rfl, by kernel_rfl, by decide⟩
theorem sl63 : SlT Tryz.prog 63 3 1 := ⟨by kernel_rfl, by kernel_rfl⟩
theorem ld3 : LdT Tryz.prog 3 false 1 := ⟨by kernel_rfl, by kernel_rfl⟩
theorem sl137 : SlT Tryz.prog 137 9 1 := ⟨by kernel_rfl, by kernel_rfl⟩
theorem ld9 : LdT Tryz.prog 9 false 1 := ⟨by kernel_rfl, by kernel_rfl⟩
theorem en115 : Enters Tryz.prog 115 := enters_of Tryz.func115 (by kernel_rfl) rfl
theorem fa29_0 : FaT Tryz.prog 29 0 0 0 := ⟨by kernel_rfl, by kernel_rfl⟩
theorem zt3 : ∀ w, (zeroValue 3).run Tryz.prog w = .ok (.int .i64 0) w := fun _ => by kernel_rfl
theorem en116 : Enters Tryz.prog 116 := enters_of Tryz.func116 (by kernel_rfl) rfl
theorem fa29_1 : FaT Tryz.prog 29 1 1 0 := ⟨by kernel_rfl, by kernel_rfl⟩
theorem fa29_2 : FaT Tryz.prog 29 2 2 0 := ⟨by kernel_rfl, by kernel_rfl⟩
theorem ld4 : LdT Tryz.prog 4 false 1 := ⟨by kernel_rfl, by kernel_rfl⟩
theorem en147 : Enters Tryz.prog 147 := enters_of Tryz.func147 (by kernel_rfl) rfl
theorem fa29_3 : FaT Tryz.prog 29 3 3 0 := ⟨by kernel_rfl, by kernel_rfl⟩
theorem fa26_0 : FaT Tryz.prog 26 0 0 0 := ⟨by kernel_rfl, by kernel_rfl⟩
theorem fa26_1 : FaT Tryz.prog 26 1 1 0 := ⟨by kernel_rfl, by kernel_rfl⟩
theorem fa26_2 : FaT Tryz.prog 26 2 2 0 := ⟨by kernel_rfl, by kernel_rfl⟩
theorem ld22 : LdT Tryz.prog 22 false 1 := ⟨by kernel_rfl, by kernel_rfl⟩
theorem sl22 : SlT Tryz.prog 22 29 4 := ⟨by kernel_rfl, by kernel_rfl⟩
theorem ld29 : LdT Tryz.prog 29 true 4 := ⟨by kernel_rfl, by kernel_rfl⟩
theorem zt29 : ∀ w, (zeroValue 29).run Tryz.prog w = .ok (.agg #[.int .i64 0, .string ⟨#[]⟩, .bool false, .int .i64 0]) w := fun _ => by kernel_rfl
theorem en117 : Enters Tryz.prog 117 := enters_of Tryz.func117 (by kernel_rfl) rfl
theorem fa26_3 : FaT Tryz.prog 26 3 3 31 := ⟨by kernel_rfl, by kernel_rfl⟩
theorem ld24 : LdT Tryz.prog 24 true 32 := ⟨by kernel_rfl, by kernel_rfl⟩
theorem en77 : Enters Tryz.prog 77 := enters_of Tryz.func77 (by kernel_rfl) rfl
theorem sl27 : SlT Tryz.prog 27 35 1 := ⟨by kernel_rfl, by kernel_rfl⟩
theorem ld35 : LdT Tryz.prog 35 false 1 := ⟨by kernel_rfl, by kernel_rfl⟩
theorem en49 : Enters Tryz.prog 49 := enters_of Tryz.func49 (by kernel_rfl) rfl
theorem fa70_0 : FaT Tryz.prog 70 0 0 0 := ⟨by kernel_rfl, by kernel_rfl⟩
theorem fa70_1 : FaT Tryz.prog 70 1 1 0 := ⟨by kernel_rfl, by kernel_rfl⟩
theorem zt9 : ∀ w, (zeroValue 9).run Tryz.prog w = .ok (.string ⟨#[]⟩) w := fun _ => by kernel_rfl
theorem en45 : Enters Tryz.prog 45 := enters_of Tryz.func45 (by kernel_rfl) rfl
theorem fa70_2 : FaT Tryz.prog 70 2 2 0 := ⟨by kernel_rfl, by kernel_rfl⟩
theorem fa70_3 : FaT Tryz.prog 70 3 3 0 := ⟨by kernel_rfl, by kernel_rfl⟩
theorem fa70_4 : FaT Tryz.prog 70 4 4 0 := ⟨by kernel_rfl, by kernel_rfl⟩
theorem ld36 : LdT Tryz.prog 36 false 1 := ⟨by kernel_rfl, by kernel_rfl⟩
theorem en47 : Enters Tryz.prog 47 := enters_of Tryz.func47 (by kernel_rfl) rfl
theorem fa70_5 : FaT Tryz.prog 70 5 5 0 := ⟨by kernel_rfl, by kernel_rfl⟩
theorem fa72_0 : FaT Tryz.prog 72 0 0 0 := ⟨by kernel_rfl, by kernel_rfl⟩
theorem fa72_1 : FaT Tryz.prog 72 1 1 0 := ⟨by kernel_rfl, by kernel_rfl⟩
theorem fa72_2 : FaT Tryz.prog 72 2 2 0 := ⟨by kernel_rfl, by kernel_rfl⟩
theorem fa72_3 : FaT Tryz.prog 72 3 3 0 := ⟨by kernel_rfl, by kernel_rfl⟩
theorem fa72_4 : FaT Tryz.prog 72 4 4 0 := ⟨by kernel_rfl, by kernel_rfl⟩
theorem fa72_5 : FaT Tryz.prog 72 5 5 0 := ⟨by kernel_rfl, by kernel_rfl⟩
theorem fa72_6 : FaT Tryz.prog 72 6 6 0 := ⟨by kernel_rfl, by kernel_rfl⟩
theorem fa72_7 : FaT Tryz.prog 72 7 7 31 := ⟨by kernel_rfl, by kernel_rfl⟩
theorem sl43 : SlT Tryz.prog 43 70 6 := ⟨by kernel_rfl, by kernel_rfl⟩
theorem ld70 : LdT Tryz.prog 70 true 6 := ⟨by kernel_rfl, by kernel_rfl⟩
theorem zt70 : ∀ w, (zeroValue 70).run Tryz.prog w = .ok (.agg #[.string ⟨#[]⟩, .string ⟨#[]⟩, .int .i64 0, .int .i64 0, .int .i64 0, .slice none 0 0]) w := fun _ => by kernel_rfl
theorem en74 : Enters Tryz.prog 74 := enters_of Tryz.func74 (by kernel_rfl) rfl
theorem sl44 : SlT Tryz.prog 44 72 39 := ⟨by kernel_rfl, by kernel_rfl⟩
theorem ld72 : LdT Tryz.prog 72 true 39 := ⟨by kernel_rfl, by kernel_rfl⟩
theorem zt72 : ∀ w, (zeroValue 72).run Tryz.prog w = .ok (.agg #[.int .i64 0, .int .i64 0, .int .i64 0, .int .i64 0, .int .i64 0, .string ⟨#[]⟩, .string ⟨#[]⟩, .int .u8 0, .int .u8 0, .int .u8 0, .int .u8 0, .int .u8 0, .int .u8 0, .int .u8 0, .int .u8 0, .int .u8 0, .int .u8 0, .int .u8 0, .int .u8 0, .int .u8 0, .int .u8 0, .int .u8 0, .int .u8 0, .int .u8 0, .int .u8 0, .int .u8 0, .int .u8 0, .int .u8 0, .int .u8 0, .int .u8 0, .int .u8 0, .int .u8 0, .int .u8 0, .int .u8 0, .int .u8 0, .int .u8 0, .int .u8 0, .int .u8 0, .int .u8 0]) w := fun _ => by kernel_rfl
theorem en76 : Enters Tryz.prog 76 := enters_of Tryz.func76 (by kernel_rfl) rfl
theorem hmix : Tryz.prog.follows .mixedOrders = true := by kernel_rfl
-- sealery/pack.laid[[]byte]
theorem laid_l_ct (b : List UInt8) (p : List UInt8) (hb : b.length + p.length ≤ 35184372088832) : Ct Tryz.prog 119 [(kSl kU8).rep (b), (kSl kU8).rep (p)] ((kSl kU8).rep (b ++ p)) := by
  refine CtG.of Tryz.func119 rfl rfl (Nat.le_of_ble_eq_true rfl) (fun w0 h0 hp => ?_)
  refine J.len (s := 0) (k := kU8) (xs := b) (Ent.refl _) (fun hlen_0 => ?_)
  refine J.len (s := 1) (k := kU8) (xs := p) (Ent.refl _) (fun hlen_1 => ?_)
  refine J.seq ?_
  refine J.reg_ hmix ([plain (Rep.is (.slice none 0 0))]) (by kernel_rfl) rfl ⟨OpG.none_ rfl (op_assign rfl (Ent.refl _)), trivial⟩ rfl ?_
  refine E.next ?_
  refine J.seq ?_
  refine J.regL (is := [0, 1, 2, 3, 4, 5, 6, 7]) rfl ?_
  refine JO.plain (R := (kSl kU8).rep (b)) rfl rfl rfl (Nat.le_of_ble_eq_true rfl) (op_move rfl (Ent.refl _)) ?_
  refine JO.plain (R := Rep.is (.int .i64 (((b).length : Int)))) rfl rfl rfl (Nat.le_of_ble_eq_true rfl) (g_len rfl sl35 (Ent.refl _)) ?_
  refine JO.plain (R := (kSl kU8).rep (p)) rfl rfl rfl (Nat.le_of_ble_eq_true rfl) (op_move rfl (Ent.refl _)) ?_
  refine JO.plain (R := Rep.is (.int .i64 (((p).length : Int)))) rfl rfl rfl (Nat.le_of_ble_eq_true rfl) (g_len rfl sl35 (Ent.refl _)) ?_
  refine JO.plain (R := Rep.is (.int .i64 (((b).length : Int) + ((p).length : Int)))) rfl rfl rfl (Nat.le_of_ble_eq_true rfl) (g_add rfl (Ent.refl _) (Ent.refl _) (by first | omega | (simp only [vs0, vs1, decide_eq_true_eq, decide_eq_false_iff_not, Bool.not_eq_true, Bool.not_eq_false, Decidable.not_not] at *; omega) | (simp [vs0, vs1, decide_eq_true_eq, decide_eq_false_iff_not, Bool.not_eq_true, Bool.not_eq_false, Decidable.not_not] at *; omega))) ?_
  refine JO.plain (R := Rep.is (.int .i64 ((((b).length : Int) + ((p).length : Int)) + 16))) rfl rfl rfl (Nat.le_of_ble_eq_true rfl) (g_add rfl (Ent.refl _) (Ent.refl _) (by first | omega | (simp only [vs0, vs1, decide_eq_true_eq, decide_eq_false_iff_not, Bool.not_eq_true, Bool.not_eq_false, Decidable.not_not] at *; omega) | (simp [vs0, vs1, decide_eq_true_eq, decide_eq_false_iff_not, Bool.not_eq_true, Bool.not_eq_false, Decidable.not_not] at *; omega))) ?_
  refine JO.new rfl rfl rfl (Nat.le_of_ble_eq_true rfl) (op_make0 (k := kU8) rfl (Ent.refl _) (Ent.refl _) ap35.1 ap35.2 (by first | omega | (simp only [vs0, vs1, decide_eq_true_eq, decide_eq_false_iff_not, Bool.not_eq_true, Bool.not_eq_false, Decidable.not_not] at *; omega) | (simp [vs0, vs1, decide_eq_true_eq, decide_eq_false_iff_not, Bool.not_eq_true, Bool.not_eq_false, Decidable.not_not] at *; omega))) (fun v1 => ?_)
  refine JO.plain (R := rv v1 kU8 ([])) rfl rfl rfl (Nat.le_of_ble_eq_true rfl) (op_assign rfl (Ent.refl _)) ?_
  refine JO.nil ?_
  refine E.next ?_
  refine J.seq ?_
  refine J.regL (is := [0, 1, 2, 3, 4, 5]) rfl ?_
  refine JO.plain (R := rv v1 kU8 ([])) rfl rfl rfl (Nat.le_of_ble_eq_true rfl) (op_move rfl (Ent.refl _)) ?_
  refine JO.plain (R := (kSl kU8).rep (b)) rfl rfl rfl (Nat.le_of_ble_eq_true rfl) (op_move rfl (Ent.refl _)) ?_
  refine JO.append (k := kU8) (xs := []) (ys := b) rfl rfl rfl (Nat.le_of_ble_eq_true rfl) rfl ((Ent.refl _).trans (rv_is _ _ _)) (Ent.refl _) ap35.1 ap35.2 rfl (by decide) (by first | omega | (simp only [vs0, vs1, decide_eq_true_eq, decide_eq_false_iff_not, Bool.not_eq_true, Bool.not_eq_false, Decidable.not_not] at *; omega) | (simp [vs0, vs1, decide_eq_true_eq, decide_eq_false_iff_not, Bool.not_eq_true, Bool.not_eq_false, Decidable.not_not] at *; omega)) (by first | omega | (simp only [vs0, vs1, decide_eq_true_eq, decide_eq_false_iff_not, Bool.not_eq_true, Bool.not_eq_false, Decidable.not_not] at *; omega) | (simp [vs0, vs1, decide_eq_true_eq, decide_eq_false_iff_not, Bool.not_eq_true, Bool.not_eq_false, Decidable.not_not] at *; omega)) (fun v2 => ?_)
  refine JO.plain (R := (kSl kU8).rep (p)) rfl rfl rfl (Nat.le_of_ble_eq_true rfl) (op_move rfl (Ent.refl _)) ?_
  refine JO.append (k := kU8) (xs := ([]) ++ b) (ys := p) rfl rfl rfl (Nat.le_of_ble_eq_true rfl) rfl ((Ent.refl _).trans (rv_is _ _ _)) (Ent.refl _) ap35.1 ap35.2 rfl (by decide) (by first | omega | (simp only [vs0, vs1, decide_eq_true_eq, decide_eq_false_iff_not, Bool.not_eq_true, Bool.not_eq_false, Decidable.not_not] at *; omega) | (simp [vs0, vs1, decide_eq_true_eq, decide_eq_false_iff_not, Bool.not_eq_true, Bool.not_eq_false, Decidable.not_not] at *; omega)) (by first | omega | (simp only [vs0, vs1, decide_eq_true_eq, decide_eq_false_iff_not, Bool.not_eq_true, Bool.not_eq_false, Decidable.not_not] at *; omega) | (simp [vs0, vs1, decide_eq_true_eq, decide_eq_false_iff_not, Bool.not_eq_true, Bool.not_eq_false, Decidable.not_not] at *; omega)) (fun v3 => ?_)
  refine JO.plain (R := rv v3 kU8 ((([]) ++ b) ++ p)) rfl rfl rfl (Nat.le_of_ble_eq_true rfl) (op_assign rfl (Ent.refl _)) ?_
  refine JO.nil ?_
  refine E.next ?_
  refine J.ret ?_
  exact E.ret1 rfl ((rv_sl _ _ _).trans (ent_v (k := (kSl kU8)) (a := (([]) ++ b) ++ p) (b := b ++ p) (by simp)))
-- sealery/pack.laid[string]
theorem laid_s_ct (b : List UInt8) (p : ByteArray) (hb : b.length + p.size ≤ 35184372088832) : Ct Tryz.prog 146 [(kSl kU8).rep (b), Rep.is (.string (p))] ((kSl kU8).rep (b ++ p.data.toList)) := by
  refine CtG.of Tryz.func146 rfl rfl (Nat.le_of_ble_eq_true rfl) (fun w0 h0 hp => ?_)
  refine J.len (s := 0) (k := kU8) (xs := b) (Ent.refl _) (fun hlen_0 => ?_)
  refine J.seq ?_
  refine J.reg_ hmix ([plain (Rep.is (.slice none 0 0))]) (by kernel_rfl) rfl ⟨OpG.none_ rfl (op_assign rfl (Ent.refl _)), trivial⟩ rfl ?_
  refine E.next ?_
  refine J.seq ?_
  refine J.regL (is := [0, 1, 2, 3, 4, 5, 6, 7]) rfl ?_
  refine JO.plain (R := (kSl kU8).rep (b)) rfl rfl rfl (Nat.le_of_ble_eq_true rfl) (op_move rfl (Ent.refl _)) ?_
  refine JO.plain (R := Rep.is (.int .i64 (((b).length : Int)))) rfl rfl rfl (Nat.le_of_ble_eq_true rfl) (g_len rfl sl35 (Ent.refl _)) ?_
  refine JO.plain (R := Rep.is (.string (p))) rfl rfl rfl (Nat.le_of_ble_eq_true rfl) (op_move rfl (Ent.refl _)) ?_
  refine JO.plain (R := Rep.is (.int .i64 (((p).size : Int)))) rfl rfl rfl (Nat.le_of_ble_eq_true rfl) (op_lens rfl (Ent.refl _) un9) ?_
  refine JO.plain (R := Rep.is (.int .i64 (((b).length : Int) + ((p).size : Int)))) rfl rfl rfl (Nat.le_of_ble_eq_true rfl) (g_add rfl (Ent.refl _) (Ent.refl _) (by first | omega | (simp only [vs0, vs1, decide_eq_true_eq, decide_eq_false_iff_not, Bool.not_eq_true, Bool.not_eq_false, Decidable.not_not] at *; omega) | (simp [vs0, vs1, decide_eq_true_eq, decide_eq_false_iff_not, Bool.not_eq_true, Bool.not_eq_false, Decidable.not_not] at *; omega))) ?_
  refine JO.plain (R := Rep.is (.int .i64 ((((b).length : Int) + ((p).size : Int)) + 16))) rfl rfl rfl (Nat.le_of_ble_eq_true rfl) (g_add rfl (Ent.refl _) (Ent.refl _) (by first | omega | (simp only [vs0, vs1, decide_eq_true_eq, decide_eq_false_iff_not, Bool.not_eq_true, Bool.not_eq_false, Decidable.not_not] at *; omega) | (simp [vs0, vs1, decide_eq_true_eq, decide_eq_false_iff_not, Bool.not_eq_true, Bool.not_eq_false, Decidable.not_not] at *; omega))) ?_
  refine JO.new rfl rfl rfl (Nat.le_of_ble_eq_true rfl) (op_make0 (k := kU8) rfl (Ent.refl _) (Ent.refl _) ap35.1 ap35.2 (by first | omega | (simp only [vs0, vs1, decide_eq_true_eq, decide_eq_false_iff_not, Bool.not_eq_true, Bool.not_eq_false, Decidable.not_not] at *; omega) | (simp [vs0, vs1, decide_eq_true_eq, decide_eq_false_iff_not, Bool.not_eq_true, Bool.not_eq_false, Decidable.not_not] at *; omega))) (fun v1 => ?_)
  refine JO.plain (R := rv v1 kU8 ([])) rfl rfl rfl (Nat.le_of_ble_eq_true rfl) (op_assign rfl (Ent.refl _)) ?_
  refine JO.nil ?_
  refine E.next ?_
  refine J.seq ?_
  refine J.regL (is := [0, 1, 2, 3, 4, 5]) rfl ?_
  refine JO.plain (R := rv v1 kU8 ([])) rfl rfl rfl (Nat.le_of_ble_eq_true rfl) (op_move rfl (Ent.refl _)) ?_
  refine JO.plain (R := (kSl kU8).rep (b)) rfl rfl rfl (Nat.le_of_ble_eq_true rfl) (op_move rfl (Ent.refl _)) ?_
  refine JO.append (k := kU8) (xs := []) (ys := b) rfl rfl rfl (Nat.le_of_ble_eq_true rfl) rfl ((Ent.refl _).trans (rv_is _ _ _)) (Ent.refl _) ap35.1 ap35.2 rfl (by decide) (by first | omega | (simp only [vs0, vs1, decide_eq_true_eq, decide_eq_false_iff_not, Bool.not_eq_true, Bool.not_eq_false, Decidable.not_not] at *; omega) | (simp [vs0, vs1, decide_eq_true_eq, decide_eq_false_iff_not, Bool.not_eq_true, Bool.not_eq_false, Decidable.not_not] at *; omega)) (by first | omega | (simp only [vs0, vs1, decide_eq_true_eq, decide_eq_false_iff_not, Bool.not_eq_true, Bool.not_eq_false, Decidable.not_not] at *; omega) | (simp [vs0, vs1, decide_eq_true_eq, decide_eq_false_iff_not, Bool.not_eq_true, Bool.not_eq_false, Decidable.not_not] at *; omega)) (fun v2 => ?_)
  refine JO.plain (R := Rep.is (.string (p))) rfl rfl rfl (Nat.le_of_ble_eq_true rfl) (op_move rfl (Ent.refl _)) ?_
  refine JO.appendS (xs := ([]) ++ b) (s := p) rfl rfl rfl (Nat.le_of_ble_eq_true rfl) rfl ((Ent.refl _).trans (rv_is _ _ _)) (Ent.refl _) un9 ap35.1 ap35.2 rfl (by first | omega | (simp only [vs0, vs1, decide_eq_true_eq, decide_eq_false_iff_not, Bool.not_eq_true, Bool.not_eq_false, Decidable.not_not] at *; omega) | (simp [vs0, vs1, decide_eq_true_eq, decide_eq_false_iff_not, Bool.not_eq_true, Bool.not_eq_false, Decidable.not_not] at *; omega)) (by first | omega | (simp only [vs0, vs1, decide_eq_true_eq, decide_eq_false_iff_not, Bool.not_eq_true, Bool.not_eq_false, Decidable.not_not] at *; omega) | (simp [vs0, vs1, decide_eq_true_eq, decide_eq_false_iff_not, Bool.not_eq_true, Bool.not_eq_false, Decidable.not_not] at *; omega)) (fun v3 => ?_)
  refine JO.plain (R := rv v3 kU8 ((([]) ++ b) ++ p.data.toList)) rfl rfl rfl (Nat.le_of_ble_eq_true rfl) (op_assign rfl (Ent.refl _)) ?_
  refine JO.nil ?_
  refine E.next ?_
  refine J.ret ?_
  exact E.ret1 rfl ((rv_sl _ _ _).trans (ent_v (k := (kSl kU8)) (a := (([]) ++ b) ++ p.data.toList) (b := b ++ p.data.toList) (by simp)))
-- sealery/pack.number
theorem pack_number_ct (v : Int) : Ct Tryz.prog 148 [Rep.is (.int .i64 (v))] ((kSl kU8).rep (num8 v)) := by
  refine CtG.of Tryz.func148 rfl rfl (Nat.le_of_ble_eq_true rfl) (fun w0 h0 hp => ?_)
  refine J.seq ?_
  refine J.reg_ hmix ([plain (Rep.is (.slice none 0 0))]) (by kernel_rfl) rfl ⟨OpG.none_ rfl (op_assign rfl (Ent.refl _)), trivial⟩ rfl ?_
  refine E.next ?_
  refine J.seq ?_
  refine J.regL (is := [0, 1]) rfl ?_
  refine JO.newS rfl rfl rfl (Nat.le_of_ble_eq_true rfl) (op_makeB (k := kU8) (n := 8) (0) rfl (Ent.refl _) (Ent.refl _) ap35.1 ap35.2 (fun _ => rfl) (by decide)) (fun b1 => ?_)
  refine JO.plain (R := Rep.is (sb b1 8)) rfl rfl rfl (Nat.le_of_ble_eq_true rfl) (op_assign rfl (Ent.refl _)) ?_
  refine JO.nil ?_
  refine E.next ?_
  refine J.seq ?_
  refine J.seq ?_
  refine J.reg_ hmix ([plain (Rep.is (sb b1 8)), plain (Rep.is (.int .i64 ((8 : Int)))), plain (Rep.is (.int .i64 (0)))]) (by kernel_rfl) rfl ⟨OpG.none_ rfl (op_move rfl (Ent.refl _)), OpG.none_ rfl (op_lenB rfl sl35 (Ent.refl _)), OpG.none_ rfl (op_move rfl (Ent.refl _)), trivial⟩ rfl ?_
  refine E.next ?_
  refine J.block ?_
  refine J.loop (ι := Nat) (fun i_ => (upd (upd (upd (upd (upd top 0 (Rep.is (.int .i64 (v)))) 2 (Rep.is (.slice none 0 0))) 3 (Rep.is (sb b1 8))) 7 (Rep.is (.int .i64 ((8 : Int))))) 8 (Rep.is (.int .i64 ((i_ : Int)))))) (fun i_ => [blkI b1 ((kArr 8 kU8).fp (nums i_ v))]) (fun i_ => i_ ≤ 8) (fun i_ => 8 - i_) (0) (by first | rfl | (simp; done)) (by first | omega | (simp [vs0, vs1, decide_eq_true_eq, decide_eq_false_iff_not, Bool.not_eq_true, Bool.not_eq_false, Decidable.not_not, *]; done) | (simp [vs0, vs1, decide_eq_true_eq, decide_eq_false_iff_not, Bool.not_eq_true, Bool.not_eq_false, Decidable.not_not, *]; omega)) (by exact (Sub.upd (Sub.upd (Sub.upd (Sub.upd (Sub.upd (Sub.top _) 0 (Ent.refl _)) 2 (Ent.refl _)) 3 (Ent.refl _)) 7 (Ent.refl _)) 8 (ent_i (by first | rfl | (simp; done) | omega | (simp only [vs0, vs1, decide_eq_true_eq, decide_eq_false_iff_not, Bool.not_eq_true, Bool.not_eq_false, Decidable.not_not] at *; omega) | (simp [vs0, vs1, decide_eq_true_eq, decide_eq_false_iff_not, Bool.not_eq_true, Bool.not_eq_false, Decidable.not_not, *]; done))))) ?_
  rintro k hl0
  skip
  refine J.seq ?_
  refine J.reg_ hmix ([plain (Rep.is (.bool (decide ((k : Int) < (8 : Int)))))]) (by kernel_rfl) rfl ⟨OpG.none_ rfl (op_lss rfl (Ent.refl _) (Ent.refl _)), trivial⟩ rfl ?_
  refine E.next ?_
  refine J.seq ?_
  refine J.cond (B := decide ((k : Int) < (8 : Int))) (Ent.refl _) (fun hc0 => ?_) (fun hc0 => ?_)
  ·
    try simp only [vb0, decide_eq_true_eq, decide_eq_false_iff_not, Bool.not_eq_true, Bool.not_eq_false, Decidable.not_not] at hc0
    refine J.skip ?_
    refine E.next ?_
    refine J.seq ?_
    refine J.block ?_
    refine J.seq ?_
    refine J.reg_ hmix ([plain (Rep.is (.int .i64 ((k : Int)))), plain (Rep.is (.int .i64 ((k : Int))))]) (by kernel_rfl) rfl ⟨OpG.none_ rfl (op_move rfl (Ent.refl _)), OpG.none_ rfl (op_assign rfl (Ent.refl _)), trivial⟩ rfl ?_
    refine E.next ?_
    refine J.regL (is := [0, 1, 2, 3, 4, 5, 6, 7, 8, 9]) rfl ?_
    refine JO.plain (R := Rep.is (sb b1 8)) rfl rfl rfl (Nat.le_of_ble_eq_true rfl) (op_move rfl (Ent.refl _)) ?_
    refine JO.plain (R := Rep.is (.int .i64 ((k : Int)))) rfl rfl rfl (Nat.le_of_ble_eq_true rfl) (op_move rfl (Ent.refl _)) ?_
    refine JO.plain (R := Rep.is (.int .i64 (7 - (k : Int)))) rfl rfl rfl (Nat.le_of_ble_eq_true rfl) (g_sub rfl (Ent.refl _) (Ent.refl _) (by first | omega | (simp only [vs0, vs1, decide_eq_true_eq, decide_eq_false_iff_not, Bool.not_eq_true, Bool.not_eq_false, Decidable.not_not] at *; omega) | (simp [vs0, vs1, decide_eq_true_eq, decide_eq_false_iff_not, Bool.not_eq_true, Bool.not_eq_false, Decidable.not_not] at *; omega))) ?_
    refine JO.plain (R := Rep.is (.int .i64 (v))) rfl rfl rfl (Nat.le_of_ble_eq_true rfl) (op_move rfl (Ent.refl _)) ?_
    refine JO.plain (R := Rep.is (.int .i64 ((k : Int)))) rfl rfl rfl (Nat.le_of_ble_eq_true rfl) (op_move rfl (Ent.refl _)) ?_
    refine JO.plain (R := Rep.is (.int .i64 (8 * (k : Int)))) rfl rfl rfl (Nat.le_of_ble_eq_true rfl) (g_mul rfl (Ent.refl _) (Ent.refl _) (by first | omega | (simp only [vs0, vs1, decide_eq_true_eq, decide_eq_false_iff_not, Bool.not_eq_true, Bool.not_eq_false, Decidable.not_not] at *; omega) | (simp [vs0, vs1, decide_eq_true_eq, decide_eq_false_iff_not, Bool.not_eq_true, Bool.not_eq_false, Decidable.not_not] at *; omega))) ?_
    refine JO.plain (R := Rep.is (.int .i64 (v / 2 ^ ((8 * (k : Int) : Int)).toNat))) rfl rfl rfl (Nat.le_of_ble_eq_true rfl) (op_shr rfl (Ent.refl _) (Ent.refl _) (show 0 ≤ (8 * (k : Int) : Int) ∧ (8 * (k : Int) : Int) ≤ 64 from by first | omega | (simp only [vs0, vs1, decide_eq_true_eq, decide_eq_false_iff_not, Bool.not_eq_true, Bool.not_eq_false, Decidable.not_not] at *; omega) | (simp [vs0, vs1, decide_eq_true_eq, decide_eq_false_iff_not, Bool.not_eq_true, Bool.not_eq_false, Decidable.not_not] at *; omega))) ?_
    refine JO.plain (R := Rep.is (.int .u8 (IntKind.u8.wrap (v / 2 ^ ((8 * (k : Int) : Int)).toNat)))) rfl rfl rfl (Nat.le_of_ble_eq_true rfl) (op_conv rfl (Ent.refl _) (by kernel_rfl) un5) ?_
    refine JO.plain (R := Rep.is (pb b1 (((7 - (k : Int)).toNat) * 1))) rfl rfl rfl (Nat.le_of_ble_eq_true rfl) (op_indexB (j := (7 - (k : Int)).toNat) rfl sl35 (Ent.refl _) ((Ent.refl _).trans (ent_i (by first | rfl | omega | (simp only [vs0, vs1, decide_eq_true_eq, decide_eq_false_iff_not, Bool.not_eq_true, Bool.not_eq_false, Decidable.not_not] at *; omega)))) (by first | omega | (simp only [vs0, vs1, decide_eq_true_eq, decide_eq_false_iff_not, Bool.not_eq_true, Bool.not_eq_false, Decidable.not_not] at *; omega) | (simp [vs0, vs1, decide_eq_true_eq, decide_eq_false_iff_not, Bool.not_eq_true, Bool.not_eq_false, Decidable.not_not] at *; omega))) ?_
    refine JO.store (f := (kArr 8 kU8).fp (nums k v)) (f' := (kArr 8 kU8).fp ((nums k v).set ((7 - (k : Int)).toNat) (u8w (IntKind.u8.wrap (v / 2 ^ ((8 * (k : Int) : Int)).toNat))))) (g := kU8.fp (u8w (IntKind.u8.wrap (v / 2 ^ ((8 * (k : Int) : Int)).toNat)))) rfl rfl rfl rfl (Ent.refl _) (((Ent.refl _).trans (u8w_bv _)).trans (u8_rep _)) ld5.2 (Turn.arr (k := kU8) (n := 8) (xs := nums k v) (j := (7 - (k : Int)).toNat) (y := u8w (IntKind.u8.wrap (v / 2 ^ ((8 * (k : Int) : Int)).toNat))) (by first | omega | (simp only [vs0, vs1, decide_eq_true_eq, decide_eq_false_iff_not, Bool.not_eq_true, Bool.not_eq_false, Decidable.not_not] at *; omega) | (simp [vs0, vs1, decide_eq_true_eq, decide_eq_false_iff_not, Bool.not_eq_true, Bool.not_eq_false, Decidable.not_not] at *; omega))) ?_
    refine JO.nil ?_
    refine E.blockEnd ?_
    refine E.next ?_
    refine J.reg_ hmix ([plain (Rep.is (.int .i64 ((k : Int) + 1))), plain (Rep.is (.int .i64 ((k : Int) + 1)))]) (by kernel_rfl) rfl ⟨OpG.none_ rfl (g_add rfl (Ent.refl _) (Ent.refl _) (by first | omega | (simp only [vs0, vs1, decide_eq_true_eq, decide_eq_false_iff_not, Bool.not_eq_true, Bool.not_eq_false, Decidable.not_not] at *; omega) | (simp [vs0, vs1, decide_eq_true_eq, decide_eq_false_iff_not, Bool.not_eq_true, Bool.not_eq_false, Decidable.not_not] at *; omega))), OpG.none_ rfl (op_move rfl (Ent.refl _)), trivial⟩ rfl ?_
    have how2 : (nums k v).set ((7 - (k : Int)).toNat) (u8w (IntKind.u8.wrap (v / 2 ^ ((8 * (k : Int) : Int)).toNat))) = nums (k + 1) v := by (have : (7 - (k : Int)).toNat = 7 - k := by omega); (have h8 : (8 * (k : Int)).toNat = 8 * k := by omega); rw [this, h8, u8w_wrap]; exact nums_step k v (by omega)
    exact E.again (k + 1) (by first | rfl | (rw [how2]; done) | (simp only [how2]; done) | (simp; done)) (by omega) (by omega) (by exact (Sub.upd (Sub.upd (Sub.upd (Sub.upd (Sub.upd (Sub.top _) 0 (Ent.refl _)) 2 (Ent.refl _)) 3 (Ent.refl _)) 7 (Ent.refl _)) 8 (ent_i (by first | rfl | (simp; done) | omega | (simp only [vs0, vs1, decide_eq_true_eq, decide_eq_false_iff_not, Bool.not_eq_true, Bool.not_eq_false, Decidable.not_not] at *; omega) | (simp [vs0, vs1, decide_eq_true_eq, decide_eq_false_iff_not, Bool.not_eq_true, Bool.not_eq_false, Decidable.not_not, *]; done)))))
  ·
    try simp only [vb0, decide_eq_true_eq, decide_eq_false_iff_not, Bool.not_eq_true, Bool.not_eq_false, Decidable.not_not] at hc0
    refine J.exit ?_
    refine E.passX ?_
    refine E.passX ?_
    refine E.hit ?_
    refine E.next ?_
    refine J.seq ?_
    refine J.reg_ hmix ([plain (Rep.is (sb b1 8)), plain (Rep.is (sb b1 8))]) (by kernel_rfl) rfl ⟨OpG.none_ rfl (op_move rfl (Ent.refl _)), OpG.none_ rfl (op_assign rfl (Ent.refl _)), trivial⟩ rfl ?_
    refine E.next ?_
    refine J.ret ?_
    refine E.pubS (s := 2) (Ent.refl _) (by decide) ?_
    exact E.ret1 rfl (ent_v (k := (kSl kU8)) (a := nums k v) (b := num8 v) (by (have := hl0; have h8 : k = 8 := by omega); subst h8; exact nums_all v))
-- sealery/pack.Int
theorem pack_Int_ct (b : List UInt8) (v : Int) (hb : b.length + 8 ≤ 35184372088832) : Ct Tryz.prog 118 [(kSl kU8).rep (b), Rep.is (.int .i64 (v))] ((kSl kU8).rep (b ++ num8 v)) := by
  refine CtG.of Tryz.func118 rfl rfl (Nat.le_of_ble_eq_true rfl) (fun w0 h0 hp => ?_)
  refine J.len (s := 0) (k := kU8) (xs := b) (Ent.refl _) (fun hlen_0 => ?_)
  refine J.seq ?_
  refine J.reg_ hmix ([plain (Rep.is (.slice none 0 0))]) (by kernel_rfl) rfl ⟨OpG.none_ rfl (op_assign rfl (Ent.refl _)), trivial⟩ rfl ?_
  refine E.next ?_
  refine J.seq ?_
  refine J.reg_ hmix ([plain ((kSl kU8).rep (b)), plain (Rep.is (.int .i64 (v))), plain ((kSl kU8).rep (num8 v)), plain ((kSl kU8).rep (b ++ (num8 v))), plain ((kSl kU8).rep (b ++ (num8 v)))]) (by kernel_rfl) rfl ⟨OpG.none_ rfl (op_move rfl (Ent.refl _)), OpG.none_ rfl (op_move rfl (Ent.refl _)), OpG.none_ rfl (g_call rfl en148 (pack_number_ct v) ⟨(Ent.refl _), trivial⟩), OpG.none_ rfl (g_call rfl en119 (laid_l_ct b (num8 v) (by first | omega | (simp only [vs0, vs1, decide_eq_true_eq, decide_eq_false_iff_not, Bool.not_eq_true, Bool.not_eq_false, Decidable.not_not] at *; omega) | (simp [vs0, vs1, decide_eq_true_eq, decide_eq_false_iff_not, Bool.not_eq_true, Bool.not_eq_false, Decidable.not_not] at *; omega))) ⟨(Ent.refl _), (Ent.refl _), trivial⟩), OpG.none_ rfl (op_assign rfl (Ent.refl _)), trivial⟩ rfl ?_
  refine E.next ?_
  refine J.ret ?_
  exact E.ret1 rfl (ent_v (k := (kSl kU8)) (a := b ++ (num8 v)) (b := b ++ num8 v) (by first | rfl | (simp; done) | omega | (simp only [vs0, vs1, decide_eq_true_eq, decide_eq_false_iff_not, Bool.not_eq_true, Bool.not_eq_false, Decidable.not_not] at *; omega) | (simp [vs0, vs1, decide_eq_true_eq, decide_eq_false_iff_not, Bool.not_eq_true, Bool.not_eq_false, Decidable.not_not, *]; done)))
-- sealery/pack.Blob
theorem pack_Blob_ct (b : List UInt8) (p : List UInt8) (hb : b.length + (8 + p.length) ≤ 35184372088832) : Ct Tryz.prog 49 [(kSl kU8).rep (b), (kSl kU8).rep (p)] ((kSl kU8).rep (b ++ blob p)) := by
  refine CtG.of Tryz.func49 rfl rfl (Nat.le_of_ble_eq_true rfl) (fun w0 h0 hp => ?_)
  refine J.len (s := 0) (k := kU8) (xs := b) (Ent.refl _) (fun hlen_0 => ?_)
  refine J.len (s := 1) (k := kU8) (xs := p) (Ent.refl _) (fun hlen_1 => ?_)
  refine J.seq ?_
  refine J.reg_ hmix ([plain (Rep.is (.slice none 0 0))]) (by kernel_rfl) rfl ⟨OpG.none_ rfl (op_assign rfl (Ent.refl _)), trivial⟩ rfl ?_
  refine E.next ?_
  refine J.seq ?_
  refine J.reg_ hmix ([plain ((kSl kU8).rep (b)), plain ((kSl kU8).rep (p)), plain (Rep.is (.int .i64 (((p).length : Int)))), plain ((kSl kU8).rep (b ++ num8 ((p).length : Int))), plain ((kSl kU8).rep (p)), plain ((kSl kU8).rep ((b ++ num8 ((p).length : Int)) ++ p)), plain ((kSl kU8).rep ((b ++ num8 ((p).length : Int)) ++ p))]) (by kernel_rfl) rfl ⟨OpG.none_ rfl (op_move rfl (Ent.refl _)), OpG.none_ rfl (op_move rfl (Ent.refl _)), OpG.none_ rfl (g_len rfl sl35 (Ent.refl _)), OpG.none_ rfl (g_call rfl en118 (pack_Int_ct b ((p).length : Int) (by first | omega | (simp only [vs0, vs1, decide_eq_true_eq, decide_eq_false_iff_not, Bool.not_eq_true, Bool.not_eq_false, Decidable.not_not] at *; omega) | (simp [vs0, vs1, decide_eq_true_eq, decide_eq_false_iff_not, Bool.not_eq_true, Bool.not_eq_false, Decidable.not_not] at *; omega))) ⟨(Ent.refl _), (Ent.refl _), trivial⟩), OpG.none_ rfl (op_move rfl (Ent.refl _)), OpG.none_ rfl (g_call rfl en119 (laid_l_ct (b ++ num8 ((p).length : Int)) p (by first | omega | (simp only [vs0, vs1, decide_eq_true_eq, decide_eq_false_iff_not, Bool.not_eq_true, Bool.not_eq_false, Decidable.not_not] at *; omega) | (simp [vs0, vs1, decide_eq_true_eq, decide_eq_false_iff_not, Bool.not_eq_true, Bool.not_eq_false, Decidable.not_not] at *; omega))) ⟨(Ent.refl _), (Ent.refl _), trivial⟩), OpG.none_ rfl (op_assign rfl (Ent.refl _)), trivial⟩ rfl ?_
  refine E.next ?_
  refine J.ret ?_
  exact E.ret1 rfl (ent_v (k := (kSl kU8)) (a := (b ++ num8 ((p).length : Int)) ++ p) (b := b ++ blob p) (by simp [blob]))
-- sealery/pack.Text
theorem pack_Text_ct (b : List UInt8) (s : ByteArray) (hb : b.length + (8 + s.size) ≤ 35184372088832) : Ct Tryz.prog 115 [(kSl kU8).rep (b), Rep.is (.string (s))] ((kSl kU8).rep (b ++ txt s)) := by
  refine CtG.of Tryz.func115 rfl rfl (Nat.le_of_ble_eq_true rfl) (fun w0 h0 hp => ?_)
  refine J.len (s := 0) (k := kU8) (xs := b) (Ent.refl _) (fun hlen_0 => ?_)
  refine J.seq ?_
  refine J.reg_ hmix ([plain (Rep.is (.slice none 0 0))]) (by kernel_rfl) rfl ⟨OpG.none_ rfl (op_assign rfl (Ent.refl _)), trivial⟩ rfl ?_
  refine E.next ?_
  refine J.seq ?_
  refine J.reg_ hmix ([plain ((kSl kU8).rep (b)), plain (Rep.is (.string (s))), plain (Rep.is (.int .i64 (((s).size : Int)))), plain ((kSl kU8).rep (b ++ num8 ((s).size : Int))), plain (Rep.is (.string (s))), plain ((kSl kU8).rep ((b ++ num8 ((s).size : Int)) ++ s.data.toList)), plain ((kSl kU8).rep ((b ++ num8 ((s).size : Int)) ++ s.data.toList))]) (by kernel_rfl) rfl ⟨OpG.none_ rfl (op_move rfl (Ent.refl _)), OpG.none_ rfl (op_move rfl (Ent.refl _)), OpG.none_ rfl (op_lens rfl (Ent.refl _) un9), OpG.none_ rfl (g_call rfl en118 (pack_Int_ct b ((s).size : Int) (by first | omega | (simp only [vs0, vs1, decide_eq_true_eq, decide_eq_false_iff_not, Bool.not_eq_true, Bool.not_eq_false, Decidable.not_not] at *; omega) | (simp [vs0, vs1, decide_eq_true_eq, decide_eq_false_iff_not, Bool.not_eq_true, Bool.not_eq_false, Decidable.not_not] at *; omega))) ⟨(Ent.refl _), (Ent.refl _), trivial⟩), OpG.none_ rfl (op_move rfl (Ent.refl _)), OpG.none_ rfl (g_call rfl en146 (laid_s_ct (b ++ num8 ((s).size : Int)) s (by first | omega | (simp only [vs0, vs1, decide_eq_true_eq, decide_eq_false_iff_not, Bool.not_eq_true, Bool.not_eq_false, Decidable.not_not] at *; omega) | (simp [vs0, vs1, decide_eq_true_eq, decide_eq_false_iff_not, Bool.not_eq_true, Bool.not_eq_false, Decidable.not_not] at *; omega))) ⟨(Ent.refl _), (Ent.refl _), trivial⟩), OpG.none_ rfl (op_assign rfl (Ent.refl _)), trivial⟩ rfl ?_
  refine E.next ?_
  refine J.ret ?_
  exact E.ret1 rfl (ent_v (k := (kSl kU8)) (a := (b ++ num8 ((s).size : Int)) ++ s.data.toList) (b := b ++ txt s) (by simp [txt]))
-- sealery/pack.Sum
theorem pack_Sum_ct (b : List UInt8) (s : List UInt8) (hb : b.length + s.length ≤ 35184372088832) : Ct Tryz.prog 77 [(kSl kU8).rep (b), (kArr 32 kU8).rep (s)] ((kSl kU8).rep (b ++ s)) := by
  refine CtG.of Tryz.func77 rfl rfl (Nat.le_of_ble_eq_true rfl) (fun w0 h0 hp => ?_)
  refine J.len (s := 0) (k := kU8) (xs := b) (Ent.refl _) (fun hlen_0 => ?_)
  refine J.seq ?_
  refine J.reg_ hmix ([plain (ptr ((kArr 32 kU8).fp (s))), plain (Rep.is (.slice none 0 0))]) (by kernel_rfl) rfl ⟨OpG.none_ rfl (op_box (f := (kArr 32 kU8).fp (s)) rfl (Ent.refl _)), OpG.none_ rfl (op_assign rfl (Ent.refl _)), trivial⟩ rfl ?_
  refine E.next ?_
  refine J.seq ?_
  refine J.reg_ hmix ([plain ((kSl kU8).rep (b)), plain ((kSl kU8).rep (s)), plain ((kSl kU8).rep (b ++ s)), plain ((kSl kU8).rep (b ++ s))]) (by kernel_rfl) rfl ⟨OpG.none_ rfl (op_move rfl (Ent.refl _)), OpG.none_ rfl (op_cutA rfl ar24 (Ent.refl _) (by decide)), OpG.none_ rfl (g_call rfl en119 (laid_l_ct b s (by first | omega | (simp only [vs0, vs1, decide_eq_true_eq, decide_eq_false_iff_not, Bool.not_eq_true, Bool.not_eq_false, Decidable.not_not] at *; omega) | (simp [vs0, vs1, decide_eq_true_eq, decide_eq_false_iff_not, Bool.not_eq_true, Bool.not_eq_false, Decidable.not_not] at *; omega))) ⟨(Ent.refl _), (Ent.refl _), trivial⟩), OpG.none_ rfl (op_assign rfl (Ent.refl _)), trivial⟩ rfl ?_
  refine E.next ?_
  refine J.ret ?_
  exact E.ret1 rfl (Ent.refl _)
-- sealery/command.ints
theorem command_ints_ct (b : List UInt8) (l : List Int) (hb : b.length + 8 * l.length ≤ 35184372088832) : Ct Tryz.prog 47 [(kSl kU8).rep (b), (kSl (kI .i64)).rep (l)] ((kSl kU8).rep (b ++ l.flatMap num8)) := by
  refine CtG.of Tryz.func47 rfl rfl (Nat.le_of_ble_eq_true rfl) (fun w0 h0 hp => ?_)
  refine J.len (s := 0) (k := kU8) (xs := b) (Ent.refl _) (fun hlen_0 => ?_)
  refine J.len (s := 1) (k := (kI .i64)) (xs := l) (Ent.refl _) (fun hlen_1 => ?_)
  refine J.seq ?_
  refine J.reg_ hmix ([plain (Rep.is (.slice none 0 0))]) (by kernel_rfl) rfl ⟨OpG.none_ rfl (op_assign rfl (Ent.refl _)), trivial⟩ rfl ?_
  refine E.next ?_
  refine J.seq ?_
  refine J.seq ?_
  refine J.reg_ hmix ([plain ((kSl (kI .i64)).rep (l)), plain (Rep.is (.int .i64 (((l).length : Int)))), plain (Rep.is (.int .i64 (0)))]) (by kernel_rfl) rfl ⟨OpG.none_ rfl (op_move rfl (Ent.refl _)), OpG.none_ rfl (g_len rfl sl63 (Ent.refl _)), OpG.none_ rfl (op_move rfl (Ent.refl _)), trivial⟩ rfl ?_
  refine E.next ?_
  refine J.block ?_
  refine J.loop (ι := Nat) (fun i_ => (upd (upd (upd (upd (upd top 0 ((kSl kU8).rep (b ++ (l.take i_).flatMap num8))) 4 (Rep.is (.slice none 0 0))) 7 ((kSl (kI .i64)).rep (l))) 8 (Rep.is (.int .i64 (((l).length : Int))))) 9 (Rep.is (.int .i64 ((i_ : Int)))))) (fun i_ => []) (fun i_ => i_ ≤ l.length) (fun i_ => l.length - i_) (0) (by first | rfl | (simp; done)) (by first | omega | (simp [vs0, vs1, decide_eq_true_eq, decide_eq_false_iff_not, Bool.not_eq_true, Bool.not_eq_false, Decidable.not_not, *]; done) | (simp [vs0, vs1, decide_eq_true_eq, decide_eq_false_iff_not, Bool.not_eq_true, Bool.not_eq_false, Decidable.not_not, *]; omega)) (by exact (Sub.upd (Sub.upd (Sub.upd (Sub.upd (Sub.upd (Sub.top _) 0 (ent_v (k := (kSl kU8)) (a := b) (b := b ++ (l.take 0).flatMap num8) (by simp))) 4 (Ent.refl _)) 7 (Ent.refl _)) 8 (Ent.refl _)) 9 (ent_i (by first | rfl | (simp; done) | omega | (simp only [vs0, vs1, decide_eq_true_eq, decide_eq_false_iff_not, Bool.not_eq_true, Bool.not_eq_false, Decidable.not_not] at *; omega) | (simp [vs0, vs1, decide_eq_true_eq, decide_eq_false_iff_not, Bool.not_eq_true, Bool.not_eq_false, Decidable.not_not, *]; done))))) ?_
  rintro k hl0
  skip
  refine J.seq ?_
  refine J.reg_ hmix ([plain (Rep.is (.bool (decide ((k : Int) < ((l).length : Int)))))]) (by kernel_rfl) rfl ⟨OpG.none_ rfl (op_lss rfl (Ent.refl _) (Ent.refl _)), trivial⟩ rfl ?_
  refine E.next ?_
  refine J.seq ?_
  refine J.cond (B := decide ((k : Int) < ((l).length : Int))) (Ent.refl _) (fun hc0 => ?_) (fun hc0 => ?_)
  ·
    try simp only [vb0, decide_eq_true_eq, decide_eq_false_iff_not, Bool.not_eq_true, Bool.not_eq_false, Decidable.not_not] at hc0
    refine J.skip ?_
    refine E.next ?_
    refine J.seq ?_
    refine J.block ?_
    refine J.seq ?_
    refine J.reg_ hmix ([plain (ptr ((kI .i64).fp (l.getD k 0))), plain (Rep.is (.int .i64 (l.getD k 0))), plain (Rep.is (.int .i64 (l.getD k 0)))]) (by kernel_rfl) rfl ⟨OpG.none_ rfl (g_index (i := (k : Int)) (d := 0) rfl sl63 (Ent.refl _) (Ent.refl _) (by first | omega | (simp only [vs0, vs1, decide_eq_true_eq, decide_eq_false_iff_not, Bool.not_eq_true, Bool.not_eq_false, Decidable.not_not] at *; omega) | (simp [vs0, vs1, decide_eq_true_eq, decide_eq_false_iff_not, Bool.not_eq_true, Bool.not_eq_false, Decidable.not_not] at *; omega))), OpG.none_ rfl (g_loadI rfl ld3 (Ent.refl _)), OpG.none_ rfl (op_assign rfl (Ent.refl _)), trivial⟩ rfl ?_
    refine E.next ?_
    refine J.reg_ hmix ([plain ((kSl kU8).rep (b ++ (l.take k).flatMap num8)), plain (Rep.is (.int .i64 (l.getD k 0))), plain ((kSl kU8).rep ((b ++ (l.take k).flatMap num8) ++ num8 (l.getD k 0))), plain ((kSl kU8).rep ((b ++ (l.take k).flatMap num8) ++ num8 (l.getD k 0)))]) (by kernel_rfl) rfl ⟨OpG.none_ rfl (op_move rfl (Ent.refl _)), OpG.none_ rfl (op_move rfl (Ent.refl _)), OpG.none_ rfl (g_call rfl en118 (pack_Int_ct (b ++ (l.take k).flatMap num8) (l.getD k 0) (by first | omega | (simp only [vs0, vs1, decide_eq_true_eq, decide_eq_false_iff_not, Bool.not_eq_true, Bool.not_eq_false, Decidable.not_not] at *; omega) | (simp [vs0, vs1, decide_eq_true_eq, decide_eq_false_iff_not, Bool.not_eq_true, Bool.not_eq_false, Decidable.not_not] at *; omega))) ⟨(Ent.refl _), (Ent.refl _), trivial⟩), OpG.none_ rfl (op_assign rfl (Ent.refl _)), trivial⟩ rfl ?_
    refine E.blockEnd ?_
    refine E.next ?_
    refine J.reg_ hmix ([plain (Rep.is (.int .i64 ((k : Int) + 1))), plain (Rep.is (.int .i64 ((k : Int) + 1)))]) (by kernel_rfl) rfl ⟨OpG.none_ rfl (g_add rfl (Ent.refl _) (Ent.refl _) (by first | omega | (simp only [vs0, vs1, decide_eq_true_eq, decide_eq_false_iff_not, Bool.not_eq_true, Bool.not_eq_false, Decidable.not_not] at *; omega) | (simp [vs0, vs1, decide_eq_true_eq, decide_eq_false_iff_not, Bool.not_eq_true, Bool.not_eq_false, Decidable.not_not] at *; omega))), OpG.none_ rfl (op_move rfl (Ent.refl _)), trivial⟩ rfl ?_
    exact E.again (k + 1) (by first | rfl | (simp; done)) (by omega) (by omega) (by exact (Sub.upd (Sub.upd (Sub.upd (Sub.upd (Sub.upd (Sub.top _) 0 (ent_v (k := (kSl kU8)) (a := (b ++ (l.take k).flatMap num8) ++ num8 (l.getD k 0)) (b := b ++ (l.take (k + 1)).flatMap num8) (by rw [List.append_assoc, ← flat_step num8 l k 0 (by omega)]))) 4 (Ent.refl _)) 7 (Ent.refl _)) 8 (Ent.refl _)) 9 (ent_i (by first | rfl | (simp; done) | omega | (simp only [vs0, vs1, decide_eq_true_eq, decide_eq_false_iff_not, Bool.not_eq_true, Bool.not_eq_false, Decidable.not_not] at *; omega) | (simp [vs0, vs1, decide_eq_true_eq, decide_eq_false_iff_not, Bool.not_eq_true, Bool.not_eq_false, Decidable.not_not, *]; done)))))
  ·
    try simp only [vb0, decide_eq_true_eq, decide_eq_false_iff_not, Bool.not_eq_true, Bool.not_eq_false, Decidable.not_not] at hc0
    refine J.exit ?_
    refine E.passX ?_
    refine E.passX ?_
    refine E.hit ?_
    refine E.next ?_
    refine J.seq ?_
    refine J.reg_ hmix ([plain ((kSl kU8).rep (b ++ (l.take k).flatMap num8)), plain ((kSl kU8).rep (b ++ (l.take k).flatMap num8))]) (by kernel_rfl) rfl ⟨OpG.none_ rfl (op_move rfl (Ent.refl _)), OpG.none_ rfl (op_assign rfl (Ent.refl _)), trivial⟩ rfl ?_
    refine E.next ?_
    refine J.ret ?_
    exact E.ret1 rfl (ent_v (k := (kSl kU8)) (a := b ++ (l.take k).flatMap num8) (b := b ++ l.flatMap num8) (by (have := hl0; have h8 : k = l.length := by omega); subst h8; rw [List.take_length]))
-- sealery/token.ints
theorem token_ints_ct (b : List UInt8) (l : List Int) (hb : b.length + 8 * l.length ≤ 35184372088832) : Ct Tryz.prog 116 [(kSl kU8).rep (b), (kSl (kI .i64)).rep (l)] ((kSl kU8).rep (b ++ l.flatMap num8)) := by
  refine CtG.of Tryz.func116 rfl rfl (Nat.le_of_ble_eq_true rfl) (fun w0 h0 hp => ?_)
  refine J.len (s := 0) (k := kU8) (xs := b) (Ent.refl _) (fun hlen_0 => ?_)
  refine J.len (s := 1) (k := (kI .i64)) (xs := l) (Ent.refl _) (fun hlen_1 => ?_)
  refine J.seq ?_
  refine J.reg_ hmix ([plain (Rep.is (.slice none 0 0))]) (by kernel_rfl) rfl ⟨OpG.none_ rfl (op_assign rfl (Ent.refl _)), trivial⟩ rfl ?_
  refine E.next ?_
  refine J.seq ?_
  refine J.seq ?_
  refine J.reg_ hmix ([plain ((kSl (kI .i64)).rep (l)), plain (Rep.is (.int .i64 (((l).length : Int)))), plain (Rep.is (.int .i64 (0)))]) (by kernel_rfl) rfl ⟨OpG.none_ rfl (op_move rfl (Ent.refl _)), OpG.none_ rfl (g_len rfl sl63 (Ent.refl _)), OpG.none_ rfl (op_move rfl (Ent.refl _)), trivial⟩ rfl ?_
  refine E.next ?_
  refine J.block ?_
  refine J.loop (ι := Nat) (fun i_ => (upd (upd (upd (upd (upd top 0 ((kSl kU8).rep (b ++ (l.take i_).flatMap num8))) 4 (Rep.is (.slice none 0 0))) 7 ((kSl (kI .i64)).rep (l))) 8 (Rep.is (.int .i64 (((l).length : Int))))) 9 (Rep.is (.int .i64 ((i_ : Int)))))) (fun i_ => []) (fun i_ => i_ ≤ l.length) (fun i_ => l.length - i_) (0) (by first | rfl | (simp; done)) (by first | omega | (simp [vs0, vs1, decide_eq_true_eq, decide_eq_false_iff_not, Bool.not_eq_true, Bool.not_eq_false, Decidable.not_not, *]; done) | (simp [vs0, vs1, decide_eq_true_eq, decide_eq_false_iff_not, Bool.not_eq_true, Bool.not_eq_false, Decidable.not_not, *]; omega)) (by exact (Sub.upd (Sub.upd (Sub.upd (Sub.upd (Sub.upd (Sub.top _) 0 (ent_v (k := (kSl kU8)) (a := b) (b := b ++ (l.take 0).flatMap num8) (by simp))) 4 (Ent.refl _)) 7 (Ent.refl _)) 8 (Ent.refl _)) 9 (ent_i (by first | rfl | (simp; done) | omega | (simp only [vs0, vs1, decide_eq_true_eq, decide_eq_false_iff_not, Bool.not_eq_true, Bool.not_eq_false, Decidable.not_not] at *; omega) | (simp [vs0, vs1, decide_eq_true_eq, decide_eq_false_iff_not, Bool.not_eq_true, Bool.not_eq_false, Decidable.not_not, *]; done))))) ?_
  rintro k hl0
  skip
  refine J.seq ?_
  refine J.reg_ hmix ([plain (Rep.is (.bool (decide ((k : Int) < ((l).length : Int)))))]) (by kernel_rfl) rfl ⟨OpG.none_ rfl (op_lss rfl (Ent.refl _) (Ent.refl _)), trivial⟩ rfl ?_
  refine E.next ?_
  refine J.seq ?_
  refine J.cond (B := decide ((k : Int) < ((l).length : Int))) (Ent.refl _) (fun hc0 => ?_) (fun hc0 => ?_)
  ·
    try simp only [vb0, decide_eq_true_eq, decide_eq_false_iff_not, Bool.not_eq_true, Bool.not_eq_false, Decidable.not_not] at hc0
    refine J.skip ?_
    refine E.next ?_
    refine J.seq ?_
    refine J.block ?_
    refine J.seq ?_
    refine J.reg_ hmix ([plain (ptr ((kI .i64).fp (l.getD k 0))), plain (Rep.is (.int .i64 (l.getD k 0))), plain (Rep.is (.int .i64 (l.getD k 0)))]) (by kernel_rfl) rfl ⟨OpG.none_ rfl (g_index (i := (k : Int)) (d := 0) rfl sl63 (Ent.refl _) (Ent.refl _) (by first | omega | (simp only [vs0, vs1, decide_eq_true_eq, decide_eq_false_iff_not, Bool.not_eq_true, Bool.not_eq_false, Decidable.not_not] at *; omega) | (simp [vs0, vs1, decide_eq_true_eq, decide_eq_false_iff_not, Bool.not_eq_true, Bool.not_eq_false, Decidable.not_not] at *; omega))), OpG.none_ rfl (g_loadI rfl ld3 (Ent.refl _)), OpG.none_ rfl (op_assign rfl (Ent.refl _)), trivial⟩ rfl ?_
    refine E.next ?_
    refine J.reg_ hmix ([plain ((kSl kU8).rep (b ++ (l.take k).flatMap num8)), plain (Rep.is (.int .i64 (l.getD k 0))), plain ((kSl kU8).rep ((b ++ (l.take k).flatMap num8) ++ num8 (l.getD k 0))), plain ((kSl kU8).rep ((b ++ (l.take k).flatMap num8) ++ num8 (l.getD k 0)))]) (by kernel_rfl) rfl ⟨OpG.none_ rfl (op_move rfl (Ent.refl _)), OpG.none_ rfl (op_move rfl (Ent.refl _)), OpG.none_ rfl (g_call rfl en118 (pack_Int_ct (b ++ (l.take k).flatMap num8) (l.getD k 0) (by first | omega | (simp only [vs0, vs1, decide_eq_true_eq, decide_eq_false_iff_not, Bool.not_eq_true, Bool.not_eq_false, Decidable.not_not] at *; omega) | (simp [vs0, vs1, decide_eq_true_eq, decide_eq_false_iff_not, Bool.not_eq_true, Bool.not_eq_false, Decidable.not_not] at *; omega))) ⟨(Ent.refl _), (Ent.refl _), trivial⟩), OpG.none_ rfl (op_assign rfl (Ent.refl _)), trivial⟩ rfl ?_
    refine E.blockEnd ?_
    refine E.next ?_
    refine J.reg_ hmix ([plain (Rep.is (.int .i64 ((k : Int) + 1))), plain (Rep.is (.int .i64 ((k : Int) + 1)))]) (by kernel_rfl) rfl ⟨OpG.none_ rfl (g_add rfl (Ent.refl _) (Ent.refl _) (by first | omega | (simp only [vs0, vs1, decide_eq_true_eq, decide_eq_false_iff_not, Bool.not_eq_true, Bool.not_eq_false, Decidable.not_not] at *; omega) | (simp [vs0, vs1, decide_eq_true_eq, decide_eq_false_iff_not, Bool.not_eq_true, Bool.not_eq_false, Decidable.not_not] at *; omega))), OpG.none_ rfl (op_move rfl (Ent.refl _)), trivial⟩ rfl ?_
    exact E.again (k + 1) (by first | rfl | (simp; done)) (by omega) (by omega) (by exact (Sub.upd (Sub.upd (Sub.upd (Sub.upd (Sub.upd (Sub.top _) 0 (ent_v (k := (kSl kU8)) (a := (b ++ (l.take k).flatMap num8) ++ num8 (l.getD k 0)) (b := b ++ (l.take (k + 1)).flatMap num8) (by rw [List.append_assoc, ← flat_step num8 l k 0 (by omega)]))) 4 (Ent.refl _)) 7 (Ent.refl _)) 8 (Ent.refl _)) 9 (ent_i (by first | rfl | (simp; done) | omega | (simp only [vs0, vs1, decide_eq_true_eq, decide_eq_false_iff_not, Bool.not_eq_true, Bool.not_eq_false, Decidable.not_not] at *; omega) | (simp [vs0, vs1, decide_eq_true_eq, decide_eq_false_iff_not, Bool.not_eq_true, Bool.not_eq_false, Decidable.not_not, *]; done)))))
  ·
    try simp only [vb0, decide_eq_true_eq, decide_eq_false_iff_not, Bool.not_eq_true, Bool.not_eq_false, Decidable.not_not] at hc0
    refine J.exit ?_
    refine E.passX ?_
    refine E.passX ?_
    refine E.hit ?_
    refine E.next ?_
    refine J.seq ?_
    refine J.reg_ hmix ([plain ((kSl kU8).rep (b ++ (l.take k).flatMap num8)), plain ((kSl kU8).rep (b ++ (l.take k).flatMap num8))]) (by kernel_rfl) rfl ⟨OpG.none_ rfl (op_move rfl (Ent.refl _)), OpG.none_ rfl (op_assign rfl (Ent.refl _)), trivial⟩ rfl ?_
    refine E.next ?_
    refine J.ret ?_
    exact E.ret1 rfl (ent_v (k := (kSl kU8)) (a := b ++ (l.take k).flatMap num8) (b := b ++ l.flatMap num8) (by (have := hl0; have h8 : k = l.length := by omega); subst h8; rw [List.take_length]))
-- sealery/command.texts
theorem command_texts_ct (b : List UInt8) (l : List ByteArray) (hb : b.length + (l.flatMap txt).length ≤ 35184372088832) : Ct Tryz.prog 45 [(kSl kU8).rep (b), (kSl kS).rep (l)] ((kSl kU8).rep (b ++ l.flatMap txt)) := by
  refine CtG.of Tryz.func45 rfl rfl (Nat.le_of_ble_eq_true rfl) (fun w0 h0 hp => ?_)
  refine J.len (s := 0) (k := kU8) (xs := b) (Ent.refl _) (fun hlen_0 => ?_)
  refine J.len (s := 1) (k := kS) (xs := l) (Ent.refl _) (fun hlen_1 => ?_)
  refine J.seq ?_
  refine J.reg_ hmix ([plain (Rep.is (.slice none 0 0))]) (by kernel_rfl) rfl ⟨OpG.none_ rfl (op_assign rfl (Ent.refl _)), trivial⟩ rfl ?_
  refine E.next ?_
  refine J.seq ?_
  refine J.seq ?_
  refine J.reg_ hmix ([plain ((kSl kS).rep (l)), plain (Rep.is (.int .i64 (((l).length : Int)))), plain (Rep.is (.int .i64 (0)))]) (by kernel_rfl) rfl ⟨OpG.none_ rfl (op_move rfl (Ent.refl _)), OpG.none_ rfl (g_len rfl sl137 (Ent.refl _)), OpG.none_ rfl (op_move rfl (Ent.refl _)), trivial⟩ rfl ?_
  refine E.next ?_
  refine J.block ?_
  refine J.loop (ι := Nat) (fun i_ => (upd (upd (upd (upd (upd top 0 ((kSl kU8).rep (b ++ (l.take i_).flatMap txt))) 4 (Rep.is (.slice none 0 0))) 7 ((kSl kS).rep (l))) 8 (Rep.is (.int .i64 (((l).length : Int))))) 9 (Rep.is (.int .i64 ((i_ : Int)))))) (fun i_ => []) (fun i_ => i_ ≤ l.length) (fun i_ => l.length - i_) (0) (by first | rfl | (simp; done)) (by first | omega | (simp [vs0, vs1, decide_eq_true_eq, decide_eq_false_iff_not, Bool.not_eq_true, Bool.not_eq_false, Decidable.not_not, *]; done) | (simp [vs0, vs1, decide_eq_true_eq, decide_eq_false_iff_not, Bool.not_eq_true, Bool.not_eq_false, Decidable.not_not, *]; omega)) (by exact (Sub.upd (Sub.upd (Sub.upd (Sub.upd (Sub.upd (Sub.top _) 0 (ent_v (k := (kSl kU8)) (a := b) (b := b ++ (l.take 0).flatMap txt) (by simp))) 4 (Ent.refl _)) 7 (Ent.refl _)) 8 (Ent.refl _)) 9 (ent_i (by first | rfl | (simp; done) | omega | (simp only [vs0, vs1, decide_eq_true_eq, decide_eq_false_iff_not, Bool.not_eq_true, Bool.not_eq_false, Decidable.not_not] at *; omega) | (simp [vs0, vs1, decide_eq_true_eq, decide_eq_false_iff_not, Bool.not_eq_true, Bool.not_eq_false, Decidable.not_not, *]; done))))) ?_
  rintro k hl0
  skip
  refine J.seq ?_
  refine J.reg_ hmix ([plain (Rep.is (.bool (decide ((k : Int) < ((l).length : Int)))))]) (by kernel_rfl) rfl ⟨OpG.none_ rfl (op_lss rfl (Ent.refl _) (Ent.refl _)), trivial⟩ rfl ?_
  refine E.next ?_
  refine J.seq ?_
  refine J.cond (B := decide ((k : Int) < ((l).length : Int))) (Ent.refl _) (fun hc0 => ?_) (fun hc0 => ?_)
  ·
    try simp only [vb0, decide_eq_true_eq, decide_eq_false_iff_not, Bool.not_eq_true, Bool.not_eq_false, Decidable.not_not] at hc0
    have hle := flat_le txt l k ⟨#[]⟩ (by omega)
    refine J.skip ?_
    refine E.next ?_
    refine J.seq ?_
    refine J.block ?_
    refine J.seq ?_
    refine J.reg_ hmix ([plain (ptr (kS.fp (l.getD k (⟨#[]⟩ : ByteArray)))), plain (Rep.is (.string (l.getD k (⟨#[]⟩ : ByteArray)))), plain (Rep.is (.string (l.getD k (⟨#[]⟩ : ByteArray))))]) (by kernel_rfl) rfl ⟨OpG.none_ rfl (g_index (i := (k : Int)) (d := (⟨#[]⟩ : ByteArray)) rfl sl137 (Ent.refl _) (Ent.refl _) (by first | omega | (simp only [vs0, vs1, decide_eq_true_eq, decide_eq_false_iff_not, Bool.not_eq_true, Bool.not_eq_false, Decidable.not_not] at *; omega) | (simp [vs0, vs1, decide_eq_true_eq, decide_eq_false_iff_not, Bool.not_eq_true, Bool.not_eq_false, Decidable.not_not] at *; omega))), OpG.none_ rfl (g_loadS rfl ld9 (Ent.refl _)), OpG.none_ rfl (op_assign rfl (Ent.refl _)), trivial⟩ rfl ?_
    refine E.next ?_
    refine J.reg_ hmix ([plain ((kSl kU8).rep (b ++ (l.take k).flatMap txt)), plain (Rep.is (.string (l.getD k (⟨#[]⟩ : ByteArray)))), plain ((kSl kU8).rep ((b ++ (l.take k).flatMap txt) ++ txt (l.getD k (⟨#[]⟩ : ByteArray)))), plain ((kSl kU8).rep ((b ++ (l.take k).flatMap txt) ++ txt (l.getD k (⟨#[]⟩ : ByteArray))))]) (by kernel_rfl) rfl ⟨OpG.none_ rfl (op_move rfl (Ent.refl _)), OpG.none_ rfl (op_move rfl (Ent.refl _)), OpG.none_ rfl (g_call rfl en115 (pack_Text_ct (b ++ (l.take k).flatMap txt) (l.getD k (⟨#[]⟩ : ByteArray)) (by first | omega | (simp only [vs0, vs1, decide_eq_true_eq, decide_eq_false_iff_not, Bool.not_eq_true, Bool.not_eq_false, Decidable.not_not] at *; omega) | (simp [vs0, vs1, decide_eq_true_eq, decide_eq_false_iff_not, Bool.not_eq_true, Bool.not_eq_false, Decidable.not_not] at *; omega))) ⟨(Ent.refl _), (Ent.refl _), trivial⟩), OpG.none_ rfl (op_assign rfl (Ent.refl _)), trivial⟩ rfl ?_
    refine E.blockEnd ?_
    refine E.next ?_
    refine J.reg_ hmix ([plain (Rep.is (.int .i64 ((k : Int) + 1))), plain (Rep.is (.int .i64 ((k : Int) + 1)))]) (by kernel_rfl) rfl ⟨OpG.none_ rfl (g_add rfl (Ent.refl _) (Ent.refl _) (by first | omega | (simp only [vs0, vs1, decide_eq_true_eq, decide_eq_false_iff_not, Bool.not_eq_true, Bool.not_eq_false, Decidable.not_not] at *; omega) | (simp [vs0, vs1, decide_eq_true_eq, decide_eq_false_iff_not, Bool.not_eq_true, Bool.not_eq_false, Decidable.not_not] at *; omega))), OpG.none_ rfl (op_move rfl (Ent.refl _)), trivial⟩ rfl ?_
    exact E.again (k + 1) (by first | rfl | (simp; done)) (by omega) (by omega) (by exact (Sub.upd (Sub.upd (Sub.upd (Sub.upd (Sub.upd (Sub.top _) 0 (ent_v (k := (kSl kU8)) (a := (b ++ (l.take k).flatMap txt) ++ txt (l.getD k (⟨#[]⟩ : ByteArray))) (b := b ++ (l.take (k + 1)).flatMap txt) (by rw [List.append_assoc, ← flat_step txt l k ⟨#[]⟩ (by omega)]))) 4 (Ent.refl _)) 7 (Ent.refl _)) 8 (Ent.refl _)) 9 (ent_i (by first | rfl | (simp; done) | omega | (simp only [vs0, vs1, decide_eq_true_eq, decide_eq_false_iff_not, Bool.not_eq_true, Bool.not_eq_false, Decidable.not_not] at *; omega) | (simp [vs0, vs1, decide_eq_true_eq, decide_eq_false_iff_not, Bool.not_eq_true, Bool.not_eq_false, Decidable.not_not, *]; done)))))
  ·
    try simp only [vb0, decide_eq_true_eq, decide_eq_false_iff_not, Bool.not_eq_true, Bool.not_eq_false, Decidable.not_not] at hc0
    refine J.exit ?_
    refine E.passX ?_
    refine E.passX ?_
    refine E.hit ?_
    refine E.next ?_
    refine J.seq ?_
    refine J.reg_ hmix ([plain ((kSl kU8).rep (b ++ (l.take k).flatMap txt)), plain ((kSl kU8).rep (b ++ (l.take k).flatMap txt))]) (by kernel_rfl) rfl ⟨OpG.none_ rfl (op_move rfl (Ent.refl _)), OpG.none_ rfl (op_assign rfl (Ent.refl _)), trivial⟩ rfl ?_
    refine E.next ?_
    refine J.ret ?_
    exact E.ret1 rfl (ent_v (k := (kSl kU8)) (a := b ++ (l.take k).flatMap txt) (b := b ++ l.flatMap txt) (by (have := hl0; have h8 : k = l.length := by omega); subst h8; rw [List.take_length]))
-- sealery/token.one
theorem token_one_ct (is : Bool) : Ct Tryz.prog 147 [Rep.is (.bool (is))] (Rep.is (.int .i64 (bit is))) := by
  refine CtG.of Tryz.func147 rfl rfl (Nat.le_of_ble_eq_true rfl) (fun w0 h0 hp => ?_)
  refine J.seq ?_
  refine J.reg_ hmix ([plain (Rep.is (.int .i64 (0)))]) (by kernel_rfl) rfl ⟨OpG.none_ rfl (op_assign rfl (Ent.refl _)), trivial⟩ rfl ?_
  refine E.next ?_
  refine J.seq ?_
  refine J.seq ?_
  refine J.reg_ hmix ([plain (Rep.is (.bool (is)))]) (by kernel_rfl) rfl ⟨OpG.none_ rfl (op_move rfl (Ent.refl _)), trivial⟩ rfl ?_
  refine E.next ?_
  refine J.cond (B := is) (Ent.refl _) (fun hc0 => ?_) (fun hc0 => ?_)
  ·
    try simp only [vb0, decide_eq_true_eq, decide_eq_false_iff_not, Bool.not_eq_true, Bool.not_eq_false, Decidable.not_not] at hc0
    refine J.seq ?_
    refine J.reg_ hmix ([plain (Rep.is (.int .i64 (1)))]) (by kernel_rfl) rfl ⟨OpG.none_ rfl (op_assign rfl (Ent.refl _)), trivial⟩ rfl ?_
    refine E.next ?_
    refine J.ret ?_
    refine E.passR ?_
    exact E.ret1 rfl (ent_i (by simp [bit, hc0]))
  ·
    try simp only [vb0, decide_eq_true_eq, decide_eq_false_iff_not, Bool.not_eq_true, Bool.not_eq_false, Decidable.not_not] at hc0
    refine J.skip ?_
    refine E.next ?_
    refine J.seq ?_
    refine J.reg_ hmix ([plain (Rep.is (.int .i64 (0)))]) (by kernel_rfl) rfl ⟨OpG.none_ rfl (op_assign rfl (Ent.refl _)), trivial⟩ rfl ?_
    refine E.next ?_
    refine J.ret ?_
    exact E.ret1 rfl (ent_i (by simp [bit, hc0]))
-- sealery/token.bytesOf
theorem token_bytesOf_ct (b : List UInt8) (g : Grant) (hb : b.length + (32 + g.pre.size) ≤ 35184372088832) : Ct Tryz.prog 117 [(kSl kU8).rep (b), kGrant.rep (g)] ((kSl kU8).rep (b ++ grantB g)) := by
  refine CtG.of Tryz.func117 rfl rfl (Nat.le_of_ble_eq_true rfl) (fun w0 h0 hp => ?_)
  refine J.len (s := 0) (k := kU8) (xs := b) (Ent.refl _) (fun hlen_0 => ?_)
  refine J.seq ?_
  refine J.reg_ hmix ([plain (ptr (kGrant.fp (g))), plain (Rep.is (.slice none 0 0))]) (by kernel_rfl) rfl ⟨OpG.none_ rfl (op_box (f := kGrant.fp (g)) rfl (Ent.refl _)), OpG.none_ rfl (op_assign rfl (Ent.refl _)), trivial⟩ rfl ?_
  refine E.next ?_
  refine J.seq ?_
  refine J.reg_ hmix ([plain ((kSl kU8).rep (b)), plain (ptr ((kI .i64).fp (g.rts))), plain (Rep.is (.int .i64 (g.rts))), plain ((kSl (kI .i64)).rep ([g.rts])), plain ((kSl kU8).rep (b ++ ([g.rts]).flatMap num8)), plain (ptr (kS.fp (g.pre))), plain (Rep.is (.string (g.pre))), plain ((kSl kU8).rep ((b ++ ([g.rts]).flatMap num8) ++ txt g.pre)), plain (ptr (kB.fp (g.exa))), plain (Rep.is (.bool (g.exa))), plain (Rep.is (.int .i64 (bit g.exa))), plain (ptr ((kI .i64).fp (g.unt))), plain (Rep.is (.int .i64 (g.unt))), plain ((kSl (kI .i64)).rep ([bit g.exa, g.unt])), plain ((kSl kU8).rep (((b ++ ([g.rts]).flatMap num8) ++ txt g.pre) ++ ([bit g.exa, g.unt]).flatMap num8)), plain ((kSl kU8).rep (((b ++ ([g.rts]).flatMap num8) ++ txt g.pre) ++ ([bit g.exa, g.unt]).flatMap num8))]) (by kernel_rfl) rfl ⟨OpG.none_ rfl (op_move rfl (Ent.refl _)), OpG.none_ rfl (g_field (l := kGrantF (g)) rfl fa29_0 (fun _ _ e => e) rfl rfl (Ent.refl _)), OpG.none_ rfl (g_loadI rfl ld3 (Ent.refl _)), OpG.none_ rfl (op_slit (k := (kI .i64)) (xs := [g.rts]) rfl sl63.1 sl63.2 zt3 rfl rfl (by decide) (by decide) rfl ⟨_, (kI .i64).fp (g.rts), rfl, rfl, ((Ent.refl _).trans (int_rep _ _)), rfl, rfl⟩), OpG.none_ rfl (g_call rfl en116 (token_ints_ct b ([g.rts]) (by first | omega | (simp only [vs0, vs1, decide_eq_true_eq, decide_eq_false_iff_not, Bool.not_eq_true, Bool.not_eq_false, Decidable.not_not] at *; omega) | (simp [vs0, vs1, decide_eq_true_eq, decide_eq_false_iff_not, Bool.not_eq_true, Bool.not_eq_false, Decidable.not_not] at *; omega))) ⟨(Ent.refl _), (Ent.refl _), trivial⟩), OpG.none_ rfl (g_field (l := kGrantF (g)) rfl fa29_1 (fun _ _ e => e) rfl rfl (Ent.refl _)), OpG.none_ rfl (g_loadS rfl ld9 (Ent.refl _)), OpG.none_ rfl (g_call rfl en115 (pack_Text_ct (b ++ ([g.rts]).flatMap num8) g.pre (by first | omega | (simp only [vs0, vs1, decide_eq_true_eq, decide_eq_false_iff_not, Bool.not_eq_true, Bool.not_eq_false, Decidable.not_not] at *; omega) | (simp [vs0, vs1, decide_eq_true_eq, decide_eq_false_iff_not, Bool.not_eq_true, Bool.not_eq_false, Decidable.not_not] at *; omega))) ⟨(Ent.refl _), (Ent.refl _), trivial⟩), OpG.none_ rfl (g_field (l := kGrantF (g)) rfl fa29_2 (fun _ _ e => e) rfl rfl (Ent.refl _)), OpG.none_ rfl (g_loadB rfl ld4 (Ent.refl _)), OpG.none_ rfl (g_call rfl en147 (token_one_ct g.exa) ⟨(Ent.refl _), trivial⟩), OpG.none_ rfl (g_field (l := kGrantF (g)) rfl fa29_3 (fun _ _ e => e) rfl rfl (Ent.refl _)), OpG.none_ rfl (g_loadI rfl ld3 (Ent.refl _)), OpG.none_ rfl (op_slit (k := (kI .i64)) (xs := [bit g.exa, g.unt]) rfl sl63.1 sl63.2 zt3 rfl rfl (by decide) (by decide) rfl ⟨_, (kI .i64).fp (bit g.exa), rfl, rfl, ((Ent.refl _).trans (int_rep _ _)), rfl, _, (kI .i64).fp (g.unt), rfl, rfl, ((Ent.refl _).trans (int_rep _ _)), rfl, rfl⟩), OpG.none_ rfl (g_call rfl en116 (token_ints_ct ((b ++ ([g.rts]).flatMap num8) ++ txt g.pre) ([bit g.exa, g.unt]) (by first | omega | (simp only [vs0, vs1, decide_eq_true_eq, decide_eq_false_iff_not, Bool.not_eq_true, Bool.not_eq_false, Decidable.not_not] at *; omega) | (simp [vs0, vs1, decide_eq_true_eq, decide_eq_false_iff_not, Bool.not_eq_true, Bool.not_eq_false, Decidable.not_not] at *; omega))) ⟨(Ent.refl _), (Ent.refl _), trivial⟩), OpG.none_ rfl (op_assign rfl (Ent.refl _)), trivial⟩ rfl ?_
  refine E.next ?_
  refine J.ret ?_
  exact E.ret1 rfl (ent_v (k := (kSl kU8)) (a := ((b ++ ([g.rts]).flatMap num8) ++ txt g.pre) ++ ([bit g.exa, g.unt]).flatMap num8) (b := b ++ grantB g) (by simp [grantB]))
-- sealery/token.Put
theorem token_Put_ct (b : List UInt8) (t : Token) (hb : b.length + (24 + tokN t) ≤ 35184372088832) : Ct Tryz.prog 46 [(kSl kU8).rep (b), kToken.rep (t)] ((kSl kU8).rep (b ++ tokB t)) := by
  refine CtG.of Tryz.func46 rfl rfl (Nat.le_of_ble_eq_true rfl) (fun w0 h0 hp => ?_)
  unfold tokN at hb
  refine J.len (s := 0) (k := kU8) (xs := b) (Ent.refl _) (fun hlen_0 => ?_)
  refine J.seq ?_
  refine J.reg_ hmix ([plain (ptr (kToken.fp (t))), plain (Rep.is (.slice none 0 0))]) (by kernel_rfl) rfl ⟨OpG.none_ rfl (op_box (f := kToken.fp (t)) rfl (Ent.refl _)), OpG.none_ rfl (op_assign rfl (Ent.refl _)), trivial⟩ rfl ?_
  refine E.next ?_
  refine J.seq ?_
  refine J.reg_ hmix ([plain ((kSl kU8).rep (b)), plain (ptr (kS.fp (t.ten))), plain (Rep.is (.string (t.ten))), plain ((kSl kU8).rep (b ++ txt t.ten)), plain (ptr ((kI .i64).fp (t.id_))), plain (Rep.is (.int .i64 (t.id_))), plain (ptr ((kSl kGrant).fp (t.grs))), plain ((kSl kGrant).rep (t.grs)), plain (Rep.is (.int .i64 (((t.grs).length : Int)))), plain ((kSl (kI .i64)).rep ([t.id_, ((t.grs).length : Int)])), plain ((kSl kU8).rep ((b ++ txt t.ten) ++ ([t.id_, ((t.grs).length : Int)]).flatMap num8)), plain ((kSl kU8).rep ((b ++ txt t.ten) ++ ([t.id_, ((t.grs).length : Int)]).flatMap num8))]) (by kernel_rfl) rfl ⟨OpG.none_ rfl (op_move rfl (Ent.refl _)), OpG.none_ rfl (g_field (l := kTokenF (t)) rfl fa26_0 (fun _ _ e => e) rfl rfl (Ent.refl _)), OpG.none_ rfl (g_loadS rfl ld9 (Ent.refl _)), OpG.none_ rfl (g_call rfl en115 (pack_Text_ct b t.ten (by first | omega | (simp only [vs0, vs1, decide_eq_true_eq, decide_eq_false_iff_not, Bool.not_eq_true, Bool.not_eq_false, Decidable.not_not] at *; omega) | (simp [vs0, vs1, decide_eq_true_eq, decide_eq_false_iff_not, Bool.not_eq_true, Bool.not_eq_false, Decidable.not_not] at *; omega))) ⟨(Ent.refl _), (Ent.refl _), trivial⟩), OpG.none_ rfl (g_field (l := kTokenF (t)) rfl fa26_1 (fun _ _ e => e) rfl rfl (Ent.refl _)), OpG.none_ rfl (g_loadI rfl ld3 (Ent.refl _)), OpG.none_ rfl (g_field (l := kTokenF (t)) rfl fa26_2 (fun _ _ e => e) rfl rfl (Ent.refl _)), OpG.none_ rfl (g_load rfl ld22 (Ent.refl _)), OpG.none_ rfl (g_len rfl sl22 (Ent.refl _)), OpG.none_ rfl (op_slit (k := (kI .i64)) (xs := [t.id_, ((t.grs).length : Int)]) rfl sl63.1 sl63.2 zt3 rfl rfl (by decide) (by decide) rfl ⟨_, (kI .i64).fp (t.id_), rfl, rfl, ((Ent.refl _).trans (int_rep _ _)), rfl, _, (kI .i64).fp (((t.grs).length : Int)), rfl, rfl, ((Ent.refl _).trans (int_rep _ _)), rfl, rfl⟩), OpG.none_ rfl (g_call rfl en116 (token_ints_ct (b ++ txt t.ten) ([t.id_, ((t.grs).length : Int)]) (by first | omega | (simp only [vs0, vs1, decide_eq_true_eq, decide_eq_false_iff_not, Bool.not_eq_true, Bool.not_eq_false, Decidable.not_not] at *; omega) | (simp [vs0, vs1, decide_eq_true_eq, decide_eq_false_iff_not, Bool.not_eq_true, Bool.not_eq_false, Decidable.not_not] at *; omega))) ⟨(Ent.refl _), (Ent.refl _), trivial⟩), OpG.none_ rfl (op_assign rfl (Ent.refl _)), trivial⟩ rfl ?_
  refine E.len (s := 14) (k := kGrant) (xs := t.grs) (Ent.refl _) (fun hlen1 => ?_)
  refine E.next ?_
  refine J.seq ?_
  refine J.seq ?_
  refine J.reg_ hmix ([plain (ptr ((kSl kGrant).fp (t.grs))), plain ((kSl kGrant).rep (t.grs)), plain (Rep.is (.int .i64 (((t.grs).length : Int)))), plain (Rep.is (.int .i64 (0)))]) (by kernel_rfl) rfl ⟨OpG.none_ rfl (g_field (l := kTokenF (t)) rfl fa26_2 (fun _ _ e => e) rfl rfl (Ent.refl _)), OpG.none_ rfl (g_load rfl ld22 (Ent.refl _)), OpG.none_ rfl (g_len rfl sl22 (Ent.refl _)), OpG.none_ rfl (op_move rfl (Ent.refl _)), trivial⟩ rfl ?_
  refine E.next ?_
  refine J.block ?_
  have hN := hb
  refine J.loop (ι := Nat) (fun i_ => (upd (upd (upd (upd (upd (upd top 0 ((kSl kU8).rep (b ++ (txt t.ten ++ (num8 t.id_ ++ (num8 t.grs.length ++ (t.grs.take i_).flatMap grantB)))))) 3 (ptr (kToken.fp (t)))) 4 (Rep.is (.slice none 0 0))) 19 ((kSl kGrant).rep (t.grs))) 20 (Rep.is (.int .i64 (((t.grs).length : Int))))) 21 (Rep.is (.int .i64 ((i_ : Int)))))) (fun i_ => []) (fun i_ => i_ ≤ t.grs.length) (fun i_ => t.grs.length - i_) (0) (by first | rfl | (simp; done)) (by first | omega | (simp [vs0, vs1, decide_eq_true_eq, decide_eq_false_iff_not, Bool.not_eq_true, Bool.not_eq_false, Decidable.not_not, *]; done) | (simp [vs0, vs1, decide_eq_true_eq, decide_eq_false_iff_not, Bool.not_eq_true, Bool.not_eq_false, Decidable.not_not, *]; omega)) (by exact (Sub.upd (Sub.upd (Sub.upd (Sub.upd (Sub.upd (Sub.upd (Sub.top _) 0 (ent_v (k := (kSl kU8)) (a := (b ++ txt t.ten) ++ ([t.id_, ((t.grs).length : Int)]).flatMap num8) (b := b ++ (txt t.ten ++ (num8 t.id_ ++ (num8 t.grs.length ++ (t.grs.take 0).flatMap grantB)))) (by simp))) 3 (Ent.refl _)) 4 (Ent.refl _)) 19 (Ent.refl _)) 20 (Ent.refl _)) 21 (ent_i (by first | rfl | (simp; done) | omega | (simp only [vs0, vs1, decide_eq_true_eq, decide_eq_false_iff_not, Bool.not_eq_true, Bool.not_eq_false, Decidable.not_not] at *; omega) | (simp [vs0, vs1, decide_eq_true_eq, decide_eq_false_iff_not, Bool.not_eq_true, Bool.not_eq_false, Decidable.not_not, *]; done))))) ?_
  rintro k hl0
  skip
  refine J.seq ?_
  refine J.reg_ hmix ([plain (Rep.is (.bool (decide ((k : Int) < ((t.grs).length : Int)))))]) (by kernel_rfl) rfl ⟨OpG.none_ rfl (op_lss rfl (Ent.refl _) (Ent.refl _)), trivial⟩ rfl ?_
  refine E.next ?_
  refine J.seq ?_
  refine J.cond (B := decide ((k : Int) < ((t.grs).length : Int))) (Ent.refl _) (fun hc0 => ?_) (fun hc0 => ?_)
  ·
    try simp only [vb0, decide_eq_true_eq, decide_eq_false_iff_not, Bool.not_eq_true, Bool.not_eq_false, Decidable.not_not] at hc0
    have hle := flat_le grantB t.grs k zGrantV (by omega)
    refine J.skip ?_
    refine E.next ?_
    refine J.seq ?_
    refine J.block ?_
    refine J.seq ?_
    refine J.regL (is := [0, 1, 2, 3]) rfl ?_
    refine JO.plain (R := ptr (kGrant.fp (t.grs.getD k zGrantV))) rfl rfl rfl (Nat.le_of_ble_eq_true rfl) (g_index (i := (k : Int)) (d := zGrantV) rfl sl22 (Ent.refl _) (Ent.refl _) (by first | omega | (simp only [vs0, vs1, decide_eq_true_eq, decide_eq_false_iff_not, Bool.not_eq_true, Bool.not_eq_false, Decidable.not_not] at *; omega) | (simp [vs0, vs1, decide_eq_true_eq, decide_eq_false_iff_not, Bool.not_eq_true, Bool.not_eq_false, Decidable.not_not] at *; omega))) ?_
    refine JO.plain (R := kGrant.rep (t.grs.getD k zGrantV)) rfl rfl rfl (Nat.le_of_ble_eq_true rfl) (g_load rfl ld29 (Ent.refl _)) ?_
    refine JO.newB rfl rfl rfl (Nat.le_of_ble_eq_true rfl) (op_alloc (f := kGrant.fp (zGrantV)) rfl zt29 (fun h => zGrant h)) (fun b2 => ?_)
    refine JO.store (f := kGrant.fp (zGrantV)) (f' := kGrant.fp (t.grs.getD k zGrantV)) (g := kGrant.fp (t.grs.getD k zGrantV)) rfl rfl rfl rfl (Ent.refl _) (Ent.refl _) ld29.2 (Turn.all _ _ rfl) ?_
    refine JO.nil ?_
    refine E.next ?_
    refine J.reg_ hmix ([plain ((kSl kU8).rep (b ++ (txt t.ten ++ (num8 t.id_ ++ (num8 t.grs.length ++ (t.grs.take k).flatMap grantB))))), plain (kGrant.rep (t.grs.getD k zGrantV)), plain ((kSl kU8).rep ((b ++ (txt t.ten ++ (num8 t.id_ ++ (num8 t.grs.length ++ (t.grs.take k).flatMap grantB)))) ++ grantB (t.grs.getD k zGrantV))), plain ((kSl kU8).rep ((b ++ (txt t.ten ++ (num8 t.id_ ++ (num8 t.grs.length ++ (t.grs.take k).flatMap grantB)))) ++ grantB (t.grs.getD k zGrantV)))]) (by kernel_rfl) rfl ⟨OpG.none_ rfl (op_move rfl (Ent.refl _)), OpG.none_ rfl (g_loadP (f := kGrant.fp (t.grs.getD k zGrantV)) (g := kGrant.fp (t.grs.getD k zGrantV)) rfl ld29 (by repeat (first | exact List.mem_cons_self | apply List.mem_cons_of_mem)) (Part.all _) (Ent.refl _)), OpG.none_ rfl (g_call rfl en117 (token_bytesOf_ct (b ++ (txt t.ten ++ (num8 t.id_ ++ (num8 t.grs.length ++ (t.grs.take k).flatMap grantB)))) (t.grs.getD k zGrantV) (by first | omega | (simp only [vs0, vs1, decide_eq_true_eq, decide_eq_false_iff_not, Bool.not_eq_true, Bool.not_eq_false, Decidable.not_not] at *; omega) | (simp [vs0, vs1, decide_eq_true_eq, decide_eq_false_iff_not, Bool.not_eq_true, Bool.not_eq_false, Decidable.not_not] at *; omega))) ⟨(Ent.refl _), (Ent.refl _), trivial⟩), OpG.none_ rfl (op_assign rfl (Ent.refl _)), trivial⟩ rfl ?_
    refine E.blockEnd ?_
    refine E.next ?_
    refine J.reg_ hmix ([plain (Rep.is (.int .i64 ((k : Int) + 1))), plain (Rep.is (.int .i64 ((k : Int) + 1)))]) (by kernel_rfl) rfl ⟨OpG.none_ rfl (g_add rfl (Ent.refl _) (Ent.refl _) (by first | omega | (simp only [vs0, vs1, decide_eq_true_eq, decide_eq_false_iff_not, Bool.not_eq_true, Bool.not_eq_false, Decidable.not_not] at *; omega) | (simp [vs0, vs1, decide_eq_true_eq, decide_eq_false_iff_not, Bool.not_eq_true, Bool.not_eq_false, Decidable.not_not] at *; omega))), OpG.none_ rfl (op_move rfl (Ent.refl _)), trivial⟩ rfl ?_
    refine E.drop (l' := []) (by repeat (first | exact List.Sublist.refl _ | apply List.Sublist.cons_cons | apply List.Sublist.cons)) ?_
    exact E.again (k + 1) (by first | rfl | (simp; done)) (by omega) (by omega) (by exact (Sub.upd (Sub.upd (Sub.upd (Sub.upd (Sub.upd (Sub.upd (Sub.top _) 0 (ent_v (k := (kSl kU8)) (a := (b ++ (txt t.ten ++ (num8 t.id_ ++ (num8 t.grs.length ++ (t.grs.take k).flatMap grantB)))) ++ grantB (t.grs.getD k zGrantV)) (b := b ++ (txt t.ten ++ (num8 t.id_ ++ (num8 t.grs.length ++ (t.grs.take (k + 1)).flatMap grantB)))) (by rw [flat_step grantB t.grs k zGrantV (by omega)]; simp))) 3 (Ent.refl _)) 4 (Ent.refl _)) 19 (Ent.refl _)) 20 (Ent.refl _)) 21 (ent_i (by first | rfl | (simp; done) | omega | (simp only [vs0, vs1, decide_eq_true_eq, decide_eq_false_iff_not, Bool.not_eq_true, Bool.not_eq_false, Decidable.not_not] at *; omega) | (simp [vs0, vs1, decide_eq_true_eq, decide_eq_false_iff_not, Bool.not_eq_true, Bool.not_eq_false, Decidable.not_not, *]; done)))))
  ·
    try simp only [vb0, decide_eq_true_eq, decide_eq_false_iff_not, Bool.not_eq_true, Bool.not_eq_false, Decidable.not_not] at hc0
    have hle := flat_take_le grantB t.grs k
    refine J.exit ?_
    refine E.passX ?_
    refine E.passX ?_
    refine E.hit ?_
    refine E.next ?_
    refine J.seq ?_
    refine J.reg_ hmix ([plain ((kSl kU8).rep (b ++ (txt t.ten ++ (num8 t.id_ ++ (num8 t.grs.length ++ (t.grs.take k).flatMap grantB))))), plain (ptr ((kArr 32 kU8).fp (t.mac))), plain ((kArr 32 kU8).rep (t.mac)), plain ((kSl kU8).rep ((b ++ (txt t.ten ++ (num8 t.id_ ++ (num8 t.grs.length ++ (t.grs.take k).flatMap grantB)))) ++ t.mac)), plain ((kSl kU8).rep ((b ++ (txt t.ten ++ (num8 t.id_ ++ (num8 t.grs.length ++ (t.grs.take k).flatMap grantB)))) ++ t.mac))]) (by kernel_rfl) rfl ⟨OpG.none_ rfl (op_move rfl (Ent.refl _)), OpG.none_ rfl (g_field (l := kTokenF (t)) rfl fa26_3 (fun _ _ e => e) rfl rfl (Ent.refl _)), OpG.none_ rfl (g_load rfl ld24 (Ent.refl _)), OpG.none_ rfl (g_call rfl en77 (pack_Sum_ct (b ++ (txt t.ten ++ (num8 t.id_ ++ (num8 t.grs.length ++ (t.grs.take k).flatMap grantB)))) t.mac (by first | omega | (simp only [vs0, vs1, decide_eq_true_eq, decide_eq_false_iff_not, Bool.not_eq_true, Bool.not_eq_false, Decidable.not_not] at *; omega) | (simp [vs0, vs1, decide_eq_true_eq, decide_eq_false_iff_not, Bool.not_eq_true, Bool.not_eq_false, Decidable.not_not] at *; omega))) ⟨(Ent.refl _), (Ent.refl _), trivial⟩), OpG.none_ rfl (op_assign rfl (Ent.refl _)), trivial⟩ rfl ?_
    refine E.next ?_
    refine J.ret ?_
    exact E.ret1 rfl (ent_v (k := (kSl kU8)) (a := (b ++ (txt t.ten ++ (num8 t.id_ ++ (num8 t.grs.length ++ (t.grs.take k).flatMap grantB)))) ++ t.mac) (b := b ++ tokB t) (by (have := hl0; have h8 : k = t.grs.length := by omega); subst h8; simp [tokB]))
-- sealery/command.rows[[]byte]
theorem rows_b_ct (b : List UInt8) (l : List (List UInt8)) (hb : b.length + (8 + (l.flatMap blob).length) ≤ 35184372088832) : Ct Tryz.prog 48 [(kSl kU8).rep (b), (kSl (kSl kU8)).rep (l), clo 49 []] ((kSl kU8).rep (b ++ rowsB blob l)) := by
  refine CtG.of Tryz.func48 rfl rfl (Nat.le_of_ble_eq_true rfl) (fun w0 h0 hp => ?_)
  refine J.len (s := 0) (k := kU8) (xs := b) (Ent.refl _) (fun hlen_0 => ?_)
  refine J.len (s := 1) (k := (kSl kU8)) (xs := l) (Ent.refl _) (fun hlen_1 => ?_)
  refine J.seq ?_
  refine J.reg_ hmix ([plain (Rep.is (.slice none 0 0))]) (by kernel_rfl) rfl ⟨OpG.none_ rfl (op_assign rfl (Ent.refl _)), trivial⟩ rfl ?_
  refine E.next ?_
  refine J.seq ?_
  refine J.reg_ hmix ([plain ((kSl kU8).rep (b)), plain ((kSl (kSl kU8)).rep (l)), plain (Rep.is (.int .i64 (((l).length : Int)))), plain ((kSl kU8).rep (b ++ num8 ((l).length : Int))), plain ((kSl kU8).rep (b ++ num8 ((l).length : Int)))]) (by kernel_rfl) rfl ⟨OpG.none_ rfl (op_move rfl (Ent.refl _)), OpG.none_ rfl (op_move rfl (Ent.refl _)), OpG.none_ rfl (g_len rfl sl27 (Ent.refl _)), OpG.none_ rfl (g_call rfl en118 (pack_Int_ct b ((l).length : Int) (by first | omega | (simp only [vs0, vs1, decide_eq_true_eq, decide_eq_false_iff_not, Bool.not_eq_true, Bool.not_eq_false, Decidable.not_not] at *; omega) | (simp [vs0, vs1, decide_eq_true_eq, decide_eq_false_iff_not, Bool.not_eq_true, Bool.not_eq_false, Decidable.not_not] at *; omega))) ⟨(Ent.refl _), (Ent.refl _), trivial⟩), OpG.none_ rfl (op_assign rfl (Ent.refl _)), trivial⟩ rfl ?_
  refine E.next ?_
  refine J.seq ?_
  refine J.seq ?_
  refine J.reg_ hmix ([plain ((kSl (kSl kU8)).rep (l)), plain (Rep.is (.int .i64 (((l).length : Int)))), plain (Rep.is (.int .i64 (0)))]) (by kernel_rfl) rfl ⟨OpG.none_ rfl (op_move rfl (Ent.refl _)), OpG.none_ rfl (g_len rfl sl27 (Ent.refl _)), OpG.none_ rfl (op_move rfl (Ent.refl _)), trivial⟩ rfl ?_
  refine E.next ?_
  refine J.block ?_
  refine J.loop (ι := Nat) (fun i_ => (upd (upd (upd (upd (upd (upd top 0 ((kSl kU8).rep (b ++ (num8 l.length ++ (l.take i_).flatMap blob)))) 2 (clo 49 [])) 6 (Rep.is (.slice none 0 0))) 13 ((kSl (kSl kU8)).rep (l))) 14 (Rep.is (.int .i64 (((l).length : Int))))) 15 (Rep.is (.int .i64 ((i_ : Int)))))) (fun i_ => []) (fun i_ => i_ ≤ l.length) (fun i_ => l.length - i_) (0) (by first | rfl | (simp; done)) (by first | omega | (simp [vs0, vs1, decide_eq_true_eq, decide_eq_false_iff_not, Bool.not_eq_true, Bool.not_eq_false, Decidable.not_not, *]; done) | (simp [vs0, vs1, decide_eq_true_eq, decide_eq_false_iff_not, Bool.not_eq_true, Bool.not_eq_false, Decidable.not_not, *]; omega)) (by exact (Sub.upd (Sub.upd (Sub.upd (Sub.upd (Sub.upd (Sub.upd (Sub.top _) 0 (ent_v (k := (kSl kU8)) (a := b ++ num8 ((l).length : Int)) (b := b ++ (num8 l.length ++ (l.take 0).flatMap blob)) (by simp))) 2 (Ent.refl _)) 6 (Ent.refl _)) 13 (Ent.refl _)) 14 (Ent.refl _)) 15 (ent_i (by first | rfl | (simp; done) | omega | (simp only [vs0, vs1, decide_eq_true_eq, decide_eq_false_iff_not, Bool.not_eq_true, Bool.not_eq_false, Decidable.not_not] at *; omega) | (simp [vs0, vs1, decide_eq_true_eq, decide_eq_false_iff_not, Bool.not_eq_true, Bool.not_eq_false, Decidable.not_not, *]; done))))) ?_
  rintro k hl0
  skip
  refine J.seq ?_
  refine J.reg_ hmix ([plain (Rep.is (.bool (decide ((k : Int) < ((l).length : Int)))))]) (by kernel_rfl) rfl ⟨OpG.none_ rfl (op_lss rfl (Ent.refl _) (Ent.refl _)), trivial⟩ rfl ?_
  refine E.next ?_
  refine J.seq ?_
  refine J.cond (B := decide ((k : Int) < ((l).length : Int))) (Ent.refl _) (fun hc0 => ?_) (fun hc0 => ?_)
  ·
    try simp only [vb0, decide_eq_true_eq, decide_eq_false_iff_not, Bool.not_eq_true, Bool.not_eq_false, Decidable.not_not] at hc0
    have hle := flat_le blob l k [] (by omega)
    refine J.skip ?_
    refine E.next ?_
    refine J.seq ?_
    refine J.block ?_
    refine J.seq ?_
    refine J.reg_ hmix ([plain (ptr ((kSl kU8).fp (l.getD k []))), plain ((kSl kU8).rep (l.getD k [])), plain ((kSl kU8).rep (l.getD k []))]) (by kernel_rfl) rfl ⟨OpG.none_ rfl (g_index (i := (k : Int)) (d := []) rfl sl27 (Ent.refl _) (Ent.refl _) (by first | omega | (simp only [vs0, vs1, decide_eq_true_eq, decide_eq_false_iff_not, Bool.not_eq_true, Bool.not_eq_false, Decidable.not_not] at *; omega) | (simp [vs0, vs1, decide_eq_true_eq, decide_eq_false_iff_not, Bool.not_eq_true, Bool.not_eq_false, Decidable.not_not] at *; omega))), OpG.none_ rfl (g_load rfl ld35 (Ent.refl _)), OpG.none_ rfl (op_assign rfl (Ent.refl _)), trivial⟩ rfl ?_
    refine E.next ?_
    refine J.reg_ hmix ([plain (clo 49 []), plain ((kSl kU8).rep (b ++ (num8 l.length ++ (l.take k).flatMap blob))), plain ((kSl kU8).rep (l.getD k [])), plain ((kSl kU8).rep ((b ++ (num8 l.length ++ (l.take k).flatMap blob)) ++ blob (l.getD k []))), plain ((kSl kU8).rep ((b ++ (num8 l.length ++ (l.take k).flatMap blob)) ++ blob (l.getD k [])))]) (by kernel_rfl) rfl ⟨OpG.none_ rfl (op_move rfl (Ent.refl _)), OpG.none_ rfl (op_move rfl (Ent.refl _)), OpG.none_ rfl (op_move rfl (Ent.refl _)), OpG.none_ rfl (g_callg rfl en49 (Rs := [(kSl kU8).rep (b ++ (num8 l.length ++ (l.take k).flatMap blob)), (kSl kU8).rep (l.getD k [])]) (Cs := []) (pack_Blob_ct (b ++ (num8 l.length ++ (l.take k).flatMap blob)) (l.getD k []) (by first | omega | (simp only [vs0, vs1, decide_eq_true_eq, decide_eq_false_iff_not, Bool.not_eq_true, Bool.not_eq_false, Decidable.not_not] at *; omega) | (simp [vs0, vs1, decide_eq_true_eq, decide_eq_false_iff_not, Bool.not_eq_true, Bool.not_eq_false, Decidable.not_not] at *; omega))) (Ent.refl _) ⟨(Ent.refl _), (Ent.refl _), trivial⟩), OpG.none_ rfl (op_assign rfl (Ent.refl _)), trivial⟩ rfl ?_
    refine E.blockEnd ?_
    refine E.next ?_
    refine J.reg_ hmix ([plain (Rep.is (.int .i64 ((k : Int) + 1))), plain (Rep.is (.int .i64 ((k : Int) + 1)))]) (by kernel_rfl) rfl ⟨OpG.none_ rfl (g_add rfl (Ent.refl _) (Ent.refl _) (by first | omega | (simp only [vs0, vs1, decide_eq_true_eq, decide_eq_false_iff_not, Bool.not_eq_true, Bool.not_eq_false, Decidable.not_not] at *; omega) | (simp [vs0, vs1, decide_eq_true_eq, decide_eq_false_iff_not, Bool.not_eq_true, Bool.not_eq_false, Decidable.not_not] at *; omega))), OpG.none_ rfl (op_move rfl (Ent.refl _)), trivial⟩ rfl ?_
    exact E.again (k + 1) (by first | rfl | (simp; done)) (by omega) (by omega) (by exact (Sub.upd (Sub.upd (Sub.upd (Sub.upd (Sub.upd (Sub.upd (Sub.top _) 0 (ent_v (k := (kSl kU8)) (a := (b ++ (num8 l.length ++ (l.take k).flatMap blob)) ++ blob (l.getD k [])) (b := b ++ (num8 l.length ++ (l.take (k + 1)).flatMap blob)) (by rw [flat_step blob l k [] (by omega)]; simp))) 2 (Ent.refl _)) 6 (Ent.refl _)) 13 (Ent.refl _)) 14 (Ent.refl _)) 15 (ent_i (by first | rfl | (simp; done) | omega | (simp only [vs0, vs1, decide_eq_true_eq, decide_eq_false_iff_not, Bool.not_eq_true, Bool.not_eq_false, Decidable.not_not] at *; omega) | (simp [vs0, vs1, decide_eq_true_eq, decide_eq_false_iff_not, Bool.not_eq_true, Bool.not_eq_false, Decidable.not_not, *]; done)))))
  ·
    try simp only [vb0, decide_eq_true_eq, decide_eq_false_iff_not, Bool.not_eq_true, Bool.not_eq_false, Decidable.not_not] at hc0
    refine J.exit ?_
    refine E.passX ?_
    refine E.passX ?_
    refine E.hit ?_
    refine E.next ?_
    refine J.seq ?_
    refine J.reg_ hmix ([plain ((kSl kU8).rep (b ++ (num8 l.length ++ (l.take k).flatMap blob))), plain ((kSl kU8).rep (b ++ (num8 l.length ++ (l.take k).flatMap blob)))]) (by kernel_rfl) rfl ⟨OpG.none_ rfl (op_move rfl (Ent.refl _)), OpG.none_ rfl (op_assign rfl (Ent.refl _)), trivial⟩ rfl ?_
    refine E.next ?_
    refine J.ret ?_
    exact E.ret1 rfl (ent_v (k := (kSl kU8)) (a := b ++ (num8 l.length ++ (l.take k).flatMap blob)) (b := b ++ rowsB blob l) (by (have := hl0; have h8 : k = l.length := by omega); subst h8; simp [rowsB]))
-- sealery/command.PutAnswer$1
theorem puts_ct (b : List UInt8) (s : Shown) (hb : b.length + (shownB s).length ≤ 35184372088832) : Ct Tryz.prog 74 [(kSl kU8).rep (b), kShown.rep (s)] ((kSl kU8).rep (b ++ shownB s)) := by
  refine CtG.of Tryz.func74 rfl rfl (Nat.le_of_ble_eq_true rfl) (fun w0 h0 hp => ?_)
  rw [shownB_length] at hb
  refine J.len (s := 0) (k := kU8) (xs := b) (Ent.refl _) (fun hlen_0 => ?_)
  refine J.seq ?_
  refine J.reg_ hmix ([plain (ptr (kShown.fp (s))), plain (Rep.is (.slice none 0 0))]) (by kernel_rfl) rfl ⟨OpG.none_ rfl (op_box (f := kShown.fp (s)) rfl (Ent.refl _)), OpG.none_ rfl (op_assign rfl (Ent.refl _)), trivial⟩ rfl ?_
  refine E.next ?_
  refine J.seq ?_
  refine J.reg_ hmix ([plain ((kSl kU8).rep (b)), plain (ptr (kS.fp (s.str))), plain (Rep.is (.string (s.str))), plain (ptr (kS.fp (s.sub))), plain (Rep.is (.string (s.sub))), plain ((kSl kS).rep ([s.str, s.sub])), plain ((kSl kU8).rep (b ++ ([s.str, s.sub]).flatMap txt)), plain (ptr ((kI .i64).fp (s.ver))), plain (Rep.is (.int .i64 (s.ver))), plain (ptr ((kI .i64).fp (s.pos))), plain (Rep.is (.int .i64 (s.pos))), plain (ptr ((kI .i64).fp (s.code))), plain (Rep.is (.int .i64 (s.code))), plain ((kSl (kI .i64)).rep ([s.ver, s.pos, s.code])), plain ((kSl kU8).rep ((b ++ ([s.str, s.sub]).flatMap txt) ++ ([s.ver, s.pos, s.code]).flatMap num8)), plain (ptr ((kSl kU8).fp (s.body))), plain ((kSl kU8).rep (s.body)), plain ((kSl kU8).rep (((b ++ ([s.str, s.sub]).flatMap txt) ++ ([s.ver, s.pos, s.code]).flatMap num8) ++ blob s.body)), plain ((kSl kU8).rep (((b ++ ([s.str, s.sub]).flatMap txt) ++ ([s.ver, s.pos, s.code]).flatMap num8) ++ blob s.body))]) (by kernel_rfl) rfl ⟨OpG.none_ rfl (op_move rfl (Ent.refl _)), OpG.none_ rfl (g_field (l := kShownF (s)) rfl fa70_0 (fun _ _ e => e) rfl rfl (Ent.refl _)), OpG.none_ rfl (g_loadS rfl ld9 (Ent.refl _)), OpG.none_ rfl (g_field (l := kShownF (s)) rfl fa70_1 (fun _ _ e => e) rfl rfl (Ent.refl _)), OpG.none_ rfl (g_loadS rfl ld9 (Ent.refl _)), OpG.none_ rfl (op_slit (k := kS) (xs := [s.str, s.sub]) rfl sl137.1 sl137.2 zt9 rfl rfl (by decide) (by decide) rfl ⟨_, kS.fp (s.str), rfl, rfl, ((Ent.refl _).trans (str_rep _)), rfl, _, kS.fp (s.sub), rfl, rfl, ((Ent.refl _).trans (str_rep _)), rfl, rfl⟩), OpG.none_ rfl (g_call rfl en45 (command_texts_ct b ([s.str, s.sub]) (by first | omega | (simp only [vs0, vs1, decide_eq_true_eq, decide_eq_false_iff_not, Bool.not_eq_true, Bool.not_eq_false, Decidable.not_not] at *; omega) | (simp [vs0, vs1, decide_eq_true_eq, decide_eq_false_iff_not, Bool.not_eq_true, Bool.not_eq_false, Decidable.not_not] at *; omega))) ⟨(Ent.refl _), (Ent.refl _), trivial⟩), OpG.none_ rfl (g_field (l := kShownF (s)) rfl fa70_2 (fun _ _ e => e) rfl rfl (Ent.refl _)), OpG.none_ rfl (g_loadI rfl ld3 (Ent.refl _)), OpG.none_ rfl (g_field (l := kShownF (s)) rfl fa70_3 (fun _ _ e => e) rfl rfl (Ent.refl _)), OpG.none_ rfl (g_loadI rfl ld3 (Ent.refl _)), OpG.none_ rfl (g_field (l := kShownF (s)) rfl fa70_4 (fun _ _ e => e) rfl rfl (Ent.refl _)), OpG.none_ rfl (g_loadI rfl ld36 (Ent.refl _)), OpG.none_ rfl (op_slit (k := (kI .i64)) (xs := [s.ver, s.pos, s.code]) rfl sl63.1 sl63.2 zt3 rfl rfl (by decide) (by decide) rfl ⟨_, (kI .i64).fp (s.ver), rfl, rfl, ((Ent.refl _).trans (int_rep _ _)), rfl, _, (kI .i64).fp (s.pos), rfl, rfl, ((Ent.refl _).trans (int_rep _ _)), rfl, _, (kI .i64).fp (s.code), rfl, rfl, ((Ent.refl _).trans (int_rep _ _)), rfl, rfl⟩), OpG.none_ rfl (g_call rfl en47 (command_ints_ct (b ++ ([s.str, s.sub]).flatMap txt) ([s.ver, s.pos, s.code]) (by first | omega | (simp only [vs0, vs1, decide_eq_true_eq, decide_eq_false_iff_not, Bool.not_eq_true, Bool.not_eq_false, Decidable.not_not] at *; omega) | (simp [vs0, vs1, decide_eq_true_eq, decide_eq_false_iff_not, Bool.not_eq_true, Bool.not_eq_false, Decidable.not_not] at *; omega))) ⟨(Ent.refl _), (Ent.refl _), trivial⟩), OpG.none_ rfl (g_field (l := kShownF (s)) rfl fa70_5 (fun _ _ e => e) rfl rfl (Ent.refl _)), OpG.none_ rfl (g_load rfl ld35 (Ent.refl _)), OpG.none_ rfl (g_call rfl en49 (pack_Blob_ct ((b ++ ([s.str, s.sub]).flatMap txt) ++ ([s.ver, s.pos, s.code]).flatMap num8) s.body (by first | omega | (simp only [vs0, vs1, decide_eq_true_eq, decide_eq_false_iff_not, Bool.not_eq_true, Bool.not_eq_false, Decidable.not_not] at *; omega) | (simp [vs0, vs1, decide_eq_true_eq, decide_eq_false_iff_not, Bool.not_eq_true, Bool.not_eq_false, Decidable.not_not] at *; omega))) ⟨(Ent.refl _), (Ent.refl _), trivial⟩), OpG.none_ rfl (op_assign rfl (Ent.refl _)), trivial⟩ rfl ?_
  refine E.next ?_
  refine J.ret ?_
  exact E.ret1 rfl (ent_v (k := (kSl kU8)) (a := ((b ++ ([s.str, s.sub]).flatMap txt) ++ ([s.ver, s.pos, s.code]).flatMap num8) ++ blob s.body) (b := b ++ shownB s) (by simp [shownB]))
-- sealery/command.PutAnswer$2
theorem pute_ct (b : List UInt8) (e : Entry) (hb : b.length + (entryB e).length ≤ 35184372088832) : Ct Tryz.prog 76 [(kSl kU8).rep (b), kEntry.rep (e)] ((kSl kU8).rep (b ++ entryB e)) := by
  refine CtG.of Tryz.func76 rfl rfl (Nat.le_of_ble_eq_true rfl) (fun w0 h0 hp => ?_)
  rw [entryB_length] at hb
  refine J.len (s := 0) (k := kU8) (xs := b) (Ent.refl _) (fun hlen_0 => ?_)
  refine J.seq ?_
  refine J.reg_ hmix ([plain (ptr (kEntry.fp (e))), plain (Rep.is (.slice none 0 0))]) (by kernel_rfl) rfl ⟨OpG.none_ rfl (op_box (f := kEntry.fp (e)) rfl (Ent.refl _)), OpG.none_ rfl (op_assign rfl (Ent.refl _)), trivial⟩ rfl ?_
  refine E.next ?_
  refine J.seq ?_
  refine J.reg_ hmix ([plain ((kSl kU8).rep (b)), plain (ptr ((kI .i64).fp (e.no))), plain (Rep.is (.int .i64 (e.no))), plain (ptr ((kI .i64).fp (e.clock))), plain (Rep.is (.int .i64 (e.clock))), plain (ptr ((kI .i64).fp (e.kind))), plain (Rep.is (.int .i64 (e.kind))), plain (ptr ((kI .i64).fp (e.code))), plain (Rep.is (.int .i64 (e.code))), plain (ptr ((kI .i64).fp (e.eid))), plain (Rep.is (.int .i64 (e.eid))), plain ((kSl (kI .i64)).rep ([e.no, e.clock, e.kind, e.code, e.eid])), plain ((kSl kU8).rep (b ++ ([e.no, e.clock, e.kind, e.code, e.eid]).flatMap num8)), plain (ptr (kS.fp (e.str))), plain (Rep.is (.string (e.str))), plain (ptr (kS.fp (e.sub))), plain (Rep.is (.string (e.sub))), plain ((kSl kS).rep ([e.str, e.sub])), plain ((kSl kU8).rep ((b ++ ([e.no, e.clock, e.kind, e.code, e.eid]).flatMap num8) ++ ([e.str, e.sub]).flatMap txt)), plain (ptr ((kArr 32 kU8).fp (e.sum))), plain ((kArr 32 kU8).rep (e.sum)), plain ((kSl kU8).rep (((b ++ ([e.no, e.clock, e.kind, e.code, e.eid]).flatMap num8) ++ ([e.str, e.sub]).flatMap txt) ++ e.sum)), plain ((kSl kU8).rep (((b ++ ([e.no, e.clock, e.kind, e.code, e.eid]).flatMap num8) ++ ([e.str, e.sub]).flatMap txt) ++ e.sum))]) (by kernel_rfl) rfl ⟨OpG.none_ rfl (op_move rfl (Ent.refl _)), OpG.none_ rfl (g_field (l := kEntryF (e)) rfl fa72_0 (fun _ _ e => e) rfl rfl (Ent.refl _)), OpG.none_ rfl (g_loadI rfl ld3 (Ent.refl _)), OpG.none_ rfl (g_field (l := kEntryF (e)) rfl fa72_1 (fun _ _ e => e) rfl rfl (Ent.refl _)), OpG.none_ rfl (g_loadI rfl ld3 (Ent.refl _)), OpG.none_ rfl (g_field (l := kEntryF (e)) rfl fa72_2 (fun _ _ e => e) rfl rfl (Ent.refl _)), OpG.none_ rfl (g_loadI rfl ld3 (Ent.refl _)), OpG.none_ rfl (g_field (l := kEntryF (e)) rfl fa72_3 (fun _ _ e => e) rfl rfl (Ent.refl _)), OpG.none_ rfl (g_loadI rfl ld36 (Ent.refl _)), OpG.none_ rfl (g_field (l := kEntryF (e)) rfl fa72_4 (fun _ _ e => e) rfl rfl (Ent.refl _)), OpG.none_ rfl (g_loadI rfl ld3 (Ent.refl _)), OpG.none_ rfl (op_slit (k := (kI .i64)) (xs := [e.no, e.clock, e.kind, e.code, e.eid]) rfl sl63.1 sl63.2 zt3 rfl rfl (by decide) (by decide) rfl ⟨_, (kI .i64).fp (e.no), rfl, rfl, ((Ent.refl _).trans (int_rep _ _)), rfl, _, (kI .i64).fp (e.clock), rfl, rfl, ((Ent.refl _).trans (int_rep _ _)), rfl, _, (kI .i64).fp (e.kind), rfl, rfl, ((Ent.refl _).trans (int_rep _ _)), rfl, _, (kI .i64).fp (e.code), rfl, rfl, ((Ent.refl _).trans (int_rep _ _)), rfl, _, (kI .i64).fp (e.eid), rfl, rfl, ((Ent.refl _).trans (int_rep _ _)), rfl, rfl⟩), OpG.none_ rfl (g_call rfl en47 (command_ints_ct b ([e.no, e.clock, e.kind, e.code, e.eid]) (by first | omega | (simp only [vs0, vs1, decide_eq_true_eq, decide_eq_false_iff_not, Bool.not_eq_true, Bool.not_eq_false, Decidable.not_not] at *; omega) | (simp [vs0, vs1, decide_eq_true_eq, decide_eq_false_iff_not, Bool.not_eq_true, Bool.not_eq_false, Decidable.not_not] at *; omega))) ⟨(Ent.refl _), (Ent.refl _), trivial⟩), OpG.none_ rfl (g_field (l := kEntryF (e)) rfl fa72_5 (fun _ _ e => e) rfl rfl (Ent.refl _)), OpG.none_ rfl (g_loadS rfl ld9 (Ent.refl _)), OpG.none_ rfl (g_field (l := kEntryF (e)) rfl fa72_6 (fun _ _ e => e) rfl rfl (Ent.refl _)), OpG.none_ rfl (g_loadS rfl ld9 (Ent.refl _)), OpG.none_ rfl (op_slit (k := kS) (xs := [e.str, e.sub]) rfl sl137.1 sl137.2 zt9 rfl rfl (by decide) (by decide) rfl ⟨_, kS.fp (e.str), rfl, rfl, ((Ent.refl _).trans (str_rep _)), rfl, _, kS.fp (e.sub), rfl, rfl, ((Ent.refl _).trans (str_rep _)), rfl, rfl⟩), OpG.none_ rfl (g_call rfl en45 (command_texts_ct (b ++ ([e.no, e.clock, e.kind, e.code, e.eid]).flatMap num8) ([e.str, e.sub]) (by first | omega | (simp only [vs0, vs1, decide_eq_true_eq, decide_eq_false_iff_not, Bool.not_eq_true, Bool.not_eq_false, Decidable.not_not] at *; omega) | (simp [vs0, vs1, decide_eq_true_eq, decide_eq_false_iff_not, Bool.not_eq_true, Bool.not_eq_false, Decidable.not_not] at *; omega))) ⟨(Ent.refl _), (Ent.refl _), trivial⟩), OpG.none_ rfl (g_field (l := kEntryF (e)) rfl fa72_7 (fun _ _ e => e) rfl rfl (Ent.refl _)), OpG.none_ rfl (g_load rfl ld24 (Ent.refl _)), OpG.none_ rfl (g_call rfl en77 (pack_Sum_ct ((b ++ ([e.no, e.clock, e.kind, e.code, e.eid]).flatMap num8) ++ ([e.str, e.sub]).flatMap txt) e.sum (by first | omega | (simp only [vs0, vs1, decide_eq_true_eq, decide_eq_false_iff_not, Bool.not_eq_true, Bool.not_eq_false, Decidable.not_not] at *; omega) | (simp [vs0, vs1, decide_eq_true_eq, decide_eq_false_iff_not, Bool.not_eq_true, Bool.not_eq_false, Decidable.not_not] at *; omega))) ⟨(Ent.refl _), (Ent.refl _), trivial⟩), OpG.none_ rfl (op_assign rfl (Ent.refl _)), trivial⟩ rfl ?_
  refine E.next ?_
  refine J.ret ?_
  exact E.ret1 rfl (ent_v (k := (kSl kU8)) (a := ((b ++ ([e.no, e.clock, e.kind, e.code, e.eid]).flatMap num8) ++ ([e.str, e.sub]).flatMap txt) ++ e.sum) (b := b ++ entryB e) (by simp [entryB]))
-- sealery/command.rows[sealery/api.Shown]
theorem rows_s_ct (b : List UInt8) (l : List Shown) (hb : b.length + (8 + (l.flatMap shownB).length) ≤ 35184372088832) : Ct Tryz.prog 73 [(kSl kU8).rep (b), (kSl kShown).rep (l), clo 74 []] ((kSl kU8).rep (b ++ rowsB shownB l)) := by
  refine CtG.of Tryz.func73 rfl rfl (Nat.le_of_ble_eq_true rfl) (fun w0 h0 hp => ?_)
  refine J.len (s := 0) (k := kU8) (xs := b) (Ent.refl _) (fun hlen_0 => ?_)
  refine J.len (s := 1) (k := kShown) (xs := l) (Ent.refl _) (fun hlen_1 => ?_)
  refine J.seq ?_
  refine J.reg_ hmix ([plain (Rep.is (.slice none 0 0))]) (by kernel_rfl) rfl ⟨OpG.none_ rfl (op_assign rfl (Ent.refl _)), trivial⟩ rfl ?_
  refine E.next ?_
  refine J.seq ?_
  refine J.reg_ hmix ([plain ((kSl kU8).rep (b)), plain ((kSl kShown).rep (l)), plain (Rep.is (.int .i64 (((l).length : Int)))), plain ((kSl kU8).rep (b ++ num8 ((l).length : Int))), plain ((kSl kU8).rep (b ++ num8 ((l).length : Int)))]) (by kernel_rfl) rfl ⟨OpG.none_ rfl (op_move rfl (Ent.refl _)), OpG.none_ rfl (op_move rfl (Ent.refl _)), OpG.none_ rfl (g_len rfl sl43 (Ent.refl _)), OpG.none_ rfl (g_call rfl en118 (pack_Int_ct b ((l).length : Int) (by first | omega | (simp only [vs0, vs1, decide_eq_true_eq, decide_eq_false_iff_not, Bool.not_eq_true, Bool.not_eq_false, Decidable.not_not] at *; omega) | (simp [vs0, vs1, decide_eq_true_eq, decide_eq_false_iff_not, Bool.not_eq_true, Bool.not_eq_false, Decidable.not_not] at *; omega))) ⟨(Ent.refl _), (Ent.refl _), trivial⟩), OpG.none_ rfl (op_assign rfl (Ent.refl _)), trivial⟩ rfl ?_
  refine E.next ?_
  refine J.seq ?_
  refine J.seq ?_
  refine J.reg_ hmix ([plain ((kSl kShown).rep (l)), plain (Rep.is (.int .i64 (((l).length : Int)))), plain (Rep.is (.int .i64 (0)))]) (by kernel_rfl) rfl ⟨OpG.none_ rfl (op_move rfl (Ent.refl _)), OpG.none_ rfl (g_len rfl sl43 (Ent.refl _)), OpG.none_ rfl (op_move rfl (Ent.refl _)), trivial⟩ rfl ?_
  refine E.next ?_
  refine J.block ?_
  refine J.loop (ι := Nat) (fun i_ => (upd (upd (upd (upd (upd (upd top 0 ((kSl kU8).rep (b ++ (num8 l.length ++ (l.take i_).flatMap shownB)))) 2 (clo 74 [])) 6 (Rep.is (.slice none 0 0))) 13 ((kSl kShown).rep (l))) 14 (Rep.is (.int .i64 (((l).length : Int))))) 15 (Rep.is (.int .i64 ((i_ : Int)))))) (fun i_ => []) (fun i_ => i_ ≤ l.length) (fun i_ => l.length - i_) (0) (by first | rfl | (simp; done)) (by first | omega | (simp [vs0, vs1, decide_eq_true_eq, decide_eq_false_iff_not, Bool.not_eq_true, Bool.not_eq_false, Decidable.not_not, *]; done) | (simp [vs0, vs1, decide_eq_true_eq, decide_eq_false_iff_not, Bool.not_eq_true, Bool.not_eq_false, Decidable.not_not, *]; omega)) (by exact (Sub.upd (Sub.upd (Sub.upd (Sub.upd (Sub.upd (Sub.upd (Sub.top _) 0 (ent_v (k := (kSl kU8)) (a := b ++ num8 ((l).length : Int)) (b := b ++ (num8 l.length ++ (l.take 0).flatMap shownB)) (by simp))) 2 (Ent.refl _)) 6 (Ent.refl _)) 13 (Ent.refl _)) 14 (Ent.refl _)) 15 (ent_i (by first | rfl | (simp; done) | omega | (simp only [vs0, vs1, decide_eq_true_eq, decide_eq_false_iff_not, Bool.not_eq_true, Bool.not_eq_false, Decidable.not_not] at *; omega) | (simp [vs0, vs1, decide_eq_true_eq, decide_eq_false_iff_not, Bool.not_eq_true, Bool.not_eq_false, Decidable.not_not, *]; done))))) ?_
  rintro k hl0
  skip
  refine J.seq ?_
  refine J.reg_ hmix ([plain (Rep.is (.bool (decide ((k : Int) < ((l).length : Int)))))]) (by kernel_rfl) rfl ⟨OpG.none_ rfl (op_lss rfl (Ent.refl _) (Ent.refl _)), trivial⟩ rfl ?_
  refine E.next ?_
  refine J.seq ?_
  refine J.cond (B := decide ((k : Int) < ((l).length : Int))) (Ent.refl _) (fun hc0 => ?_) (fun hc0 => ?_)
  ·
    try simp only [vb0, decide_eq_true_eq, decide_eq_false_iff_not, Bool.not_eq_true, Bool.not_eq_false, Decidable.not_not] at hc0
    have hle := flat_le shownB l k zShownV (by omega)
    refine J.skip ?_
    refine E.next ?_
    refine J.seq ?_
    refine J.block ?_
    refine J.seq ?_
    refine J.regL (is := [0, 1, 2, 3]) rfl ?_
    refine JO.plain (R := ptr (kShown.fp (l.getD k zShownV))) rfl rfl rfl (Nat.le_of_ble_eq_true rfl) (g_index (i := (k : Int)) (d := zShownV) rfl sl43 (Ent.refl _) (Ent.refl _) (by first | omega | (simp only [vs0, vs1, decide_eq_true_eq, decide_eq_false_iff_not, Bool.not_eq_true, Bool.not_eq_false, Decidable.not_not] at *; omega) | (simp [vs0, vs1, decide_eq_true_eq, decide_eq_false_iff_not, Bool.not_eq_true, Bool.not_eq_false, Decidable.not_not] at *; omega))) ?_
    refine JO.plain (R := kShown.rep (l.getD k zShownV)) rfl rfl rfl (Nat.le_of_ble_eq_true rfl) (g_load rfl ld70 (Ent.refl _)) ?_
    refine JO.newB rfl rfl rfl (Nat.le_of_ble_eq_true rfl) (op_alloc (f := kShown.fp (zShownV)) rfl zt70 (fun h => zShown h)) (fun b1 => ?_)
    refine JO.store (f := kShown.fp (zShownV)) (f' := kShown.fp (l.getD k zShownV)) (g := kShown.fp (l.getD k zShownV)) rfl rfl rfl rfl (Ent.refl _) (Ent.refl _) ld70.2 (Turn.all _ _ rfl) ?_
    refine JO.nil ?_
    refine E.next ?_
    refine J.reg_ hmix ([plain (clo 74 []), plain ((kSl kU8).rep (b ++ (num8 l.length ++ (l.take k).flatMap shownB))), plain (kShown.rep (l.getD k zShownV)), plain ((kSl kU8).rep ((b ++ (num8 l.length ++ (l.take k).flatMap shownB)) ++ shownB (l.getD k zShownV))), plain ((kSl kU8).rep ((b ++ (num8 l.length ++ (l.take k).flatMap shownB)) ++ shownB (l.getD k zShownV)))]) (by kernel_rfl) rfl ⟨OpG.none_ rfl (op_move rfl (Ent.refl _)), OpG.none_ rfl (op_move rfl (Ent.refl _)), OpG.none_ rfl (g_loadP (f := kShown.fp (l.getD k zShownV)) (g := kShown.fp (l.getD k zShownV)) rfl ld70 (by repeat (first | exact List.mem_cons_self | apply List.mem_cons_of_mem)) (Part.all _) (Ent.refl _)), OpG.none_ rfl (g_callg rfl en74 (Rs := [(kSl kU8).rep (b ++ (num8 l.length ++ (l.take k).flatMap shownB)), kShown.rep (l.getD k zShownV)]) (Cs := []) (puts_ct (b ++ (num8 l.length ++ (l.take k).flatMap shownB)) (l.getD k zShownV) (by first | omega | (simp only [vs0, vs1, decide_eq_true_eq, decide_eq_false_iff_not, Bool.not_eq_true, Bool.not_eq_false, Decidable.not_not] at *; omega) | (simp [vs0, vs1, decide_eq_true_eq, decide_eq_false_iff_not, Bool.not_eq_true, Bool.not_eq_false, Decidable.not_not] at *; omega))) (Ent.refl _) ⟨(Ent.refl _), (Ent.refl _), trivial⟩), OpG.none_ rfl (op_assign rfl (Ent.refl _)), trivial⟩ rfl ?_
    refine E.blockEnd ?_
    refine E.next ?_
    refine J.reg_ hmix ([plain (Rep.is (.int .i64 ((k : Int) + 1))), plain (Rep.is (.int .i64 ((k : Int) + 1)))]) (by kernel_rfl) rfl ⟨OpG.none_ rfl (g_add rfl (Ent.refl _) (Ent.refl _) (by first | omega | (simp only [vs0, vs1, decide_eq_true_eq, decide_eq_false_iff_not, Bool.not_eq_true, Bool.not_eq_false, Decidable.not_not] at *; omega) | (simp [vs0, vs1, decide_eq_true_eq, decide_eq_false_iff_not, Bool.not_eq_true, Bool.not_eq_false, Decidable.not_not] at *; omega))), OpG.none_ rfl (op_move rfl (Ent.refl _)), trivial⟩ rfl ?_
    refine E.drop (l' := []) (by repeat (first | exact List.Sublist.refl _ | apply List.Sublist.cons_cons | apply List.Sublist.cons)) ?_
    exact E.again (k + 1) (by first | rfl | (simp; done)) (by omega) (by omega) (by exact (Sub.upd (Sub.upd (Sub.upd (Sub.upd (Sub.upd (Sub.upd (Sub.top _) 0 (ent_v (k := (kSl kU8)) (a := (b ++ (num8 l.length ++ (l.take k).flatMap shownB)) ++ shownB (l.getD k zShownV)) (b := b ++ (num8 l.length ++ (l.take (k + 1)).flatMap shownB)) (by rw [flat_step shownB l k zShownV (by omega)]; simp))) 2 (Ent.refl _)) 6 (Ent.refl _)) 13 (Ent.refl _)) 14 (Ent.refl _)) 15 (ent_i (by first | rfl | (simp; done) | omega | (simp only [vs0, vs1, decide_eq_true_eq, decide_eq_false_iff_not, Bool.not_eq_true, Bool.not_eq_false, Decidable.not_not] at *; omega) | (simp [vs0, vs1, decide_eq_true_eq, decide_eq_false_iff_not, Bool.not_eq_true, Bool.not_eq_false, Decidable.not_not, *]; done)))))
  ·
    try simp only [vb0, decide_eq_true_eq, decide_eq_false_iff_not, Bool.not_eq_true, Bool.not_eq_false, Decidable.not_not] at hc0
    refine J.exit ?_
    refine E.passX ?_
    refine E.passX ?_
    refine E.hit ?_
    refine E.next ?_
    refine J.seq ?_
    refine J.reg_ hmix ([plain ((kSl kU8).rep (b ++ (num8 l.length ++ (l.take k).flatMap shownB))), plain ((kSl kU8).rep (b ++ (num8 l.length ++ (l.take k).flatMap shownB)))]) (by kernel_rfl) rfl ⟨OpG.none_ rfl (op_move rfl (Ent.refl _)), OpG.none_ rfl (op_assign rfl (Ent.refl _)), trivial⟩ rfl ?_
    refine E.next ?_
    refine J.ret ?_
    exact E.ret1 rfl (ent_v (k := (kSl kU8)) (a := b ++ (num8 l.length ++ (l.take k).flatMap shownB)) (b := b ++ rowsB shownB l) (by (have := hl0; have h8 : k = l.length := by omega); subst h8; simp [rowsB]))
-- sealery/command.rows[sealery/api.Entry]
theorem rows_e_ct (b : List UInt8) (l : List Entry) (hb : b.length + (8 + (l.flatMap entryB).length) ≤ 35184372088832) : Ct Tryz.prog 75 [(kSl kU8).rep (b), (kSl kEntry).rep (l), clo 76 []] ((kSl kU8).rep (b ++ rowsB entryB l)) := by
  refine CtG.of Tryz.func75 rfl rfl (Nat.le_of_ble_eq_true rfl) (fun w0 h0 hp => ?_)
  refine J.len (s := 0) (k := kU8) (xs := b) (Ent.refl _) (fun hlen_0 => ?_)
  refine J.len (s := 1) (k := kEntry) (xs := l) (Ent.refl _) (fun hlen_1 => ?_)
  refine J.seq ?_
  refine J.reg_ hmix ([plain (Rep.is (.slice none 0 0))]) (by kernel_rfl) rfl ⟨OpG.none_ rfl (op_assign rfl (Ent.refl _)), trivial⟩ rfl ?_
  refine E.next ?_
  refine J.seq ?_
  refine J.reg_ hmix ([plain ((kSl kU8).rep (b)), plain ((kSl kEntry).rep (l)), plain (Rep.is (.int .i64 (((l).length : Int)))), plain ((kSl kU8).rep (b ++ num8 ((l).length : Int))), plain ((kSl kU8).rep (b ++ num8 ((l).length : Int)))]) (by kernel_rfl) rfl ⟨OpG.none_ rfl (op_move rfl (Ent.refl _)), OpG.none_ rfl (op_move rfl (Ent.refl _)), OpG.none_ rfl (g_len rfl sl44 (Ent.refl _)), OpG.none_ rfl (g_call rfl en118 (pack_Int_ct b ((l).length : Int) (by first | omega | (simp only [vs0, vs1, decide_eq_true_eq, decide_eq_false_iff_not, Bool.not_eq_true, Bool.not_eq_false, Decidable.not_not] at *; omega) | (simp [vs0, vs1, decide_eq_true_eq, decide_eq_false_iff_not, Bool.not_eq_true, Bool.not_eq_false, Decidable.not_not] at *; omega))) ⟨(Ent.refl _), (Ent.refl _), trivial⟩), OpG.none_ rfl (op_assign rfl (Ent.refl _)), trivial⟩ rfl ?_
  refine E.next ?_
  refine J.seq ?_
  refine J.seq ?_
  refine J.reg_ hmix ([plain ((kSl kEntry).rep (l)), plain (Rep.is (.int .i64 (((l).length : Int)))), plain (Rep.is (.int .i64 (0)))]) (by kernel_rfl) rfl ⟨OpG.none_ rfl (op_move rfl (Ent.refl _)), OpG.none_ rfl (g_len rfl sl44 (Ent.refl _)), OpG.none_ rfl (op_move rfl (Ent.refl _)), trivial⟩ rfl ?_
  refine E.next ?_
  refine J.block ?_
  refine J.loop (ι := Nat) (fun i_ => (upd (upd (upd (upd (upd (upd top 0 ((kSl kU8).rep (b ++ (num8 l.length ++ (l.take i_).flatMap entryB)))) 2 (clo 76 [])) 6 (Rep.is (.slice none 0 0))) 13 ((kSl kEntry).rep (l))) 14 (Rep.is (.int .i64 (((l).length : Int))))) 15 (Rep.is (.int .i64 ((i_ : Int)))))) (fun i_ => []) (fun i_ => i_ ≤ l.length) (fun i_ => l.length - i_) (0) (by first | rfl | (simp; done)) (by first | omega | (simp [vs0, vs1, decide_eq_true_eq, decide_eq_false_iff_not, Bool.not_eq_true, Bool.not_eq_false, Decidable.not_not, *]; done) | (simp [vs0, vs1, decide_eq_true_eq, decide_eq_false_iff_not, Bool.not_eq_true, Bool.not_eq_false, Decidable.not_not, *]; omega)) (by exact (Sub.upd (Sub.upd (Sub.upd (Sub.upd (Sub.upd (Sub.upd (Sub.top _) 0 (ent_v (k := (kSl kU8)) (a := b ++ num8 ((l).length : Int)) (b := b ++ (num8 l.length ++ (l.take 0).flatMap entryB)) (by simp))) 2 (Ent.refl _)) 6 (Ent.refl _)) 13 (Ent.refl _)) 14 (Ent.refl _)) 15 (ent_i (by first | rfl | (simp; done) | omega | (simp only [vs0, vs1, decide_eq_true_eq, decide_eq_false_iff_not, Bool.not_eq_true, Bool.not_eq_false, Decidable.not_not] at *; omega) | (simp [vs0, vs1, decide_eq_true_eq, decide_eq_false_iff_not, Bool.not_eq_true, Bool.not_eq_false, Decidable.not_not, *]; done))))) ?_
  rintro k hl0
  skip
  refine J.seq ?_
  refine J.reg_ hmix ([plain (Rep.is (.bool (decide ((k : Int) < ((l).length : Int)))))]) (by kernel_rfl) rfl ⟨OpG.none_ rfl (op_lss rfl (Ent.refl _) (Ent.refl _)), trivial⟩ rfl ?_
  refine E.next ?_
  refine J.seq ?_
  refine J.cond (B := decide ((k : Int) < ((l).length : Int))) (Ent.refl _) (fun hc0 => ?_) (fun hc0 => ?_)
  ·
    try simp only [vb0, decide_eq_true_eq, decide_eq_false_iff_not, Bool.not_eq_true, Bool.not_eq_false, Decidable.not_not] at hc0
    have hle := flat_le entryB l k zEntryV (by omega)
    refine J.skip ?_
    refine E.next ?_
    refine J.seq ?_
    refine J.block ?_
    refine J.seq ?_
    refine J.regL (is := [0, 1, 2, 3]) rfl ?_
    refine JO.plain (R := ptr (kEntry.fp (l.getD k zEntryV))) rfl rfl rfl (Nat.le_of_ble_eq_true rfl) (g_index (i := (k : Int)) (d := zEntryV) rfl sl44 (Ent.refl _) (Ent.refl _) (by first | omega | (simp only [vs0, vs1, decide_eq_true_eq, decide_eq_false_iff_not, Bool.not_eq_true, Bool.not_eq_false, Decidable.not_not] at *; omega) | (simp [vs0, vs1, decide_eq_true_eq, decide_eq_false_iff_not, Bool.not_eq_true, Bool.not_eq_false, Decidable.not_not] at *; omega))) ?_
    refine JO.plain (R := kEntry.rep (l.getD k zEntryV)) rfl rfl rfl (Nat.le_of_ble_eq_true rfl) (g_load rfl ld72 (Ent.refl _)) ?_
    refine JO.newB rfl rfl rfl (Nat.le_of_ble_eq_true rfl) (op_alloc (f := kEntry.fp (zEntryV)) rfl zt72 (fun h => zEntry h)) (fun b1 => ?_)
    refine JO.store (f := kEntry.fp (zEntryV)) (f' := kEntry.fp (l.getD k zEntryV)) (g := kEntry.fp (l.getD k zEntryV)) rfl rfl rfl rfl (Ent.refl _) (Ent.refl _) ld72.2 (Turn.all _ _ rfl) ?_
    refine JO.nil ?_
    refine E.next ?_
    refine J.reg_ hmix ([plain (clo 76 []), plain ((kSl kU8).rep (b ++ (num8 l.length ++ (l.take k).flatMap entryB))), plain (kEntry.rep (l.getD k zEntryV)), plain ((kSl kU8).rep ((b ++ (num8 l.length ++ (l.take k).flatMap entryB)) ++ entryB (l.getD k zEntryV))), plain ((kSl kU8).rep ((b ++ (num8 l.length ++ (l.take k).flatMap entryB)) ++ entryB (l.getD k zEntryV)))]) (by kernel_rfl) rfl ⟨OpG.none_ rfl (op_move rfl (Ent.refl _)), OpG.none_ rfl (op_move rfl (Ent.refl _)), OpG.none_ rfl (g_loadP (f := kEntry.fp (l.getD k zEntryV)) (g := kEntry.fp (l.getD k zEntryV)) rfl ld72 (by repeat (first | exact List.mem_cons_self | apply List.mem_cons_of_mem)) (Part.all _) (Ent.refl _)), OpG.none_ rfl (g_callg rfl en76 (Rs := [(kSl kU8).rep (b ++ (num8 l.length ++ (l.take k).flatMap entryB)), kEntry.rep (l.getD k zEntryV)]) (Cs := []) (pute_ct (b ++ (num8 l.length ++ (l.take k).flatMap entryB)) (l.getD k zEntryV) (by first | omega | (simp only [vs0, vs1, decide_eq_true_eq, decide_eq_false_iff_not, Bool.not_eq_true, Bool.not_eq_false, Decidable.not_not] at *; omega) | (simp [vs0, vs1, decide_eq_true_eq, decide_eq_false_iff_not, Bool.not_eq_true, Bool.not_eq_false, Decidable.not_not] at *; omega))) (Ent.refl _) ⟨(Ent.refl _), (Ent.refl _), trivial⟩), OpG.none_ rfl (op_assign rfl (Ent.refl _)), trivial⟩ rfl ?_
    refine E.blockEnd ?_
    refine E.next ?_
    refine J.reg_ hmix ([plain (Rep.is (.int .i64 ((k : Int) + 1))), plain (Rep.is (.int .i64 ((k : Int) + 1)))]) (by kernel_rfl) rfl ⟨OpG.none_ rfl (g_add rfl (Ent.refl _) (Ent.refl _) (by first | omega | (simp only [vs0, vs1, decide_eq_true_eq, decide_eq_false_iff_not, Bool.not_eq_true, Bool.not_eq_false, Decidable.not_not] at *; omega) | (simp [vs0, vs1, decide_eq_true_eq, decide_eq_false_iff_not, Bool.not_eq_true, Bool.not_eq_false, Decidable.not_not] at *; omega))), OpG.none_ rfl (op_move rfl (Ent.refl _)), trivial⟩ rfl ?_
    refine E.drop (l' := []) (by repeat (first | exact List.Sublist.refl _ | apply List.Sublist.cons_cons | apply List.Sublist.cons)) ?_
    exact E.again (k + 1) (by first | rfl | (simp; done)) (by omega) (by omega) (by exact (Sub.upd (Sub.upd (Sub.upd (Sub.upd (Sub.upd (Sub.upd (Sub.top _) 0 (ent_v (k := (kSl kU8)) (a := (b ++ (num8 l.length ++ (l.take k).flatMap entryB)) ++ entryB (l.getD k zEntryV)) (b := b ++ (num8 l.length ++ (l.take (k + 1)).flatMap entryB)) (by rw [flat_step entryB l k zEntryV (by omega)]; simp))) 2 (Ent.refl _)) 6 (Ent.refl _)) 13 (Ent.refl _)) 14 (Ent.refl _)) 15 (ent_i (by first | rfl | (simp; done) | omega | (simp only [vs0, vs1, decide_eq_true_eq, decide_eq_false_iff_not, Bool.not_eq_true, Bool.not_eq_false, Decidable.not_not] at *; omega) | (simp [vs0, vs1, decide_eq_true_eq, decide_eq_false_iff_not, Bool.not_eq_true, Bool.not_eq_false, Decidable.not_not, *]; done)))))
  ·
    try simp only [vb0, decide_eq_true_eq, decide_eq_false_iff_not, Bool.not_eq_true, Bool.not_eq_false, Decidable.not_not] at hc0
    refine J.exit ?_
    refine E.passX ?_
    refine E.passX ?_
    refine E.hit ?_
    refine E.next ?_
    refine J.seq ?_
    refine J.reg_ hmix ([plain ((kSl kU8).rep (b ++ (num8 l.length ++ (l.take k).flatMap entryB))), plain ((kSl kU8).rep (b ++ (num8 l.length ++ (l.take k).flatMap entryB)))]) (by kernel_rfl) rfl ⟨OpG.none_ rfl (op_move rfl (Ent.refl _)), OpG.none_ rfl (op_assign rfl (Ent.refl _)), trivial⟩ rfl ?_
    refine E.next ?_
    refine J.ret ?_
    exact E.ret1 rfl (ent_v (k := (kSl kU8)) (a := b ++ (num8 l.length ++ (l.take k).flatMap entryB)) (b := b ++ rowsB entryB l) (by (have := hl0; have h8 : k = l.length := by omega); subst h8; simp [rowsB]))
end Go.Proofs.YtdioiepkbolnlaaGreatDoor
