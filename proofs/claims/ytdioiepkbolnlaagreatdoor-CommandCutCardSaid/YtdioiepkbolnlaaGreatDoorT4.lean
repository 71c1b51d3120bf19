import Derived.Test.YtdioiepkbolnlaaGreatDoorT3
import Derived.Test.YtdioiepkbolnlaaGreatDoorChk
set_option linter.unusedSimpArgs false
set_option linter.unusedVariables false
set_option linter.unnecessarySimpa false
set_option maxRecDepth 100000
set_option maxHeartbeats 4000000
namespace Go.Proofs.YtdioiepkbolnlaaGreatDoor
open Go.RowKit
attribute [local irreducible] OpC OpM 
theorem en126 : Enters Tryz.prog 126 := enters_of Tryz.func126 (by kernel_rfl) rfl
theorem ld85 : LdT Tryz.prog 85 false 1 := ⟨by kernel_rfl, by kernel_rfl⟩
theorem en80 : Enters Tryz.prog 80 := enters_of Tryz.func80 (by kernel_rfl) rfl
theorem en55 : Enters Tryz.prog 55 := enters_of Tryz.func55 (by kernel_rfl) rfl
theorem en123 : Enters Tryz.prog 123 := enters_of Tryz.func123 (by kernel_rfl) rfl
theorem en125 : Enters Tryz.prog 125 := enters_of Tryz.func125 (by kernel_rfl) rfl
theorem en151 : Enters Tryz.prog 151 := enters_of Tryz.func151 (by kernel_rfl) rfl
theorem en79 : Enters Tryz.prog 79 := enters_of Tryz.func79 (by kernel_rfl) rfl
theorem en131 : Enters Tryz.prog 131 := enters_of Tryz.func131 (by kernel_rfl) rfl
theorem en81 : Enters Tryz.prog 81 := enters_of Tryz.func81 (by kernel_rfl) rfl
theorem en132 : Enters Tryz.prog 132 := enters_of Tryz.func132 (by kernel_rfl) rfl
theorem en124 : Enters Tryz.prog 124 := enters_of Tryz.func124 (by kernel_rfl) rfl
theorem fa31_2 : FaT Tryz.prog 31 2 36 0 := ⟨by kernel_rfl, by kernel_rfl⟩
theorem fa31_3 : FaT Tryz.prog 31 3 37 0 := ⟨by kernel_rfl, by kernel_rfl⟩
theorem fa31_4 : FaT Tryz.prog 31 4 38 0 := ⟨by kernel_rfl, by kernel_rfl⟩
theorem fa31_5 : FaT Tryz.prog 31 5 39 0 := ⟨by kernel_rfl, by kernel_rfl⟩
theorem ld27 : LdT Tryz.prog 27 false 1 := ⟨by kernel_rfl, by kernel_rfl⟩
theorem fa31_6 : FaT Tryz.prog 31 6 40 0 := ⟨by kernel_rfl, by kernel_rfl⟩
theorem fa31_7 : FaT Tryz.prog 31 7 41 0 := ⟨by kernel_rfl, by kernel_rfl⟩
theorem fa31_8 : FaT Tryz.prog 31 8 42 3 := ⟨by kernel_rfl, by kernel_rfl⟩
theorem bs29 : ∀ ps, Tryz.prog.built 29 ps = Instr.fill (fun i => ([(0, 1), (1, 1), (2, 1), (3, 1)] : List (Nat × Nat)).toArray[i]?) #[.int .i64 0, .string ⟨#[]⟩, .bool false, .int .i64 0] ps := fun _ => by kernel_rfl
theorem fa31_9 : FaT Tryz.prog 31 9 46 0 := ⟨by kernel_rfl, by kernel_rfl⟩
theorem sl145 : SlT Tryz.prog 145 4 1 := ⟨by kernel_rfl, by kernel_rfl⟩
theorem zt4 : ∀ w, (zeroValue 4).run Tryz.prog w = .ok (.bool false) w := fun _ => by kernel_rfl
theorem fa31_0 : FaT Tryz.prog 31 0 0 0 := ⟨by kernel_rfl, by kernel_rfl⟩
theorem ar86 : ArT Tryz.prog 86 9 85 1 := ⟨by kernel_rfl, by kernel_rfl, by decide⟩
theorem zt85 : ∀ w, (zeroValue 85).run Tryz.prog w = .ok (.int .u64 0) w := fun _ => by kernel_rfl
theorem en54 : Enters Tryz.prog 54 := enters_of Tryz.func54 (by kernel_rfl) rfl
theorem en56 : Enters Tryz.prog 56 := enters_of Tryz.func56 (by kernel_rfl) rfl
theorem en57 : Enters Tryz.prog 57 := enters_of Tryz.func57 (by kernel_rfl) rfl
theorem fa31_1 : FaT Tryz.prog 31 1 1 34 := ⟨by kernel_rfl, by kernel_rfl⟩
theorem en58 : Enters Tryz.prog 58 := enters_of Tryz.func58 (by kernel_rfl) rfl
theorem ld26 : LdT Tryz.prog 26 true 35 := ⟨by kernel_rfl, by kernel_rfl⟩
theorem en59 : Enters Tryz.prog 59 := enters_of Tryz.func59 (by kernel_rfl) rfl
theorem en60 : Enters Tryz.prog 60 := enters_of Tryz.func60 (by kernel_rfl) rfl
theorem ld31 : LdT Tryz.prog 31 true 47 := ⟨by kernel_rfl, by kernel_rfl⟩
theorem en61 : Enters Tryz.prog 61 := enters_of Tryz.func61 (by kernel_rfl) rfl
theorem fa46_2 : FaT Tryz.prog 46 2 2 0 := ⟨by kernel_rfl, by kernel_rfl⟩
theorem ld43 : LdT Tryz.prog 43 false 1 := ⟨by kernel_rfl, by kernel_rfl⟩
theorem fa46_4 : FaT Tryz.prog 46 4 38 0 := ⟨by kernel_rfl, by kernel_rfl⟩
theorem ld44 : LdT Tryz.prog 44 false 1 := ⟨by kernel_rfl, by kernel_rfl⟩
theorem fa46_3 : FaT Tryz.prog 46 3 3 34 := ⟨by kernel_rfl, by kernel_rfl⟩
theorem en82 : Enters Tryz.prog 82 := enters_of Tryz.func82 (by kernel_rfl) rfl
theorem en83 : Enters Tryz.prog 83 := enters_of Tryz.func83 (by kernel_rfl) rfl

theorem grT : GrT Tryz.prog 29 3 9 4 := ⟨by kernel_rfl, by kernel_rfl, by kernel_rfl, by kernel_rfl, by kernel_rfl, by kernel_rfl, by kernel_rfl, by kernel_rfl, by kernel_rfl, by kernel_rfl⟩
-- sealery/right.Check
theorem rcheck_ct (g : Grant) : Ct Tryz.prog 60 [kGrant.rep (g)] (Rep.is (.int .i64 (grantOk g))) := by
  refine CtG.of Tryz.func60 rfl rfl (Nat.le_of_ble_eq_true rfl) (fun w0 h0 hp => ?_)
  refine J.seq ?_
  refine J.reg_ hmix ([plain (ptr (kGrant.fp (g))), plain (Rep.is (.int .i64 (0)))]) (by kernel_rfl) rfl ⟨OpG.none_ rfl (op_box (f := kGrant.fp (g)) rfl (Ent.refl _)), OpG.none_ rfl (op_assign rfl (Ent.refl _)), trivial⟩ rfl ?_
  refine E.next ?_
  refine J.seq ?_
  refine J.block ?_
  refine J.seq ?_
  refine J.seq ?_
  refine J.reg_ hmix ([plain (ptr ((kI .i64).fp (g.rts))), plain (Rep.is (.int .i64 (g.rts))), plain (Rep.is (.bool (decide (g.rts < 1)))), plain (Rep.is (.bool (decide (g.rts < 1)))), plain (Rep.cond (True ∧ (decide (g.rts < 1)) = false) (ptr ((kI .i64).fp (g.rts)))), plain (Rep.cond (True ∧ (decide (g.rts < 1)) = false) (Rep.is (.int .i64 (g.rts)))), plain (Rep.cond (True ∧ (decide (g.rts < 1)) = false) (Rep.is (.bool (decide (127 < g.rts))))), plain (Rep.is (.bool ((decide (g.rts < 1)) || (decide (127 < g.rts))))), plain (Rep.is (.bool ((decide (g.rts < 1)) || (decide (127 < g.rts)))))]) (by kernel_rfl) rfl ⟨OpG.none_ rfl (g_field (l := kGrantF (g)) rfl fa29_0 (fun _ _ e => e) rfl rfl (Ent.refl _)), OpG.none_ rfl (g_loadI rfl ld3 (Ent.refl _)), OpG.none_ rfl (op_lss rfl (Ent.refl _) (Ent.refl _)), OpG.none_ rfl (op_move rfl (Ent.refl _)), OpG.one_ rfl rfl rfl (fun hg => (g_field (l := kGrantF (g)) rfl fa29_0 (fun _ _ e => e) rfl rfl (Ent.refl _))), OpG.one_ rfl rfl rfl (fun hg => (g_loadI rfl ld3 (Ent.cond (q := True ∧ (decide (g.rts < 1)) = false) (R := ptr ((kI .i64).fp (g.rts))) ⟨trivial, hg⟩ (Ent.refl _)))), OpG.one_ rfl rfl rfl (fun hg => (op_gtr rfl (Ent.cond (q := True ∧ (decide (g.rts < 1)) = false) (R := Rep.is (.int .i64 (g.rts))) ⟨trivial, hg⟩ (Ent.refl _)) (Ent.refl _))), OpG.none_ rfl (op_or rfl (Ent.refl _) rfl (fun hz => Ent.cond (q := True ∧ (decide (g.rts < 1)) = false) (R := Rep.is (.bool (decide (127 < g.rts)))) ⟨trivial, hz⟩ (Ent.refl _))), OpG.none_ rfl (op_assign rfl (Ent.refl _)), trivial⟩ rfl ?_
  refine E.next ?_
  refine J.cond (B := (decide (g.rts < 1)) || (decide (127 < g.rts))) (Ent.refl _) (fun hc0 => ?_) (fun hc0 => ?_)
  ·
    try simp only [vb0, decide_eq_true_eq, decide_eq_false_iff_not, Bool.not_eq_true, Bool.not_eq_false, Decidable.not_not] at hc0
    refine J.skip ?_
    refine E.next ?_
    refine J.cond (B := (decide (g.rts < 1)) || (decide (127 < g.rts))) (Ent.refl _) (fun hc1 => ?_) (fun hc1 => ?_)
    ·
      try simp only [vb0, decide_eq_true_eq, decide_eq_false_iff_not, Bool.not_eq_true, Bool.not_eq_false, Decidable.not_not] at hc1
      refine J.seq ?_
      refine J.reg_ hmix ([plain (Rep.is (.int .i64 (1)))]) (by kernel_rfl) rfl ⟨OpG.none_ rfl (op_assign rfl (Ent.refl _)), trivial⟩ rfl ?_
      refine E.next ?_
      refine J.ret ?_
      refine E.passRb ?_
      refine E.passR ?_
      exact E.ret1 rfl (ent_i (by first | (simp [grantOk, *]; done) | (exfalso; omega) | (rcases hc6 with h6 | h6 <;> simp [grantOk, *] <;> omega) | (unfold grantOk; grind)))
    ·
      try simp only [vb0, decide_eq_true_eq, decide_eq_false_iff_not, Bool.not_eq_true, Bool.not_eq_false, Decidable.not_not] at hc1
      refine J.seq ?_
      refine J.reg_ hmix ([plain (ptr (kS.fp (g.pre))), plain (Rep.is (.string (g.pre))), plain (Rep.is (.bool (preOk g.pre))), plain (Rep.is (.bool (!(preOk g.pre)))), plain (Rep.is (.bool (!(preOk g.pre))))]) (by kernel_rfl) rfl ⟨OpG.none_ rfl (g_field (l := kGrantF (g)) rfl fa29_1 (fun _ _ e => e) rfl rfl (Ent.refl _)), OpG.none_ rfl (g_loadS rfl ld9 (Ent.refl _)), OpG.none_ rfl (g_call rfl en126 (prefixed_ct g.pre) ⟨(Ent.refl _), trivial⟩), OpG.none_ rfl (op_not rfl (Ent.refl _)), OpG.none_ rfl (op_assign rfl (Ent.refl _)), trivial⟩ rfl ?_
      refine E.next ?_
      refine J.cond (B := !(preOk g.pre)) (Ent.refl _) (fun hc2 => ?_) (fun hc2 => ?_)
      ·
        try simp only [vb0, decide_eq_true_eq, decide_eq_false_iff_not, Bool.not_eq_true, Bool.not_eq_false, Decidable.not_not] at hc2
        refine J.seq ?_
        refine J.reg_ hmix ([plain (Rep.is (.int .i64 (10)))]) (by kernel_rfl) rfl ⟨OpG.none_ rfl (op_assign rfl (Ent.refl _)), trivial⟩ rfl ?_
        refine E.next ?_
        refine J.ret ?_
        refine E.passRb ?_
        refine E.passR ?_
        exact E.ret1 rfl (ent_i (by first | (simp [grantOk, *]; done) | (exfalso; omega) | (rcases hc6 with h6 | h6 <;> simp [grantOk, *] <;> omega) | (unfold grantOk; grind)))
      ·
        try simp only [vb0, decide_eq_true_eq, decide_eq_false_iff_not, Bool.not_eq_true, Bool.not_eq_false, Decidable.not_not] at hc2
        refine J.skip ?_
        refine E.blockEnd ?_
        refine E.next ?_
        refine J.seq ?_
        refine J.reg_ hmix ([plain (Rep.is (.int .i64 (0)))]) (by kernel_rfl) rfl ⟨OpG.none_ rfl (op_assign rfl (Ent.refl _)), trivial⟩ rfl ?_
        refine E.next ?_
        refine J.ret ?_
        exact E.ret1 rfl (ent_i (by first | (simp [grantOk, *]; done) | (exfalso; omega) | (rcases hc6 with h6 | h6 <;> simp [grantOk, *] <;> omega) | (unfold grantOk; grind)))
  ·
    try simp only [vb0, decide_eq_true_eq, decide_eq_false_iff_not, Bool.not_eq_true, Bool.not_eq_false, Decidable.not_not] at hc0
    refine J.seq ?_
    refine J.reg_ hmix ([plain (ptr ((kI .i64).fp (g.unt))), plain (Rep.is (.int .i64 (g.unt))), plain (Rep.is (.bool (decide (g.unt < 0)))), plain (Rep.is (.bool (decide (g.unt < 0)))), plain (Rep.cond (True ∧ (decide (g.unt < 0)) = false) (ptr ((kI .i64).fp (g.unt)))), plain (Rep.cond (True ∧ (decide (g.unt < 0)) = false) (Rep.is (.int .i64 (g.unt)))), plain (Rep.cond (True ∧ (decide (g.unt < 0)) = false) (Rep.is (.bool (decide (1099511627776 < g.unt))))), plain (Rep.is (.bool ((decide (g.unt < 0)) || (decide (1099511627776 < g.unt))))), plain (Rep.is (.bool ((decide (g.unt < 0)) || (decide (1099511627776 < g.unt)))))]) (by kernel_rfl) rfl ⟨OpG.none_ rfl (g_field (l := kGrantF (g)) rfl fa29_3 (fun _ _ e => e) rfl rfl (Ent.refl _)), OpG.none_ rfl (g_loadI rfl ld3 (Ent.refl _)), OpG.none_ rfl (op_lss rfl (Ent.refl _) (Ent.refl _)), OpG.none_ rfl (op_move rfl (Ent.refl _)), OpG.one_ rfl rfl rfl (fun hg => (g_field (l := kGrantF (g)) rfl fa29_3 (fun _ _ e => e) rfl rfl (Ent.refl _))), OpG.one_ rfl rfl rfl (fun hg => (g_loadI rfl ld3 (Ent.cond (q := True ∧ (decide (g.unt < 0)) = false) (R := ptr ((kI .i64).fp (g.unt))) ⟨trivial, hg⟩ (Ent.refl _)))), OpG.one_ rfl rfl rfl (fun hg => (op_gtr rfl (Ent.cond (q := True ∧ (decide (g.unt < 0)) = false) (R := Rep.is (.int .i64 (g.unt))) ⟨trivial, hg⟩ (Ent.refl _)) (Ent.refl _))), OpG.none_ rfl (op_or rfl (Ent.refl _) rfl (fun hz => Ent.cond (q := True ∧ (decide (g.unt < 0)) = false) (R := Rep.is (.bool (decide (1099511627776 < g.unt)))) ⟨trivial, hz⟩ (Ent.refl _))), OpG.none_ rfl (op_assign rfl (Ent.refl _)), trivial⟩ rfl ?_
    refine E.next ?_
    refine J.cond (B := (decide (g.unt < 0)) || (decide (1099511627776 < g.unt))) (Ent.refl _) (fun hc3 => ?_) (fun hc3 => ?_)
    ·
      try simp only [vb0, decide_eq_true_eq, decide_eq_false_iff_not, Bool.not_eq_true, Bool.not_eq_false, Decidable.not_not] at hc3
      refine J.skip ?_
      refine E.next ?_
      refine J.cond (B := (decide (g.unt < 0)) || (decide (1099511627776 < g.unt))) (Ent.refl _) (fun hc4 => ?_) (fun hc4 => ?_)
      ·
        try simp only [vb0, decide_eq_true_eq, decide_eq_false_iff_not, Bool.not_eq_true, Bool.not_eq_false, Decidable.not_not] at hc4
        refine J.seq ?_
        refine J.reg_ hmix ([plain (Rep.is (.int .i64 (1)))]) (by kernel_rfl) rfl ⟨OpG.none_ rfl (op_assign rfl (Ent.refl _)), trivial⟩ rfl ?_
        refine E.next ?_
        refine J.ret ?_
        refine E.passRb ?_
        refine E.passR ?_
        exact E.ret1 rfl (ent_i (by first | (simp [grantOk, *]; done) | (exfalso; omega) | (rcases hc6 with h6 | h6 <;> simp [grantOk, *] <;> omega) | (unfold grantOk; grind)))
      ·
        try simp only [vb0, decide_eq_true_eq, decide_eq_false_iff_not, Bool.not_eq_true, Bool.not_eq_false, Decidable.not_not] at hc4
        refine J.seq ?_
        refine J.reg_ hmix ([plain (ptr (kS.fp (g.pre))), plain (Rep.is (.string (g.pre))), plain (Rep.is (.bool (preOk g.pre))), plain (Rep.is (.bool (!(preOk g.pre)))), plain (Rep.is (.bool (!(preOk g.pre))))]) (by kernel_rfl) rfl ⟨OpG.none_ rfl (g_field (l := kGrantF (g)) rfl fa29_1 (fun _ _ e => e) rfl rfl (Ent.refl _)), OpG.none_ rfl (g_loadS rfl ld9 (Ent.refl _)), OpG.none_ rfl (g_call rfl en126 (prefixed_ct g.pre) ⟨(Ent.refl _), trivial⟩), OpG.none_ rfl (op_not rfl (Ent.refl _)), OpG.none_ rfl (op_assign rfl (Ent.refl _)), trivial⟩ rfl ?_
        refine E.next ?_
        refine J.cond (B := !(preOk g.pre)) (Ent.refl _) (fun hc5 => ?_) (fun hc5 => ?_)
        ·
          try simp only [vb0, decide_eq_true_eq, decide_eq_false_iff_not, Bool.not_eq_true, Bool.not_eq_false, Decidable.not_not] at hc5
          refine J.seq ?_
          refine J.reg_ hmix ([plain (Rep.is (.int .i64 (10)))]) (by kernel_rfl) rfl ⟨OpG.none_ rfl (op_assign rfl (Ent.refl _)), trivial⟩ rfl ?_
          refine E.next ?_
          refine J.ret ?_
          refine E.passRb ?_
          refine E.passR ?_
          exact E.ret1 rfl (ent_i (by first | (simp [grantOk, *]; done) | (exfalso; omega) | (rcases hc6 with h6 | h6 <;> simp [grantOk, *] <;> omega) | (unfold grantOk; grind)))
        ·
          try simp only [vb0, decide_eq_true_eq, decide_eq_false_iff_not, Bool.not_eq_true, Bool.not_eq_false, Decidable.not_not] at hc5
          refine J.skip ?_
          refine E.blockEnd ?_
          refine E.next ?_
          refine J.seq ?_
          refine J.reg_ hmix ([plain (Rep.is (.int .i64 (0)))]) (by kernel_rfl) rfl ⟨OpG.none_ rfl (op_assign rfl (Ent.refl _)), trivial⟩ rfl ?_
          refine E.next ?_
          refine J.ret ?_
          exact E.ret1 rfl (ent_i (by first | (simp [grantOk, *]; done) | (exfalso; omega) | (rcases hc6 with h6 | h6 <;> simp [grantOk, *] <;> omega) | (unfold grantOk; grind)))
    ·
      try simp only [vb0, decide_eq_true_eq, decide_eq_false_iff_not, Bool.not_eq_true, Bool.not_eq_false, Decidable.not_not] at hc3
      refine J.reg_ hmix ([plain (ptr (kB.fp (g.exa))), plain (Rep.is (.bool (g.exa))), plain (Rep.is (.bool (g.exa))), plain (Rep.cond (True ∧ g.exa = true) (ptr (kS.fp (g.pre)))), plain (Rep.cond (True ∧ g.exa = true) (Rep.is (.string (g.pre)))), plain (Rep.cond (True ∧ g.exa = true) (Rep.is (.bool (decide (g.pre = (⟨#[]⟩ : ByteArray)))))), plain (Rep.is (.bool (g.exa && (decide (g.pre = (⟨#[]⟩ : ByteArray)))))), plain (Rep.is (.bool (g.exa && (decide (g.pre = (⟨#[]⟩ : ByteArray))))))]) (by kernel_rfl) rfl ⟨OpG.none_ rfl (g_field (l := kGrantF (g)) rfl fa29_2 (fun _ _ e => e) rfl rfl (Ent.refl _)), OpG.none_ rfl (g_loadB rfl ld4 (Ent.refl _)), OpG.none_ rfl (op_move rfl (Ent.refl _)), OpG.one_ rfl rfl rfl (fun hg => (g_field (l := kGrantF (g)) rfl fa29_1 (fun _ _ e => e) rfl rfl (Ent.refl _))), OpG.one_ rfl rfl rfl (fun hg => (g_loadS rfl ld9 (Ent.cond (q := True ∧ g.exa = true) (R := ptr (kS.fp (g.pre))) ⟨trivial, hg⟩ (Ent.refl _)))), OpG.one_ rfl rfl rfl (fun hg => (op_seq rfl (Ent.cond (q := True ∧ g.exa = true) (R := Rep.is (.string (g.pre))) ⟨trivial, hg⟩ (Ent.refl _)) (Ent.refl _))), OpG.none_ rfl (op_and rfl (Ent.refl _) (fun hz => Ent.cond (q := True ∧ g.exa = true) (R := Rep.is (.bool (decide (g.pre = (⟨#[]⟩ : ByteArray))))) ⟨trivial, hz⟩ (Ent.refl _)) rfl), OpG.none_ rfl (op_assign rfl (Ent.refl _)), trivial⟩ rfl ?_
      refine E.next ?_
      refine J.cond (B := g.exa && (decide (g.pre = (⟨#[]⟩ : ByteArray)))) (Ent.refl _) (fun hc6 => ?_) (fun hc6 => ?_)
      ·
        try simp only [vb0, decide_eq_true_eq, decide_eq_false_iff_not, Bool.not_eq_true, Bool.not_eq_false, Decidable.not_not] at hc6
        refine J.seq ?_
        refine J.reg_ hmix ([plain (Rep.is (.int .i64 (1)))]) (by kernel_rfl) rfl ⟨OpG.none_ rfl (op_assign rfl (Ent.refl _)), trivial⟩ rfl ?_
        refine E.next ?_
        refine J.ret ?_
        refine E.passRb ?_
        refine E.passR ?_
        exact E.ret1 rfl (ent_i (by first | (simp [grantOk, *]; done) | (exfalso; omega) | (rcases hc6 with h6 | h6 <;> simp [grantOk, *] <;> omega) | (unfold grantOk; grind)))
      ·
        try simp only [vb0, decide_eq_true_eq, decide_eq_false_iff_not, Bool.not_eq_true, Bool.not_eq_false, Decidable.not_not] at hc6
        refine J.seq ?_
        refine J.reg_ hmix ([plain (ptr (kS.fp (g.pre))), plain (Rep.is (.string (g.pre))), plain (Rep.is (.bool (preOk g.pre))), plain (Rep.is (.bool (!(preOk g.pre)))), plain (Rep.is (.bool (!(preOk g.pre))))]) (by kernel_rfl) rfl ⟨OpG.none_ rfl (g_field (l := kGrantF (g)) rfl fa29_1 (fun _ _ e => e) rfl rfl (Ent.refl _)), OpG.none_ rfl (g_loadS rfl ld9 (Ent.refl _)), OpG.none_ rfl (g_call rfl en126 (prefixed_ct g.pre) ⟨(Ent.refl _), trivial⟩), OpG.none_ rfl (op_not rfl (Ent.refl _)), OpG.none_ rfl (op_assign rfl (Ent.refl _)), trivial⟩ rfl ?_
        refine E.next ?_
        refine J.cond (B := !(preOk g.pre)) (Ent.refl _) (fun hc7 => ?_) (fun hc7 => ?_)
        ·
          try simp only [vb0, decide_eq_true_eq, decide_eq_false_iff_not, Bool.not_eq_true, Bool.not_eq_false, Decidable.not_not] at hc7
          refine J.seq ?_
          refine J.reg_ hmix ([plain (Rep.is (.int .i64 (10)))]) (by kernel_rfl) rfl ⟨OpG.none_ rfl (op_assign rfl (Ent.refl _)), trivial⟩ rfl ?_
          refine E.next ?_
          refine J.ret ?_
          refine E.passRb ?_
          refine E.passR ?_
          exact E.ret1 rfl (ent_i (by first | (simp [grantOk, *]; done) | (exfalso; omega) | (rcases hc6 with h6 | h6 <;> simp [grantOk, *] <;> omega) | (unfold grantOk; grind)))
        ·
          try simp only [vb0, decide_eq_true_eq, decide_eq_false_iff_not, Bool.not_eq_true, Bool.not_eq_false, Decidable.not_not] at hc7
          refine J.skip ?_
          refine E.blockEnd ?_
          refine E.next ?_
          refine J.seq ?_
          refine J.reg_ hmix ([plain (Rep.is (.int .i64 (0)))]) (by kernel_rfl) rfl ⟨OpG.none_ rfl (op_assign rfl (Ent.refl _)), trivial⟩ rfl ?_
          refine E.next ?_
          refine J.ret ?_
          exact E.ret1 rfl (ent_i (by first | (simp [grantOk, *]; done) | (exfalso; omega) | (rcases hc6 with h6 | h6 <;> simp [grantOk, *] <;> omega) | (unfold grantOk; grind)))
-- sealery/command.longest
theorem command_longest_ct (s : ByteArray) : Ct Tryz.prog 80 [Rep.is (.string (s))] (Rep.is (.bool (longS s))) := by
  refine CtG.of Tryz.func80 rfl rfl (Nat.le_of_ble_eq_true rfl) (fun w0 h0 hp => ?_)
  refine J.seq ?_
  refine J.reg_ hmix ([plain (Rep.is (.bool (false)))]) (by kernel_rfl) rfl ⟨OpG.none_ rfl (op_assign rfl (Ent.refl _)), trivial⟩ rfl ?_
  refine E.next ?_
  refine J.seq ?_
  refine J.reg_ hmix ([plain (Rep.is (.string (s))), plain (Rep.is (.int .i64 (((s).size : Int)))), plain (Rep.is (.bool (decide (24 < ((s).size : Int))))), plain (Rep.is (.bool (decide (24 < ((s).size : Int)))))]) (by kernel_rfl) rfl ⟨OpG.none_ rfl (op_move rfl (Ent.refl _)), OpG.none_ rfl (op_lens rfl (Ent.refl _) un9), OpG.none_ rfl (op_gtr rfl (Ent.refl _) (Ent.refl _)), OpG.none_ rfl (op_assign rfl (Ent.refl _)), trivial⟩ rfl ?_
  refine E.next ?_
  refine J.ret ?_
  exact E.ret1 rfl (ent_b (by rfl))
-- sealery/command.odd
theorem command_odd_ct (m : Bool) (n : Int) (lo : Int) (hi : Int) : Ct Tryz.prog 57 [Rep.is (.bool (m)), Rep.is (.int .i64 (n)), Rep.is (.int .i64 (lo)), Rep.is (.int .i64 (hi))] (Rep.is (.bool (oddN m n lo hi))) := by
  refine CtG.of Tryz.func57 rfl rfl (Nat.le_of_ble_eq_true rfl) (fun w0 h0 hp => ?_)
  refine J.seq ?_
  refine J.reg_ hmix ([plain (Rep.is (.bool (false)))]) (by kernel_rfl) rfl ⟨OpG.none_ rfl (op_assign rfl (Ent.refl _)), trivial⟩ rfl ?_
  refine E.next ?_
  refine J.seq ?_
  refine J.reg_ hmix ([plain (Rep.is (.bool (m))), plain (Rep.is (.bool (m))), plain (Rep.cond (True ∧ m = true) (Rep.is (.int .i64 (n)))), plain (Rep.cond (True ∧ m = true) (Rep.is (.int .i64 (lo)))), plain (Rep.cond (True ∧ m = true) (Rep.is (.bool (decide (n < lo))))), plain (Rep.cond (True ∧ m = true) (Rep.is (.bool (decide (n < lo))))), plain (Rep.cond ((True ∧ m = true) ∧ (decide (n < lo)) = false) (Rep.is (.int .i64 (n)))), plain (Rep.cond ((True ∧ m = true) ∧ (decide (n < lo)) = false) (Rep.is (.int .i64 (hi)))), plain (Rep.cond ((True ∧ m = true) ∧ (decide (n < lo)) = false) (Rep.is (.bool (decide (hi < n))))), plain (Rep.cond (True ∧ m = true) (Rep.is (.bool ((decide (n < lo)) || (decide (hi < n)))))), plain (Rep.is (.bool (m && ((decide (n < lo)) || (decide (hi < n)))))), plain (Rep.is (.bool (m && ((decide (n < lo)) || (decide (hi < n))))))]) (by kernel_rfl) rfl ⟨OpG.none_ rfl (op_move rfl (Ent.refl _)), OpG.none_ rfl (op_move rfl (Ent.refl _)), OpG.one_ rfl rfl rfl (fun hg => (op_move rfl (Ent.refl _))), OpG.one_ rfl rfl rfl (fun hg => (op_move rfl (Ent.refl _))), OpG.one_ rfl rfl rfl (fun hg => (op_lss rfl (Ent.cond (q := True ∧ m = true) (R := Rep.is (.int .i64 (n))) ⟨trivial, hg⟩ (Ent.refl _)) (Ent.cond (q := True ∧ m = true) (R := Rep.is (.int .i64 (lo))) ⟨trivial, hg⟩ (Ent.refl _)))), OpG.one_ rfl rfl rfl (fun hg => (op_move rfl (Ent.cond (q := True ∧ m = true) (R := Rep.is (.bool (decide (n < lo)))) ⟨trivial, hg⟩ (Ent.refl _)))), OpG.two_ rfl rfl rfl (fun hq hg => (op_move rfl (Ent.refl _))), OpG.two_ rfl rfl rfl (fun hq hg => (op_move rfl (Ent.refl _))), OpG.two_ rfl rfl rfl (fun hq hg => (op_gtr rfl (Ent.cond (q := (True ∧ m = true) ∧ (decide (n < lo)) = false) (R := Rep.is (.int .i64 (n))) ⟨hq, hg⟩ (Ent.refl _)) (Ent.cond (q := (True ∧ m = true) ∧ (decide (n < lo)) = false) (R := Rep.is (.int .i64 (hi))) ⟨hq, hg⟩ (Ent.refl _)))), OpG.one_ rfl rfl rfl (fun hg => (op_or rfl (Ent.cond (q := True ∧ m = true) (R := Rep.is (.bool (decide (n < lo)))) ⟨trivial, hg⟩ (Ent.refl _)) rfl (fun hz => Ent.cond (q := (True ∧ m = true) ∧ (decide (n < lo)) = false) (R := Rep.is (.bool (decide (hi < n)))) ⟨⟨trivial, hg⟩, hz⟩ (Ent.refl _)))), OpG.none_ rfl (op_and rfl (Ent.refl _) (fun hz => Ent.cond (q := True ∧ m = true) (R := Rep.is (.bool ((decide (n < lo)) || (decide (hi < n))))) ⟨trivial, hz⟩ (Ent.refl _)) rfl), OpG.none_ rfl (op_assign rfl (Ent.refl _)), trivial⟩ rfl ?_
  refine E.next ?_
  refine J.ret ?_
  exact E.ret1 rfl (ent_b (by rfl))
-- sealery/command.unnamed
theorem command_unnamed_ct (m : Bool) (s : ByteArray) : Ct Tryz.prog 56 [Rep.is (.bool (m)), Rep.is (.string (s))] (Rep.is (.bool (unnamed m s))) := by
  refine CtG.of Tryz.func56 rfl rfl (Nat.le_of_ble_eq_true rfl) (fun w0 h0 hp => ?_)
  refine J.seq ?_
  refine J.reg_ hmix ([plain (Rep.is (.bool (false)))]) (by kernel_rfl) rfl ⟨OpG.none_ rfl (op_assign rfl (Ent.refl _)), trivial⟩ rfl ?_
  refine E.next ?_
  refine J.seq ?_
  refine J.reg_ hmix ([plain (Rep.is (.bool (m))), plain (Rep.is (.bool (m))), plain (Rep.cond (True ∧ m = false) (Rep.is (.string (s)))), plain (Rep.cond (True ∧ m = false) (Rep.is (.bool (decide (¬ s = (⟨#[]⟩ : ByteArray)))))), plain (Rep.is (.bool (m || (decide (¬ s = (⟨#[]⟩ : ByteArray)))))), plain (Rep.is (.bool (m || (decide (¬ s = (⟨#[]⟩ : ByteArray)))))), plain (Rep.cond (True ∧ (m || (decide (¬ s = (⟨#[]⟩ : ByteArray)))) = true) (Rep.is (.string (s)))), plain (Rep.cond (True ∧ (m || (decide (¬ s = (⟨#[]⟩ : ByteArray)))) = true) (Rep.is (.bool (nameOk s)))), plain (Rep.cond (True ∧ (m || (decide (¬ s = (⟨#[]⟩ : ByteArray)))) = true) (Rep.is (.bool (!(nameOk s))))), plain (Rep.is (.bool ((m || (decide (¬ s = (⟨#[]⟩ : ByteArray)))) && (!(nameOk s))))), plain (Rep.is (.bool ((m || (decide (¬ s = (⟨#[]⟩ : ByteArray)))) && (!(nameOk s)))))]) (by kernel_rfl) rfl ⟨OpG.none_ rfl (op_move rfl (Ent.refl _)), OpG.none_ rfl (op_move rfl (Ent.refl _)), OpG.one_ rfl rfl rfl (fun hg => (op_move rfl (Ent.refl _))), OpG.one_ rfl rfl rfl (fun hg => (op_sne rfl (Ent.cond (q := True ∧ m = false) (R := Rep.is (.string (s))) ⟨trivial, hg⟩ (Ent.refl _)) (Ent.refl _))), OpG.none_ rfl (op_or rfl (Ent.refl _) rfl (fun hz => Ent.cond (q := True ∧ m = false) (R := Rep.is (.bool (decide (¬ s = (⟨#[]⟩ : ByteArray))))) ⟨trivial, hz⟩ (Ent.refl _))), OpG.none_ rfl (op_move rfl (Ent.refl _)), OpG.one_ rfl rfl rfl (fun hg => (op_move rfl (Ent.refl _))), OpG.one_ rfl rfl rfl (fun hg => (g_call rfl en122 (name_ct s) ⟨(Ent.cond (q := True ∧ (m || (decide (¬ s = (⟨#[]⟩ : ByteArray)))) = true) (R := Rep.is (.string (s))) ⟨trivial, hg⟩ (Ent.refl _)), trivial⟩)), OpG.one_ rfl rfl rfl (fun hg => (op_not rfl (Ent.cond (q := True ∧ (m || (decide (¬ s = (⟨#[]⟩ : ByteArray)))) = true) (R := Rep.is (.bool (nameOk s))) ⟨trivial, hg⟩ (Ent.refl _)))), OpG.none_ rfl (op_and rfl (Ent.refl _) (fun hz => Ent.cond (q := True ∧ (m || (decide (¬ s = (⟨#[]⟩ : ByteArray)))) = true) (R := Rep.is (.bool (!(nameOk s)))) ⟨trivial, hz⟩ (Ent.refl _)) rfl), OpG.none_ rfl (op_assign rfl (Ent.refl _)), trivial⟩ rfl ?_
  refine E.next ?_
  refine J.ret ?_
  exact E.ret1 rfl (ent_b (by rfl))
-- sealery/command.Check$1
theorem has_ct (f : Int) (all : Int) : Ct Tryz.prog 54 [Rep.is (.int .u64 (f)), ptr ((kI .u64).fp (all))] (Rep.is (.bool (hasF all f))) := by
  refine CtG.of Tryz.func54 rfl rfl (Nat.le_of_ble_eq_true rfl) (fun w0 h0 hp => ?_)
  refine J.seq ?_
  refine J.reg_ hmix ([plain (Rep.is (.bool (false)))]) (by kernel_rfl) rfl ⟨OpG.none_ rfl (op_assign rfl (Ent.refl _)), trivial⟩ rfl ?_
  refine E.next ?_
  refine J.seq ?_
  refine J.reg_ hmix ([plain (Rep.is (.int .u64 (all))), plain (Rep.is (.int .u64 (f))), plain (Rep.is (.int .u64 (bits .and .u64 all f))), plain (Rep.is (.bool (decide (¬ (bits .and .u64 all f) = 0)))), plain (Rep.is (.bool (decide (¬ (bits .and .u64 all f) = 0))))]) (by kernel_rfl) rfl ⟨OpG.none_ rfl (g_loadI rfl ld85 (Ent.refl _)), OpG.none_ rfl (op_move rfl (Ent.refl _)), OpG.none_ rfl (op_and_bits rfl (Ent.refl _) (Ent.refl _)), OpG.none_ rfl (op_neq rfl (Ent.refl _) (Ent.refl _)), OpG.none_ rfl (op_assign rfl (Ent.refl _)), trivial⟩ rfl ?_
  refine E.next ?_
  refine J.ret ?_
  exact E.ret1 rfl (ent_b (by rfl))
-- sealery/command.Check$2
theorem great_ct (p : List UInt8) : Ct Tryz.prog 55 [(kSl kU8).rep (p)] (Rep.is (.bool (great p))) := by
  refine CtG.of Tryz.func55 rfl rfl (Nat.le_of_ble_eq_true rfl) (fun w0 h0 hp => ?_)
  refine J.len (s := 0) (k := kU8) (xs := p) (Ent.refl _) (fun hlen_0 => ?_)
  refine J.seq ?_
  refine J.reg_ hmix ([plain (Rep.is (.bool (false)))]) (by kernel_rfl) rfl ⟨OpG.none_ rfl (op_assign rfl (Ent.refl _)), trivial⟩ rfl ?_
  refine E.next ?_
  refine J.seq ?_
  refine J.reg_ hmix ([plain ((kSl kU8).rep (p)), plain (Rep.is (.int .i64 (((p).length : Int)))), plain (Rep.is (.bool (decide (256 < ((p).length : Int))))), plain (Rep.is (.bool (decide (256 < ((p).length : Int)))))]) (by kernel_rfl) rfl ⟨OpG.none_ rfl (op_move rfl (Ent.refl _)), OpG.none_ rfl (g_len rfl sl35 (Ent.refl _)), OpG.none_ rfl (op_gtr rfl (Ent.refl _) (Ent.refl _)), OpG.none_ rfl (op_assign rfl (Ent.refl _)), trivial⟩ rfl ?_
  refine E.next ?_
  refine J.ret ?_
  exact E.ret1 rfl (ent_b (by rfl))
-- sealery/command.long$1
theorem longg_ct (g : Grant) : Ct Tryz.prog 125 [kGrant.rep (g)] (Rep.is (.bool (longG g))) := by
  refine CtG.of Tryz.func125 rfl rfl (Nat.le_of_ble_eq_true rfl) (fun w0 h0 hp => ?_)
  refine J.seq ?_
  refine J.reg_ hmix ([plain (ptr (kGrant.fp (g))), plain (Rep.is (.bool (false)))]) (by kernel_rfl) rfl ⟨OpG.none_ rfl (op_box (f := kGrant.fp (g)) rfl (Ent.refl _)), OpG.none_ rfl (op_assign rfl (Ent.refl _)), trivial⟩ rfl ?_
  refine E.next ?_
  refine J.seq ?_
  refine J.reg_ hmix ([plain (ptr (kS.fp (g.pre))), plain (Rep.is (.string (g.pre))), plain (Rep.is (.bool (longS g.pre))), plain (Rep.is (.bool (longS g.pre)))]) (by kernel_rfl) rfl ⟨OpG.none_ rfl (g_field (l := kGrantF (g)) rfl fa29_1 (fun _ _ e => e) rfl rfl (Ent.refl _)), OpG.none_ rfl (g_loadS rfl ld9 (Ent.refl _)), OpG.none_ rfl (g_call rfl en80 (command_longest_ct g.pre) ⟨(Ent.refl _), trivial⟩), OpG.none_ rfl (op_assign rfl (Ent.refl _)), trivial⟩ rfl ?_
  refine E.next ?_
  refine J.ret ?_
  exact E.ret1 rfl (ent_b (by rfl))
-- sealery/command.CheckAnswer$1
theorem longs_ct (s : Shown) : Ct Tryz.prog 79 [kShown.rep (s)] (Rep.is (.bool (longShown s))) := by
  refine CtG.of Tryz.func79 rfl rfl (Nat.le_of_ble_eq_true rfl) (fun w0 h0 hp => ?_)
  refine J.seq ?_
  refine J.reg_ hmix ([plain (ptr (kShown.fp (s))), plain (Rep.is (.bool (false)))]) (by kernel_rfl) rfl ⟨OpG.none_ rfl (op_box (f := kShown.fp (s)) rfl (Ent.refl _)), OpG.none_ rfl (op_assign rfl (Ent.refl _)), trivial⟩ rfl ?_
  refine E.next ?_
  refine J.seq ?_
  refine J.reg_ hmix ([plain (ptr (kS.fp (s.str))), plain (Rep.is (.string (s.str))), plain (Rep.is (.bool (longS s.str))), plain (Rep.is (.bool (longS s.str))), plain (Rep.cond (True ∧ (longS s.str) = false) (ptr (kS.fp (s.sub)))), plain (Rep.cond (True ∧ (longS s.str) = false) (Rep.is (.string (s.sub)))), plain (Rep.cond (True ∧ (longS s.str) = false) (Rep.is (.bool (longS s.sub)))), plain (Rep.is (.bool ((longS s.str) || (longS s.sub)))), plain (Rep.is (.bool ((longS s.str) || (longS s.sub)))), plain (Rep.cond (True ∧ ((longS s.str) || (longS s.sub)) = false) (ptr ((kSl kU8).fp (s.body)))), plain (Rep.cond (True ∧ ((longS s.str) || (longS s.sub)) = false) ((kSl kU8).rep (s.body))), plain (Rep.cond (True ∧ ((longS s.str) || (longS s.sub)) = false) (Rep.is (.int .i64 (((s.body).length : Int))))), plain (Rep.cond (True ∧ ((longS s.str) || (longS s.sub)) = false) (Rep.is (.bool (decide (256 < ((s.body).length : Int)))))), plain (Rep.is (.bool (((longS s.str) || (longS s.sub)) || (decide (256 < ((s.body).length : Int)))))), plain (Rep.is (.bool (((longS s.str) || (longS s.sub)) || (decide (256 < ((s.body).length : Int))))))]) (by kernel_rfl) rfl ⟨OpG.none_ rfl (g_field (l := kShownF (s)) rfl fa70_0 (fun _ _ e => e) rfl rfl (Ent.refl _)), OpG.none_ rfl (g_loadS rfl ld9 (Ent.refl _)), OpG.none_ rfl (g_call rfl en80 (command_longest_ct s.str) ⟨(Ent.refl _), trivial⟩), OpG.none_ rfl (op_move rfl (Ent.refl _)), OpG.one_ rfl rfl rfl (fun hg => (g_field (l := kShownF (s)) rfl fa70_1 (fun _ _ e => e) rfl rfl (Ent.refl _))), OpG.one_ rfl rfl rfl (fun hg => (g_loadS rfl ld9 (Ent.cond (q := True ∧ (longS s.str) = false) (R := ptr (kS.fp (s.sub))) ⟨trivial, hg⟩ (Ent.refl _)))), OpG.one_ rfl rfl rfl (fun hg => (g_call rfl en80 (command_longest_ct s.sub) ⟨(Ent.cond (q := True ∧ (longS s.str) = false) (R := Rep.is (.string (s.sub))) ⟨trivial, hg⟩ (Ent.refl _)), trivial⟩)), OpG.none_ rfl (op_or rfl (Ent.refl _) rfl (fun hz => Ent.cond (q := True ∧ (longS s.str) = false) (R := Rep.is (.bool (longS s.sub))) ⟨trivial, hz⟩ (Ent.refl _))), OpG.none_ rfl (op_move rfl (Ent.refl _)), OpG.one_ rfl rfl rfl (fun hg => (g_field (l := kShownF (s)) rfl fa70_5 (fun _ _ e => e) rfl rfl (Ent.refl _))), OpG.one_ rfl rfl rfl (fun hg => (g_load rfl ld35 (Ent.cond (q := True ∧ ((longS s.str) || (longS s.sub)) = false) (R := ptr ((kSl kU8).fp (s.body))) ⟨trivial, hg⟩ (Ent.refl _)))), OpG.one_ rfl rfl rfl (fun hg => (g_len rfl sl35 (Ent.cond (q := True ∧ ((longS s.str) || (longS s.sub)) = false) (R := (kSl kU8).rep (s.body)) ⟨trivial, hg⟩ (Ent.refl _)))), OpG.one_ rfl rfl rfl (fun hg => (op_gtr rfl (Ent.cond (q := True ∧ ((longS s.str) || (longS s.sub)) = false) (R := Rep.is (.int .i64 (((s.body).length : Int)))) ⟨trivial, hg⟩ (Ent.refl _)) (Ent.refl _))), OpG.none_ rfl (op_or rfl (Ent.refl _) rfl (fun hz => Ent.cond (q := True ∧ ((longS s.str) || (longS s.sub)) = false) (R := Rep.is (.bool (decide (256 < ((s.body).length : Int))))) ⟨trivial, hz⟩ (Ent.refl _))), OpG.none_ rfl (op_assign rfl (Ent.refl _)), trivial⟩ rfl ?_
  refine E.next ?_
  refine J.ret ?_
  exact E.ret1 rfl (ent_b (by rfl))
-- sealery/command.CheckAnswer$2
theorem longe_ct (e : Entry) : Ct Tryz.prog 81 [kEntry.rep (e)] (Rep.is (.bool (longEntry e))) := by
  refine CtG.of Tryz.func81 rfl rfl (Nat.le_of_ble_eq_true rfl) (fun w0 h0 hp => ?_)
  refine J.seq ?_
  refine J.reg_ hmix ([plain (ptr (kEntry.fp (e))), plain (Rep.is (.bool (false)))]) (by kernel_rfl) rfl ⟨OpG.none_ rfl (op_box (f := kEntry.fp (e)) rfl (Ent.refl _)), OpG.none_ rfl (op_assign rfl (Ent.refl _)), trivial⟩ rfl ?_
  refine E.next ?_
  refine J.seq ?_
  refine J.reg_ hmix ([plain (ptr (kS.fp (e.str))), plain (Rep.is (.string (e.str))), plain (Rep.is (.bool (longS e.str))), plain (Rep.is (.bool (longS e.str))), plain (Rep.cond (True ∧ (longS e.str) = false) (ptr (kS.fp (e.sub)))), plain (Rep.cond (True ∧ (longS e.str) = false) (Rep.is (.string (e.sub)))), plain (Rep.cond (True ∧ (longS e.str) = false) (Rep.is (.bool (longS e.sub)))), plain (Rep.is (.bool ((longS e.str) || (longS e.sub)))), plain (Rep.is (.bool ((longS e.str) || (longS e.sub))))]) (by kernel_rfl) rfl ⟨OpG.none_ rfl (g_field (l := kEntryF (e)) rfl fa72_5 (fun _ _ e => e) rfl rfl (Ent.refl _)), OpG.none_ rfl (g_loadS rfl ld9 (Ent.refl _)), OpG.none_ rfl (g_call rfl en80 (command_longest_ct e.str) ⟨(Ent.refl _), trivial⟩), OpG.none_ rfl (op_move rfl (Ent.refl _)), OpG.one_ rfl rfl rfl (fun hg => (g_field (l := kEntryF (e)) rfl fa72_6 (fun _ _ e => e) rfl rfl (Ent.refl _))), OpG.one_ rfl rfl rfl (fun hg => (g_loadS rfl ld9 (Ent.cond (q := True ∧ (longS e.str) = false) (R := ptr (kS.fp (e.sub))) ⟨trivial, hg⟩ (Ent.refl _)))), OpG.one_ rfl rfl rfl (fun hg => (g_call rfl en80 (command_longest_ct e.sub) ⟨(Ent.cond (q := True ∧ (longS e.str) = false) (R := Rep.is (.string (e.sub))) ⟨trivial, hg⟩ (Ent.refl _)), trivial⟩)), OpG.none_ rfl (op_or rfl (Ent.refl _) rfl (fun hz => Ent.cond (q := True ∧ (longS e.str) = false) (R := Rep.is (.bool (longS e.sub))) ⟨trivial, hz⟩ (Ent.refl _))), OpG.none_ rfl (op_assign rfl (Ent.refl _)), trivial⟩ rfl ?_
  refine E.next ?_
  refine J.ret ?_
  exact E.ret1 rfl (ent_b (by rfl))
-- slices.IndexFunc[[][]byte,[]byte]
theorem idx_b_ct (l : List (List UInt8)) : Ct Tryz.prog 123 [(kSl (kSl kU8)).rep (l), clo 55 []] (Rep.is (.int .i64 (idxF great l))) := by
  refine CtG.of Tryz.func123 rfl rfl (Nat.le_of_ble_eq_true rfl) (fun w0 h0 hp => ?_)
  refine J.len (s := 0) (k := (kSl kU8)) (xs := l) (Ent.refl _) (fun hlen_0 => ?_)
  refine J.seq ?_
  refine J.reg_ hmix ([plain (Rep.is (.int .i64 (0)))]) (by kernel_rfl) rfl ⟨OpG.none_ rfl (op_assign rfl (Ent.refl _)), trivial⟩ rfl ?_
  refine E.next ?_
  refine J.seq ?_
  refine J.seq ?_
  refine J.reg_ hmix ([plain ((kSl (kSl kU8)).rep (l)), plain (Rep.is (.int .i64 (((l).length : Int)))), plain (Rep.is (.int .i64 (0)))]) (by kernel_rfl) rfl ⟨OpG.none_ rfl (op_move rfl (Ent.refl _)), OpG.none_ rfl (g_len rfl sl27 (Ent.refl _)), OpG.none_ rfl (op_move rfl (Ent.refl _)), trivial⟩ rfl ?_
  refine E.next ?_
  refine J.block ?_
  refine J.loop (ι := Nat) (fun i_ => (upd (upd (upd (upd top 0 ((kSl (kSl kU8)).rep (l))) 1 (clo 55 [])) 7 (Rep.is (.int .i64 (((l).length : Int))))) 8 (Rep.is (.int .i64 ((i_ : Int)))))) (fun i_ => []) (fun i_ => i_ ≤ l.length ∧ (l.take i_).any great = false) (fun i_ => l.length - i_) (0) (by first | rfl | (simp; done)) (by exact ⟨Nat.zero_le _, rfl⟩) (by exact (Sub.upd (Sub.upd (Sub.upd (Sub.upd (Sub.top _) 0 (Ent.refl _)) 1 (Ent.refl _)) 7 (Ent.refl _)) 8 (ent_i (by first | rfl | (simp; done) | omega | (simp only [vs0, vs1, decide_eq_true_eq, decide_eq_false_iff_not, Bool.not_eq_true, Bool.not_eq_false, Decidable.not_not, strOf_size, strOf_chars, ascSet_length, ba_size] at *; omega) | (simp [vs0, vs1, decide_eq_true_eq, decide_eq_false_iff_not, Bool.not_eq_true, Bool.not_eq_false, Decidable.not_not, strOf_size, strOf_chars, ascSet_length, ba_size, *]; done))))) ?_
  rintro k hl0
  skip
  refine J.seq ?_
  refine J.reg_ hmix ([plain (Rep.is (.bool (decide ((k : Int) < ((l).length : Int)))))]) (by kernel_rfl) rfl ⟨OpG.none_ rfl (op_lss rfl (Ent.refl _) (Ent.refl _)), trivial⟩ rfl ?_
  refine E.next ?_
  refine J.seq ?_
  refine J.cond (B := decide ((k : Int) < ((l).length : Int))) (Ent.refl _) (fun hc0 => ?_) (fun hc0 => ?_)
  ·
    try simp only [vb0, decide_eq_true_eq, decide_eq_false_iff_not, Bool.not_eq_true, Bool.not_eq_false, Decidable.not_not] at hc0
    refine J.skip ?_
    refine E.next ?_
    refine J.seq ?_
    refine J.block ?_
    refine J.seq ?_
    refine J.reg_ hmix ([plain (Rep.is (.int .i64 ((k : Int)))), plain (Rep.is (.int .i64 ((k : Int))))]) (by kernel_rfl) rfl ⟨OpG.none_ rfl (op_move rfl (Ent.refl _)), OpG.none_ rfl (op_assign rfl (Ent.refl _)), trivial⟩ rfl ?_
    refine E.next ?_
    refine J.seq ?_
    refine J.reg_ hmix ([plain (clo 55 []), plain ((kSl (kSl kU8)).rep (l)), plain (Rep.is (.int .i64 ((k : Int)))), plain (ptr ((kSl kU8).fp (l.getD k []))), plain ((kSl kU8).rep (l.getD k [])), plain (Rep.is (.bool (great (l.getD k []))))]) (by kernel_rfl) rfl ⟨OpG.none_ rfl (op_move rfl (Ent.refl _)), OpG.none_ rfl (op_move rfl (Ent.refl _)), OpG.none_ rfl (op_move rfl (Ent.refl _)), OpG.none_ rfl (g_index (i := (k : Int)) (d := []) rfl sl27 (Ent.refl _) (Ent.refl _) (by first | omega | (simp only [vs0, vs1, decide_eq_true_eq, decide_eq_false_iff_not, Bool.not_eq_true, Bool.not_eq_false, Decidable.not_not, strOf_size, strOf_chars, ascSet_length, ba_size] at *; omega) | (simp [vs0, vs1, decide_eq_true_eq, decide_eq_false_iff_not, Bool.not_eq_true, Bool.not_eq_false, Decidable.not_not, strOf_size, strOf_chars, ascSet_length, ba_size] at *; omega))), OpG.none_ rfl (g_load rfl ld35 (Ent.refl _)), OpG.none_ rfl (g_callg rfl en55 (Rs := [(kSl kU8).rep (l.getD k [])]) (Cs := []) (great_ct (l.getD k [])) (Ent.refl _) ⟨(Ent.refl _), trivial⟩), trivial⟩ rfl ?_
    refine E.next ?_
    refine J.cond (B := great (l.getD k [])) (Ent.refl _) (fun hc1 => ?_) (fun hc1 => ?_)
    ·
      try simp only [vb0, decide_eq_true_eq, decide_eq_false_iff_not, Bool.not_eq_true, Bool.not_eq_false, Decidable.not_not] at hc1
      refine J.seq ?_
      refine J.reg_ hmix ([plain (Rep.is (.int .i64 ((k : Int)))), plain (Rep.is (.int .i64 ((k : Int))))]) (by kernel_rfl) rfl ⟨OpG.none_ rfl (op_move rfl (Ent.refl _)), OpG.none_ rfl (op_assign rfl (Ent.refl _)), trivial⟩ rfl ?_
      refine E.next ?_
      refine J.ret ?_
      refine E.passRb ?_
      refine E.passR ?_
      refine E.passR ?_
      refine E.passRb ?_
      refine E.passR ?_
      exact E.ret1 rfl (ent_i (by exact idx_hit (d := []) hl0.2 (by omega) hc1))
    ·
      try simp only [vb0, decide_eq_true_eq, decide_eq_false_iff_not, Bool.not_eq_true, Bool.not_eq_false, Decidable.not_not] at hc1
      refine J.skip ?_
      refine E.blockEnd ?_
      refine E.next ?_
      refine J.reg_ hmix ([plain (Rep.is (.int .i64 ((k : Int) + 1))), plain (Rep.is (.int .i64 ((k : Int) + 1)))]) (by kernel_rfl) rfl ⟨OpG.none_ rfl (g_add rfl (Ent.refl _) (Ent.refl _) (by first | omega | (simp only [vs0, vs1, decide_eq_true_eq, decide_eq_false_iff_not, Bool.not_eq_true, Bool.not_eq_false, Decidable.not_not, strOf_size, strOf_chars, ascSet_length, ba_size] at *; omega) | (simp [vs0, vs1, decide_eq_true_eq, decide_eq_false_iff_not, Bool.not_eq_true, Bool.not_eq_false, Decidable.not_not, strOf_size, strOf_chars, ascSet_length, ba_size] at *; omega))), OpG.none_ rfl (op_move rfl (Ent.refl _)), trivial⟩ rfl ?_
      exact E.again (k + 1) (by first | rfl | (simp; done)) (by exact ⟨by omega, any_take_step (d := []) hl0.2 (by omega) hc1⟩) (by omega) (by exact (Sub.upd (Sub.upd (Sub.upd (Sub.upd (Sub.top _) 0 (Ent.refl _)) 1 (Ent.refl _)) 7 (Ent.refl _)) 8 (ent_i (by first | rfl | (simp; done) | omega | (simp only [vs0, vs1, decide_eq_true_eq, decide_eq_false_iff_not, Bool.not_eq_true, Bool.not_eq_false, Decidable.not_not, strOf_size, strOf_chars, ascSet_length, ba_size] at *; omega) | (simp [vs0, vs1, decide_eq_true_eq, decide_eq_false_iff_not, Bool.not_eq_true, Bool.not_eq_false, Decidable.not_not, strOf_size, strOf_chars, ascSet_length, ba_size, *]; done)))))
  ·
    try simp only [vb0, decide_eq_true_eq, decide_eq_false_iff_not, Bool.not_eq_true, Bool.not_eq_false, Decidable.not_not] at hc0
    refine J.exit ?_
    refine E.passX ?_
    refine E.passX ?_
    refine E.hit ?_
    refine E.next ?_
    refine J.seq ?_
    refine J.reg_ hmix ([plain (Rep.is (.int .i64 (-1)))]) (by kernel_rfl) rfl ⟨OpG.none_ rfl (op_assign rfl (Ent.refl _)), trivial⟩ rfl ?_
    refine E.next ?_
    refine J.ret ?_
    exact E.ret1 rfl (ent_i (by exact idx_none hl0.2 (by omega)))
-- slices.ContainsFunc[[][]byte,[]byte]
theorem con_b_ct (l : List (List UInt8)) : Ct Tryz.prog 58 [(kSl (kSl kU8)).rep (l), clo 55 []] (Rep.is (.bool (l.any great))) := by
  refine CtG.of Tryz.func58 rfl rfl (Nat.le_of_ble_eq_true rfl) (fun w0 h0 hp => ?_)
  refine J.len (s := 0) (k := (kSl kU8)) (xs := l) (Ent.refl _) (fun hlen_0 => ?_)
  refine J.seq ?_
  refine J.reg_ hmix ([plain (Rep.is (.bool (false)))]) (by kernel_rfl) rfl ⟨OpG.none_ rfl (op_assign rfl (Ent.refl _)), trivial⟩ rfl ?_
  refine E.next ?_
  refine J.seq ?_
  refine J.reg_ hmix ([plain ((kSl (kSl kU8)).rep (l)), plain (clo 55 []), plain (Rep.is (.int .i64 (idxF great l))), plain (Rep.is (.bool (decide (0 ≤ (idxF great l))))), plain (Rep.is (.bool (decide (0 ≤ (idxF great l)))))]) (by kernel_rfl) rfl ⟨OpG.none_ rfl (op_move rfl (Ent.refl _)), OpG.none_ rfl (op_move rfl (Ent.refl _)), OpG.none_ rfl (g_call rfl en123 (idx_b_ct l) ⟨(Ent.refl _), (Ent.refl _), trivial⟩), OpG.none_ rfl (op_geq rfl (Ent.refl _) (Ent.refl _)), OpG.none_ rfl (op_assign rfl (Ent.refl _)), trivial⟩ rfl ?_
  refine E.next ?_
  refine J.ret ?_
  exact E.ret1 rfl (ent_b (by exact idx_any _ _))
-- slices.IndexFunc[[]sealery/api.Grant,sealery/api.Grant]
theorem idx_g_ct (l : List Grant) : Ct Tryz.prog 151 [(kSl kGrant).rep (l), clo 125 []] (Rep.is (.int .i64 (idxF longG l))) := by
  refine CtG.of Tryz.func151 rfl rfl (Nat.le_of_ble_eq_true rfl) (fun w0 h0 hp => ?_)
  refine J.len (s := 0) (k := kGrant) (xs := l) (Ent.refl _) (fun hlen_0 => ?_)
  refine J.seq ?_
  refine J.reg_ hmix ([plain (Rep.is (.int .i64 (0)))]) (by kernel_rfl) rfl ⟨OpG.none_ rfl (op_assign rfl (Ent.refl _)), trivial⟩ rfl ?_
  refine E.next ?_
  refine J.seq ?_
  refine J.seq ?_
  refine J.reg_ hmix ([plain ((kSl kGrant).rep (l)), plain (Rep.is (.int .i64 (((l).length : Int)))), plain (Rep.is (.int .i64 (0)))]) (by kernel_rfl) rfl ⟨OpG.none_ rfl (op_move rfl (Ent.refl _)), OpG.none_ rfl (g_len rfl sl22 (Ent.refl _)), OpG.none_ rfl (op_move rfl (Ent.refl _)), trivial⟩ rfl ?_
  refine E.next ?_
  refine J.block ?_
  refine J.loop (ι := Nat) (fun i_ => (upd (upd (upd (upd top 0 ((kSl kGrant).rep (l))) 1 (clo 125 [])) 7 (Rep.is (.int .i64 (((l).length : Int))))) 8 (Rep.is (.int .i64 ((i_ : Int)))))) (fun i_ => []) (fun i_ => i_ ≤ l.length ∧ (l.take i_).any longG = false) (fun i_ => l.length - i_) (0) (by first | rfl | (simp; done)) (by exact ⟨Nat.zero_le _, rfl⟩) (by exact (Sub.upd (Sub.upd (Sub.upd (Sub.upd (Sub.top _) 0 (Ent.refl _)) 1 (Ent.refl _)) 7 (Ent.refl _)) 8 (ent_i (by first | rfl | (simp; done) | omega | (simp only [vs0, vs1, decide_eq_true_eq, decide_eq_false_iff_not, Bool.not_eq_true, Bool.not_eq_false, Decidable.not_not, strOf_size, strOf_chars, ascSet_length, ba_size] at *; omega) | (simp [vs0, vs1, decide_eq_true_eq, decide_eq_false_iff_not, Bool.not_eq_true, Bool.not_eq_false, Decidable.not_not, strOf_size, strOf_chars, ascSet_length, ba_size, *]; done))))) ?_
  rintro k hl0
  skip
  refine J.seq ?_
  refine J.reg_ hmix ([plain (Rep.is (.bool (decide ((k : Int) < ((l).length : Int)))))]) (by kernel_rfl) rfl ⟨OpG.none_ rfl (op_lss rfl (Ent.refl _) (Ent.refl _)), trivial⟩ rfl ?_
  refine E.next ?_
  refine J.seq ?_
  refine J.cond (B := decide ((k : Int) < ((l).length : Int))) (Ent.refl _) (fun hc0 => ?_) (fun hc0 => ?_)
  ·
    try simp only [vb0, decide_eq_true_eq, decide_eq_false_iff_not, Bool.not_eq_true, Bool.not_eq_false, Decidable.not_not] at hc0
    refine J.skip ?_
    refine E.next ?_
    refine J.seq ?_
    refine J.block ?_
    refine J.seq ?_
    refine J.reg_ hmix ([plain (Rep.is (.int .i64 ((k : Int)))), plain (Rep.is (.int .i64 ((k : Int))))]) (by kernel_rfl) rfl ⟨OpG.none_ rfl (op_move rfl (Ent.refl _)), OpG.none_ rfl (op_assign rfl (Ent.refl _)), trivial⟩ rfl ?_
    refine E.next ?_
    refine J.seq ?_
    refine J.reg_ hmix ([plain (clo 125 []), plain ((kSl kGrant).rep (l)), plain (Rep.is (.int .i64 ((k : Int)))), plain (ptr (kGrant.fp (l.getD k zGrantV))), plain (kGrant.rep (l.getD k zGrantV)), plain (Rep.is (.bool (longG (l.getD k zGrantV))))]) (by kernel_rfl) rfl ⟨OpG.none_ rfl (op_move rfl (Ent.refl _)), OpG.none_ rfl (op_move rfl (Ent.refl _)), OpG.none_ rfl (op_move rfl (Ent.refl _)), OpG.none_ rfl (g_index (i := (k : Int)) (d := zGrantV) rfl sl22 (Ent.refl _) (Ent.refl _) (by first | omega | (simp only [vs0, vs1, decide_eq_true_eq, decide_eq_false_iff_not, Bool.not_eq_true, Bool.not_eq_false, Decidable.not_not, strOf_size, strOf_chars, ascSet_length, ba_size] at *; omega) | (simp [vs0, vs1, decide_eq_true_eq, decide_eq_false_iff_not, Bool.not_eq_true, Bool.not_eq_false, Decidable.not_not, strOf_size, strOf_chars, ascSet_length, ba_size] at *; omega))), OpG.none_ rfl (g_load rfl ld29 (Ent.refl _)), OpG.none_ rfl (g_callg rfl en125 (Rs := [kGrant.rep (l.getD k zGrantV)]) (Cs := []) (longg_ct (l.getD k zGrantV)) (Ent.refl _) ⟨(Ent.refl _), trivial⟩), trivial⟩ rfl ?_
    refine E.next ?_
    refine J.cond (B := longG (l.getD k zGrantV)) (Ent.refl _) (fun hc1 => ?_) (fun hc1 => ?_)
    ·
      try simp only [vb0, decide_eq_true_eq, decide_eq_false_iff_not, Bool.not_eq_true, Bool.not_eq_false, Decidable.not_not] at hc1
      refine J.seq ?_
      refine J.reg_ hmix ([plain (Rep.is (.int .i64 ((k : Int)))), plain (Rep.is (.int .i64 ((k : Int))))]) (by kernel_rfl) rfl ⟨OpG.none_ rfl (op_move rfl (Ent.refl _)), OpG.none_ rfl (op_assign rfl (Ent.refl _)), trivial⟩ rfl ?_
      refine E.next ?_
      refine J.ret ?_
      refine E.passRb ?_
      refine E.passR ?_
      refine E.passR ?_
      refine E.passRb ?_
      refine E.passR ?_
      exact E.ret1 rfl (ent_i (by exact idx_hit (d := zGrantV) hl0.2 (by omega) hc1))
    ·
      try simp only [vb0, decide_eq_true_eq, decide_eq_false_iff_not, Bool.not_eq_true, Bool.not_eq_false, Decidable.not_not] at hc1
      refine J.skip ?_
      refine E.blockEnd ?_
      refine E.next ?_
      refine J.reg_ hmix ([plain (Rep.is (.int .i64 ((k : Int) + 1))), plain (Rep.is (.int .i64 ((k : Int) + 1)))]) (by kernel_rfl) rfl ⟨OpG.none_ rfl (g_add rfl (Ent.refl _) (Ent.refl _) (by first | omega | (simp only [vs0, vs1, decide_eq_true_eq, decide_eq_false_iff_not, Bool.not_eq_true, Bool.not_eq_false, Decidable.not_not, strOf_size, strOf_chars, ascSet_length, ba_size] at *; omega) | (simp [vs0, vs1, decide_eq_true_eq, decide_eq_false_iff_not, Bool.not_eq_true, Bool.not_eq_false, Decidable.not_not, strOf_size, strOf_chars, ascSet_length, ba_size] at *; omega))), OpG.none_ rfl (op_move rfl (Ent.refl _)), trivial⟩ rfl ?_
      exact E.again (k + 1) (by first | rfl | (simp; done)) (by exact ⟨by omega, any_take_step (d := zGrantV) hl0.2 (by omega) hc1⟩) (by omega) (by exact (Sub.upd (Sub.upd (Sub.upd (Sub.upd (Sub.top _) 0 (Ent.refl _)) 1 (Ent.refl _)) 7 (Ent.refl _)) 8 (ent_i (by first | rfl | (simp; done) | omega | (simp only [vs0, vs1, decide_eq_true_eq, decide_eq_false_iff_not, Bool.not_eq_true, Bool.not_eq_false, Decidable.not_not, strOf_size, strOf_chars, ascSet_length, ba_size] at *; omega) | (simp [vs0, vs1, decide_eq_true_eq, decide_eq_false_iff_not, Bool.not_eq_true, Bool.not_eq_false, Decidable.not_not, strOf_size, strOf_chars, ascSet_length, ba_size, *]; done)))))
  ·
    try simp only [vb0, decide_eq_true_eq, decide_eq_false_iff_not, Bool.not_eq_true, Bool.not_eq_false, Decidable.not_not] at hc0
    refine J.exit ?_
    refine E.passX ?_
    refine E.passX ?_
    refine E.hit ?_
    refine E.next ?_
    refine J.seq ?_
    refine J.reg_ hmix ([plain (Rep.is (.int .i64 (-1)))]) (by kernel_rfl) rfl ⟨OpG.none_ rfl (op_assign rfl (Ent.refl _)), trivial⟩ rfl ?_
    refine E.next ?_
    refine J.ret ?_
    exact E.ret1 rfl (ent_i (by exact idx_none hl0.2 (by omega)))
-- slices.ContainsFunc[[]sealery/api.Grant,sealery/api.Grant]
theorem con_g_ct (l : List Grant) : Ct Tryz.prog 124 [(kSl kGrant).rep (l), clo 125 []] (Rep.is (.bool (l.any longG))) := by
  refine CtG.of Tryz.func124 rfl rfl (Nat.le_of_ble_eq_true rfl) (fun w0 h0 hp => ?_)
  refine J.len (s := 0) (k := kGrant) (xs := l) (Ent.refl _) (fun hlen_0 => ?_)
  refine J.seq ?_
  refine J.reg_ hmix ([plain (Rep.is (.bool (false)))]) (by kernel_rfl) rfl ⟨OpG.none_ rfl (op_assign rfl (Ent.refl _)), trivial⟩ rfl ?_
  refine E.next ?_
  refine J.seq ?_
  refine J.reg_ hmix ([plain ((kSl kGrant).rep (l)), plain (clo 125 []), plain (Rep.is (.int .i64 (idxF longG l))), plain (Rep.is (.bool (decide (0 ≤ (idxF longG l))))), plain (Rep.is (.bool (decide (0 ≤ (idxF longG l)))))]) (by kernel_rfl) rfl ⟨OpG.none_ rfl (op_move rfl (Ent.refl _)), OpG.none_ rfl (op_move rfl (Ent.refl _)), OpG.none_ rfl (g_call rfl en151 (idx_g_ct l) ⟨(Ent.refl _), (Ent.refl _), trivial⟩), OpG.none_ rfl (op_geq rfl (Ent.refl _) (Ent.refl _)), OpG.none_ rfl (op_assign rfl (Ent.refl _)), trivial⟩ rfl ?_
  refine E.next ?_
  refine J.ret ?_
  exact E.ret1 rfl (ent_b (by exact idx_any _ _))
-- slices.IndexFunc[[]sealery/api.Shown,sealery/api.Shown]
theorem idx_s_ct (l : List Shown) : Ct Tryz.prog 131 [(kSl kShown).rep (l), clo 79 []] (Rep.is (.int .i64 (idxF longShown l))) := by
  refine CtG.of Tryz.func131 rfl rfl (Nat.le_of_ble_eq_true rfl) (fun w0 h0 hp => ?_)
  refine J.len (s := 0) (k := kShown) (xs := l) (Ent.refl _) (fun hlen_0 => ?_)
  refine J.seq ?_
  refine J.reg_ hmix ([plain (Rep.is (.int .i64 (0)))]) (by kernel_rfl) rfl ⟨OpG.none_ rfl (op_assign rfl (Ent.refl _)), trivial⟩ rfl ?_
  refine E.next ?_
  refine J.seq ?_
  refine J.seq ?_
  refine J.reg_ hmix ([plain ((kSl kShown).rep (l)), plain (Rep.is (.int .i64 (((l).length : Int)))), plain (Rep.is (.int .i64 (0)))]) (by kernel_rfl) rfl ⟨OpG.none_ rfl (op_move rfl (Ent.refl _)), OpG.none_ rfl (g_len rfl sl43 (Ent.refl _)), OpG.none_ rfl (op_move rfl (Ent.refl _)), trivial⟩ rfl ?_
  refine E.next ?_
  refine J.block ?_
  refine J.loop (ι := Nat) (fun i_ => (upd (upd (upd (upd top 0 ((kSl kShown).rep (l))) 1 (clo 79 [])) 7 (Rep.is (.int .i64 (((l).length : Int))))) 8 (Rep.is (.int .i64 ((i_ : Int)))))) (fun i_ => []) (fun i_ => i_ ≤ l.length ∧ (l.take i_).any longShown = false) (fun i_ => l.length - i_) (0) (by first | rfl | (simp; done)) (by exact ⟨Nat.zero_le _, rfl⟩) (by exact (Sub.upd (Sub.upd (Sub.upd (Sub.upd (Sub.top _) 0 (Ent.refl _)) 1 (Ent.refl _)) 7 (Ent.refl _)) 8 (ent_i (by first | rfl | (simp; done) | omega | (simp only [vs0, vs1, decide_eq_true_eq, decide_eq_false_iff_not, Bool.not_eq_true, Bool.not_eq_false, Decidable.not_not, strOf_size, strOf_chars, ascSet_length, ba_size] at *; omega) | (simp [vs0, vs1, decide_eq_true_eq, decide_eq_false_iff_not, Bool.not_eq_true, Bool.not_eq_false, Decidable.not_not, strOf_size, strOf_chars, ascSet_length, ba_size, *]; done))))) ?_
  rintro k hl0
  skip
  refine J.seq ?_
  refine J.reg_ hmix ([plain (Rep.is (.bool (decide ((k : Int) < ((l).length : Int)))))]) (by kernel_rfl) rfl ⟨OpG.none_ rfl (op_lss rfl (Ent.refl _) (Ent.refl _)), trivial⟩ rfl ?_
  refine E.next ?_
  refine J.seq ?_
  refine J.cond (B := decide ((k : Int) < ((l).length : Int))) (Ent.refl _) (fun hc0 => ?_) (fun hc0 => ?_)
  ·
    try simp only [vb0, decide_eq_true_eq, decide_eq_false_iff_not, Bool.not_eq_true, Bool.not_eq_false, Decidable.not_not] at hc0
    refine J.skip ?_
    refine E.next ?_
    refine J.seq ?_
    refine J.block ?_
    refine J.seq ?_
    refine J.reg_ hmix ([plain (Rep.is (.int .i64 ((k : Int)))), plain (Rep.is (.int .i64 ((k : Int))))]) (by kernel_rfl) rfl ⟨OpG.none_ rfl (op_move rfl (Ent.refl _)), OpG.none_ rfl (op_assign rfl (Ent.refl _)), trivial⟩ rfl ?_
    refine E.next ?_
    refine J.seq ?_
    refine J.reg_ hmix ([plain (clo 79 []), plain ((kSl kShown).rep (l)), plain (Rep.is (.int .i64 ((k : Int)))), plain (ptr (kShown.fp (l.getD k zShownV))), plain (kShown.rep (l.getD k zShownV)), plain (Rep.is (.bool (longShown (l.getD k zShownV))))]) (by kernel_rfl) rfl ⟨OpG.none_ rfl (op_move rfl (Ent.refl _)), OpG.none_ rfl (op_move rfl (Ent.refl _)), OpG.none_ rfl (op_move rfl (Ent.refl _)), OpG.none_ rfl (g_index (i := (k : Int)) (d := zShownV) rfl sl43 (Ent.refl _) (Ent.refl _) (by first | omega | (simp only [vs0, vs1, decide_eq_true_eq, decide_eq_false_iff_not, Bool.not_eq_true, Bool.not_eq_false, Decidable.not_not, strOf_size, strOf_chars, ascSet_length, ba_size] at *; omega) | (simp [vs0, vs1, decide_eq_true_eq, decide_eq_false_iff_not, Bool.not_eq_true, Bool.not_eq_false, Decidable.not_not, strOf_size, strOf_chars, ascSet_length, ba_size] at *; omega))), OpG.none_ rfl (g_load rfl ld70 (Ent.refl _)), OpG.none_ rfl (g_callg rfl en79 (Rs := [kShown.rep (l.getD k zShownV)]) (Cs := []) (longs_ct (l.getD k zShownV)) (Ent.refl _) ⟨(Ent.refl _), trivial⟩), trivial⟩ rfl ?_
    refine E.next ?_
    refine J.cond (B := longShown (l.getD k zShownV)) (Ent.refl _) (fun hc1 => ?_) (fun hc1 => ?_)
    ·
      try simp only [vb0, decide_eq_true_eq, decide_eq_false_iff_not, Bool.not_eq_true, Bool.not_eq_false, Decidable.not_not] at hc1
      refine J.seq ?_
      refine J.reg_ hmix ([plain (Rep.is (.int .i64 ((k : Int)))), plain (Rep.is (.int .i64 ((k : Int))))]) (by kernel_rfl) rfl ⟨OpG.none_ rfl (op_move rfl (Ent.refl _)), OpG.none_ rfl (op_assign rfl (Ent.refl _)), trivial⟩ rfl ?_
      refine E.next ?_
      refine J.ret ?_
      refine E.passRb ?_
      refine E.passR ?_
      refine E.passR ?_
      refine E.passRb ?_
      refine E.passR ?_
      exact E.ret1 rfl (ent_i (by exact idx_hit (d := zShownV) hl0.2 (by omega) hc1))
    ·
      try simp only [vb0, decide_eq_true_eq, decide_eq_false_iff_not, Bool.not_eq_true, Bool.not_eq_false, Decidable.not_not] at hc1
      refine J.skip ?_
      refine E.blockEnd ?_
      refine E.next ?_
      refine J.reg_ hmix ([plain (Rep.is (.int .i64 ((k : Int) + 1))), plain (Rep.is (.int .i64 ((k : Int) + 1)))]) (by kernel_rfl) rfl ⟨OpG.none_ rfl (g_add rfl (Ent.refl _) (Ent.refl _) (by first | omega | (simp only [vs0, vs1, decide_eq_true_eq, decide_eq_false_iff_not, Bool.not_eq_true, Bool.not_eq_false, Decidable.not_not, strOf_size, strOf_chars, ascSet_length, ba_size] at *; omega) | (simp [vs0, vs1, decide_eq_true_eq, decide_eq_false_iff_not, Bool.not_eq_true, Bool.not_eq_false, Decidable.not_not, strOf_size, strOf_chars, ascSet_length, ba_size] at *; omega))), OpG.none_ rfl (op_move rfl (Ent.refl _)), trivial⟩ rfl ?_
      exact E.again (k + 1) (by first | rfl | (simp; done)) (by exact ⟨by omega, any_take_step (d := zShownV) hl0.2 (by omega) hc1⟩) (by omega) (by exact (Sub.upd (Sub.upd (Sub.upd (Sub.upd (Sub.top _) 0 (Ent.refl _)) 1 (Ent.refl _)) 7 (Ent.refl _)) 8 (ent_i (by first | rfl | (simp; done) | omega | (simp only [vs0, vs1, decide_eq_true_eq, decide_eq_false_iff_not, Bool.not_eq_true, Bool.not_eq_false, Decidable.not_not, strOf_size, strOf_chars, ascSet_length, ba_size] at *; omega) | (simp [vs0, vs1, decide_eq_true_eq, decide_eq_false_iff_not, Bool.not_eq_true, Bool.not_eq_false, Decidable.not_not, strOf_size, strOf_chars, ascSet_length, ba_size, *]; done)))))
  ·
    try simp only [vb0, decide_eq_true_eq, decide_eq_false_iff_not, Bool.not_eq_true, Bool.not_eq_false, Decidable.not_not] at hc0
    refine J.exit ?_
    refine E.passX ?_
    refine E.passX ?_
    refine E.hit ?_
    refine E.next ?_
    refine J.seq ?_
    refine J.reg_ hmix ([plain (Rep.is (.int .i64 (-1)))]) (by kernel_rfl) rfl ⟨OpG.none_ rfl (op_assign rfl (Ent.refl _)), trivial⟩ rfl ?_
    refine E.next ?_
    refine J.ret ?_
    exact E.ret1 rfl (ent_i (by exact idx_none hl0.2 (by omega)))
-- slices.ContainsFunc[[]sealery/api.Shown,sealery/api.Shown]
theorem con_s_ct (l : List Shown) : Ct Tryz.prog 82 [(kSl kShown).rep (l), clo 79 []] (Rep.is (.bool (l.any longShown))) := by
  refine CtG.of Tryz.func82 rfl rfl (Nat.le_of_ble_eq_true rfl) (fun w0 h0 hp => ?_)
  refine J.len (s := 0) (k := kShown) (xs := l) (Ent.refl _) (fun hlen_0 => ?_)
  refine J.seq ?_
  refine J.reg_ hmix ([plain (Rep.is (.bool (false)))]) (by kernel_rfl) rfl ⟨OpG.none_ rfl (op_assign rfl (Ent.refl _)), trivial⟩ rfl ?_
  refine E.next ?_
  refine J.seq ?_
  refine J.reg_ hmix ([plain ((kSl kShown).rep (l)), plain (clo 79 []), plain (Rep.is (.int .i64 (idxF longShown l))), plain (Rep.is (.bool (decide (0 ≤ (idxF longShown l))))), plain (Rep.is (.bool (decide (0 ≤ (idxF longShown l)))))]) (by kernel_rfl) rfl ⟨OpG.none_ rfl (op_move rfl (Ent.refl _)), OpG.none_ rfl (op_move rfl (Ent.refl _)), OpG.none_ rfl (g_call rfl en131 (idx_s_ct l) ⟨(Ent.refl _), (Ent.refl _), trivial⟩), OpG.none_ rfl (op_geq rfl (Ent.refl _) (Ent.refl _)), OpG.none_ rfl (op_assign rfl (Ent.refl _)), trivial⟩ rfl ?_
  refine E.next ?_
  refine J.ret ?_
  exact E.ret1 rfl (ent_b (by exact idx_any _ _))
-- slices.IndexFunc[[]sealery/api.Entry,sealery/api.Entry]
theorem idx_e_ct (l : List Entry) : Ct Tryz.prog 132 [(kSl kEntry).rep (l), clo 81 []] (Rep.is (.int .i64 (idxF longEntry l))) := by
  refine CtG.of Tryz.func132 rfl rfl (Nat.le_of_ble_eq_true rfl) (fun w0 h0 hp => ?_)
  refine J.len (s := 0) (k := kEntry) (xs := l) (Ent.refl _) (fun hlen_0 => ?_)
  refine J.seq ?_
  refine J.reg_ hmix ([plain (Rep.is (.int .i64 (0)))]) (by kernel_rfl) rfl ⟨OpG.none_ rfl (op_assign rfl (Ent.refl _)), trivial⟩ rfl ?_
  refine E.next ?_
  refine J.seq ?_
  refine J.seq ?_
  refine J.reg_ hmix ([plain ((kSl kEntry).rep (l)), plain (Rep.is (.int .i64 (((l).length : Int)))), plain (Rep.is (.int .i64 (0)))]) (by kernel_rfl) rfl ⟨OpG.none_ rfl (op_move rfl (Ent.refl _)), OpG.none_ rfl (g_len rfl sl44 (Ent.refl _)), OpG.none_ rfl (op_move rfl (Ent.refl _)), trivial⟩ rfl ?_
  refine E.next ?_
  refine J.block ?_
  refine J.loop (ι := Nat) (fun i_ => (upd (upd (upd (upd top 0 ((kSl kEntry).rep (l))) 1 (clo 81 [])) 7 (Rep.is (.int .i64 (((l).length : Int))))) 8 (Rep.is (.int .i64 ((i_ : Int)))))) (fun i_ => []) (fun i_ => i_ ≤ l.length ∧ (l.take i_).any longEntry = false) (fun i_ => l.length - i_) (0) (by first | rfl | (simp; done)) (by exact ⟨Nat.zero_le _, rfl⟩) (by exact (Sub.upd (Sub.upd (Sub.upd (Sub.upd (Sub.top _) 0 (Ent.refl _)) 1 (Ent.refl _)) 7 (Ent.refl _)) 8 (ent_i (by first | rfl | (simp; done) | omega | (simp only [vs0, vs1, decide_eq_true_eq, decide_eq_false_iff_not, Bool.not_eq_true, Bool.not_eq_false, Decidable.not_not, strOf_size, strOf_chars, ascSet_length, ba_size] at *; omega) | (simp [vs0, vs1, decide_eq_true_eq, decide_eq_false_iff_not, Bool.not_eq_true, Bool.not_eq_false, Decidable.not_not, strOf_size, strOf_chars, ascSet_length, ba_size, *]; done))))) ?_
  rintro k hl0
  skip
  refine J.seq ?_
  refine J.reg_ hmix ([plain (Rep.is (.bool (decide ((k : Int) < ((l).length : Int)))))]) (by kernel_rfl) rfl ⟨OpG.none_ rfl (op_lss rfl (Ent.refl _) (Ent.refl _)), trivial⟩ rfl ?_
  refine E.next ?_
  refine J.seq ?_
  refine J.cond (B := decide ((k : Int) < ((l).length : Int))) (Ent.refl _) (fun hc0 => ?_) (fun hc0 => ?_)
  ·
    try simp only [vb0, decide_eq_true_eq, decide_eq_false_iff_not, Bool.not_eq_true, Bool.not_eq_false, Decidable.not_not] at hc0
    refine J.skip ?_
    refine E.next ?_
    refine J.seq ?_
    refine J.block ?_
    refine J.seq ?_
    refine J.reg_ hmix ([plain (Rep.is (.int .i64 ((k : Int)))), plain (Rep.is (.int .i64 ((k : Int))))]) (by kernel_rfl) rfl ⟨OpG.none_ rfl (op_move rfl (Ent.refl _)), OpG.none_ rfl (op_assign rfl (Ent.refl _)), trivial⟩ rfl ?_
    refine E.next ?_
    refine J.seq ?_
    refine J.reg_ hmix ([plain (clo 81 []), plain ((kSl kEntry).rep (l)), plain (Rep.is (.int .i64 ((k : Int)))), plain (ptr (kEntry.fp (l.getD k zEntryV))), plain (kEntry.rep (l.getD k zEntryV)), plain (Rep.is (.bool (longEntry (l.getD k zEntryV))))]) (by kernel_rfl) rfl ⟨OpG.none_ rfl (op_move rfl (Ent.refl _)), OpG.none_ rfl (op_move rfl (Ent.refl _)), OpG.none_ rfl (op_move rfl (Ent.refl _)), OpG.none_ rfl (g_index (i := (k : Int)) (d := zEntryV) rfl sl44 (Ent.refl _) (Ent.refl _) (by first | omega | (simp only [vs0, vs1, decide_eq_true_eq, decide_eq_false_iff_not, Bool.not_eq_true, Bool.not_eq_false, Decidable.not_not, strOf_size, strOf_chars, ascSet_length, ba_size] at *; omega) | (simp [vs0, vs1, decide_eq_true_eq, decide_eq_false_iff_not, Bool.not_eq_true, Bool.not_eq_false, Decidable.not_not, strOf_size, strOf_chars, ascSet_length, ba_size] at *; omega))), OpG.none_ rfl (g_load rfl ld72 (Ent.refl _)), OpG.none_ rfl (g_callg rfl en81 (Rs := [kEntry.rep (l.getD k zEntryV)]) (Cs := []) (longe_ct (l.getD k zEntryV)) (Ent.refl _) ⟨(Ent.refl _), trivial⟩), trivial⟩ rfl ?_
    refine E.next ?_
    refine J.cond (B := longEntry (l.getD k zEntryV)) (Ent.refl _) (fun hc1 => ?_) (fun hc1 => ?_)
    ·
      try simp only [vb0, decide_eq_true_eq, decide_eq_false_iff_not, Bool.not_eq_true, Bool.not_eq_false, Decidable.not_not] at hc1
      refine J.seq ?_
      refine J.reg_ hmix ([plain (Rep.is (.int .i64 ((k : Int)))), plain (Rep.is (.int .i64 ((k : Int))))]) (by kernel_rfl) rfl ⟨OpG.none_ rfl (op_move rfl (Ent.refl _)), OpG.none_ rfl (op_assign rfl (Ent.refl _)), trivial⟩ rfl ?_
      refine E.next ?_
      refine J.ret ?_
      refine E.passRb ?_
      refine E.passR ?_
      refine E.passR ?_
      refine E.passRb ?_
      refine E.passR ?_
      exact E.ret1 rfl (ent_i (by exact idx_hit (d := zEntryV) hl0.2 (by omega) hc1))
    ·
      try simp only [vb0, decide_eq_true_eq, decide_eq_false_iff_not, Bool.not_eq_true, Bool.not_eq_false, Decidable.not_not] at hc1
      refine J.skip ?_
      refine E.blockEnd ?_
      refine E.next ?_
      refine J.reg_ hmix ([plain (Rep.is (.int .i64 ((k : Int) + 1))), plain (Rep.is (.int .i64 ((k : Int) + 1)))]) (by kernel_rfl) rfl ⟨OpG.none_ rfl (g_add rfl (Ent.refl _) (Ent.refl _) (by first | omega | (simp only [vs0, vs1, decide_eq_true_eq, decide_eq_false_iff_not, Bool.not_eq_true, Bool.not_eq_false, Decidable.not_not, strOf_size, strOf_chars, ascSet_length, ba_size] at *; omega) | (simp [vs0, vs1, decide_eq_true_eq, decide_eq_false_iff_not, Bool.not_eq_true, Bool.not_eq_false, Decidable.not_not, strOf_size, strOf_chars, ascSet_length, ba_size] at *; omega))), OpG.none_ rfl (op_move rfl (Ent.refl _)), trivial⟩ rfl ?_
      exact E.again (k + 1) (by first | rfl | (simp; done)) (by exact ⟨by omega, any_take_step (d := zEntryV) hl0.2 (by omega) hc1⟩) (by omega) (by exact (Sub.upd (Sub.upd (Sub.upd (Sub.upd (Sub.top _) 0 (Ent.refl _)) 1 (Ent.refl _)) 7 (Ent.refl _)) 8 (ent_i (by first | rfl | (simp; done) | omega | (simp only [vs0, vs1, decide_eq_true_eq, decide_eq_false_iff_not, Bool.not_eq_true, Bool.not_eq_false, Decidable.not_not, strOf_size, strOf_chars, ascSet_length, ba_size] at *; omega) | (simp [vs0, vs1, decide_eq_true_eq, decide_eq_false_iff_not, Bool.not_eq_true, Bool.not_eq_false, Decidable.not_not, strOf_size, strOf_chars, ascSet_length, ba_size, *]; done)))))
  ·
    try simp only [vb0, decide_eq_true_eq, decide_eq_false_iff_not, Bool.not_eq_true, Bool.not_eq_false, Decidable.not_not] at hc0
    refine J.exit ?_
    refine E.passX ?_
    refine E.passX ?_
    refine E.hit ?_
    refine E.next ?_
    refine J.seq ?_
    refine J.reg_ hmix ([plain (Rep.is (.int .i64 (-1)))]) (by kernel_rfl) rfl ⟨OpG.none_ rfl (op_assign rfl (Ent.refl _)), trivial⟩ rfl ?_
    refine E.next ?_
    refine J.ret ?_
    exact E.ret1 rfl (ent_i (by exact idx_none hl0.2 (by omega)))
-- slices.ContainsFunc[[]sealery/api.Entry,sealery/api.Entry]
theorem con_e_ct (l : List Entry) : Ct Tryz.prog 83 [(kSl kEntry).rep (l), clo 81 []] (Rep.is (.bool (l.any longEntry))) := by
  refine CtG.of Tryz.func83 rfl rfl (Nat.le_of_ble_eq_true rfl) (fun w0 h0 hp => ?_)
  refine J.len (s := 0) (k := kEntry) (xs := l) (Ent.refl _) (fun hlen_0 => ?_)
  refine J.seq ?_
  refine J.reg_ hmix ([plain (Rep.is (.bool (false)))]) (by kernel_rfl) rfl ⟨OpG.none_ rfl (op_assign rfl (Ent.refl _)), trivial⟩ rfl ?_
  refine E.next ?_
  refine J.seq ?_
  refine J.reg_ hmix ([plain ((kSl kEntry).rep (l)), plain (clo 81 []), plain (Rep.is (.int .i64 (idxF longEntry l))), plain (Rep.is (.bool (decide (0 ≤ (idxF longEntry l))))), plain (Rep.is (.bool (decide (0 ≤ (idxF longEntry l)))))]) (by kernel_rfl) rfl ⟨OpG.none_ rfl (op_move rfl (Ent.refl _)), OpG.none_ rfl (op_move rfl (Ent.refl _)), OpG.none_ rfl (g_call rfl en132 (idx_e_ct l) ⟨(Ent.refl _), (Ent.refl _), trivial⟩), OpG.none_ rfl (op_geq rfl (Ent.refl _) (Ent.refl _)), OpG.none_ rfl (op_assign rfl (Ent.refl _)), trivial⟩ rfl ?_
  refine E.next ?_
  refine J.ret ?_
  exact E.ret1 rfl (ent_b (by exact idx_any _ _))
-- sealery/command.long
theorem longt_ct (t : Token) : Ct Tryz.prog 59 [kToken.rep (t)] (Rep.is (.bool (longT t))) := by
  refine CtG.of Tryz.func59 rfl rfl (Nat.le_of_ble_eq_true rfl) (fun w0 h0 hp => ?_)
  refine J.seq ?_
  refine J.reg_ hmix ([plain (ptr (kToken.fp (t))), plain (Rep.is (.bool (false)))]) (by kernel_rfl) rfl ⟨OpG.none_ rfl (op_box (f := kToken.fp (t)) rfl (Ent.refl _)), OpG.none_ rfl (op_assign rfl (Ent.refl _)), trivial⟩ rfl ?_
  refine E.next ?_
  refine J.seq ?_
  refine J.reg_ hmix ([plain (ptr (kS.fp (t.ten))), plain (Rep.is (.string (t.ten))), plain (Rep.is (.bool (longS t.ten))), plain (Rep.is (.bool (longS t.ten))), plain (Rep.cond (True ∧ (longS t.ten) = false) (ptr ((kSl kGrant).fp (t.grs)))), plain (Rep.cond (True ∧ (longS t.ten) = false) ((kSl kGrant).rep (t.grs))), plain (Rep.cond (True ∧ (longS t.ten) = false) (Rep.is (.bool (t.grs.any longG)))), plain (Rep.is (.bool ((longS t.ten) || (t.grs.any longG)))), plain (Rep.is (.bool ((longS t.ten) || (t.grs.any longG))))]) (by kernel_rfl) rfl ⟨OpG.none_ rfl (g_field (l := kTokenF (t)) rfl fa26_0 (fun _ _ e => e) rfl rfl (Ent.refl _)), OpG.none_ rfl (g_loadS rfl ld9 (Ent.refl _)), OpG.none_ rfl (g_call rfl en80 (command_longest_ct t.ten) ⟨(Ent.refl _), trivial⟩), OpG.none_ rfl (op_move rfl (Ent.refl _)), OpG.one_ rfl rfl rfl (fun hg => (g_field (l := kTokenF (t)) rfl fa26_2 (fun _ _ e => e) rfl rfl (Ent.refl _))), OpG.one_ rfl rfl rfl (fun hg => (g_load rfl ld22 (Ent.cond (q := True ∧ (longS t.ten) = false) (R := ptr ((kSl kGrant).fp (t.grs))) ⟨trivial, hg⟩ (Ent.refl _)))), OpG.one_ rfl rfl rfl (fun hg => (g_call rfl en124 (con_g_ct t.grs) ⟨(Ent.cond (q := True ∧ (longS t.ten) = false) (R := (kSl kGrant).rep (t.grs)) ⟨trivial, hg⟩ (Ent.refl _)), (clo_of 125), trivial⟩)), OpG.none_ rfl (op_or rfl (Ent.refl _) rfl (fun hz => Ent.cond (q := True ∧ (longS t.ten) = false) (R := Rep.is (.bool (t.grs.any longG))) ⟨trivial, hz⟩ (Ent.refl _))), OpG.none_ rfl (op_assign rfl (Ent.refl _)), trivial⟩ rfl ?_
  refine E.next ?_
  refine J.ret ?_
  exact E.ret1 rfl (ent_b (by rfl))
-- sealery/command.given
theorem command_given_ct (c : Command) : Ct Tryz.prog 61 [kCommand.rep (c)] (Rep.is (.int .u64 (givenF c))) := by
  refine CtG.of Tryz.func61 rfl rfl (Nat.le_of_ble_eq_true rfl) (fun w0 h0 hp => ?_)
  refine J.seq ?_
  refine J.reg_ hmix ([plain (ptr (kCommand.fp (c))), plain (Rep.is (.int .u64 (0)))]) (by kernel_rfl) rfl ⟨OpG.none_ rfl (op_box (f := kCommand.fp (c)) rfl (Ent.refl _)), OpG.none_ rfl (op_assign rfl (Ent.refl _)), trivial⟩ rfl ?_
  refine E.next ?_
  refine J.seq ?_
  refine J.seq ?_
  refine J.reg_ hmix ([plain (ptr (kS.fp (c.str))), plain (Rep.is (.string (c.str))), plain (Rep.is (.bool (decide (¬ c.str = (⟨#[]⟩ : ByteArray))))), plain (ptr (kS.fp (c.sub))), plain (Rep.is (.string (c.sub))), plain (Rep.is (.bool (decide (¬ c.sub = (⟨#[]⟩ : ByteArray))))), plain (ptr ((kI .i64).fp (c.exp))), plain (Rep.is (.int .i64 (c.exp))), plain (Rep.is (.bool (decide (¬ c.exp = 0)))), plain (ptr ((kSl (kSl kU8)).fp (c.bod))), plain ((kSl (kSl kU8)).rep (c.bod)), plain (Rep.is (.int .i64 (((c.bod).length : Int)))), plain (Rep.is (.bool (decide (0 < ((c.bod).length : Int))))), plain (ptr ((kI .i64).fp (c.fro))), plain (Rep.is (.int .i64 (c.fro))), plain (Rep.is (.bool (decide (¬ c.fro = 0)))), plain (ptr ((kI .i64).fp (c.cnt))), plain (Rep.is (.int .i64 (c.cnt))), plain (Rep.is (.bool (decide (¬ c.cnt = 0)))), plain (ptr (kGrant.fp (c.gra))), plain (kGrant.rep (c.gra)), plain (kGrant.rep ((⟨0, ⟨#[]⟩, false, 0⟩ : Grant))), plain (Rep.is (.bool (!decide (c.gra = (⟨0, ⟨#[]⟩, false, 0⟩ : Grant))))), plain (ptr ((kI .i64).fp (c.cid))), plain (Rep.is (.int .i64 (c.cid))), plain (Rep.is (.bool (decide (¬ c.cid = 0)))), plain ((kSl kB).rep ([decide (¬ c.str = (⟨#[]⟩ : ByteArray)), decide (¬ c.sub = (⟨#[]⟩ : ByteArray)), decide (¬ c.exp = 0), decide (0 < ((c.bod).length : Int)), decide (¬ c.fro = 0), decide (¬ c.cnt = 0), !decide (c.gra = (⟨0, ⟨#[]⟩, false, 0⟩ : Grant)), decide (¬ c.cid = 0)])), plain (Rep.is (.int .i64 ((([decide (¬ c.str = (⟨#[]⟩ : ByteArray)), decide (¬ c.sub = (⟨#[]⟩ : ByteArray)), decide (¬ c.exp = 0), decide (0 < ((c.bod).length : Int)), decide (¬ c.fro = 0), decide (¬ c.cnt = 0), !decide (c.gra = (⟨0, ⟨#[]⟩, false, 0⟩ : Grant)), decide (¬ c.cid = 0)]).length : Int)))), plain (Rep.is (.int .i64 (0)))]) (by kernel_rfl) rfl ⟨OpG.none_ rfl (g_field (l := kCommandF (c)) rfl fa31_2 (fun _ _ e => e) rfl rfl (Ent.refl _)), OpG.none_ rfl (g_loadS rfl ld9 (Ent.refl _)), OpG.none_ rfl (op_sne rfl (Ent.refl _) (Ent.refl _)), OpG.none_ rfl (g_field (l := kCommandF (c)) rfl fa31_3 (fun _ _ e => e) rfl rfl (Ent.refl _)), OpG.none_ rfl (g_loadS rfl ld9 (Ent.refl _)), OpG.none_ rfl (op_sne rfl (Ent.refl _) (Ent.refl _)), OpG.none_ rfl (g_field (l := kCommandF (c)) rfl fa31_4 (fun _ _ e => e) rfl rfl (Ent.refl _)), OpG.none_ rfl (g_loadI rfl ld3 (Ent.refl _)), OpG.none_ rfl (op_neq rfl (Ent.refl _) (Ent.refl _)), OpG.none_ rfl (g_field (l := kCommandF (c)) rfl fa31_5 (fun _ _ e => e) rfl rfl (Ent.refl _)), OpG.none_ rfl (g_load rfl ld27 (Ent.refl _)), OpG.none_ rfl (g_len rfl sl27 (Ent.refl _)), OpG.none_ rfl (op_gtr rfl (Ent.refl _) (Ent.refl _)), OpG.none_ rfl (g_field (l := kCommandF (c)) rfl fa31_6 (fun _ _ e => e) rfl rfl (Ent.refl _)), OpG.none_ rfl (g_loadI rfl ld3 (Ent.refl _)), OpG.none_ rfl (op_neq rfl (Ent.refl _) (Ent.refl _)), OpG.none_ rfl (g_field (l := kCommandF (c)) rfl fa31_7 (fun _ _ e => e) rfl rfl (Ent.refl _)), OpG.none_ rfl (g_loadI rfl ld3 (Ent.refl _)), OpG.none_ rfl (op_neq rfl (Ent.refl _) (Ent.refl _)), OpG.none_ rfl (g_field (l := kCommandF (c)) rfl fa31_8 (fun _ _ e => e) rfl rfl (Ent.refl _)), OpG.none_ rfl (g_load rfl ld29 (Ent.refl _)), OpG.none_ rfl (op_build (f := kGrant.fp (⟨0, ⟨#[]⟩, false, 0⟩ : Grant)) rfl bs29 zGrant rfl (fun _ _ e => e) rfl), OpG.none_ rfl (grant_neq rfl grT (Ent.refl _) (Ent.refl _)), OpG.none_ rfl (g_field (l := kCommandF (c)) rfl fa31_9 (fun _ _ e => e) rfl rfl (Ent.refl _)), OpG.none_ rfl (g_loadI rfl ld3 (Ent.refl _)), OpG.none_ rfl (op_neq rfl (Ent.refl _) (Ent.refl _)), OpG.none_ rfl (op_slit (k := kB) (xs := [decide (¬ c.str = (⟨#[]⟩ : ByteArray)), decide (¬ c.sub = (⟨#[]⟩ : ByteArray)), decide (¬ c.exp = 0), decide (0 < ((c.bod).length : Int)), decide (¬ c.fro = 0), decide (¬ c.cnt = 0), !decide (c.gra = (⟨0, ⟨#[]⟩, false, 0⟩ : Grant)), decide (¬ c.cid = 0)]) rfl sl145.1 sl145.2 zt4 rfl rfl (by decide) (by decide) rfl ⟨_, kB.fp (decide (¬ c.str = (⟨#[]⟩ : ByteArray))), rfl, rfl, ((Ent.refl _).trans (bool_rep _)), rfl, _, kB.fp (decide (¬ c.sub = (⟨#[]⟩ : ByteArray))), rfl, rfl, ((Ent.refl _).trans (bool_rep _)), rfl, _, kB.fp (decide (¬ c.exp = 0)), rfl, rfl, ((Ent.refl _).trans (bool_rep _)), rfl, _, kB.fp (decide (0 < ((c.bod).length : Int))), rfl, rfl, ((Ent.refl _).trans (bool_rep _)), rfl, _, kB.fp (decide (¬ c.fro = 0)), rfl, rfl, ((Ent.refl _).trans (bool_rep _)), rfl, _, kB.fp (decide (¬ c.cnt = 0)), rfl, rfl, ((Ent.refl _).trans (bool_rep _)), rfl, _, kB.fp (!decide (c.gra = (⟨0, ⟨#[]⟩, false, 0⟩ : Grant))), rfl, rfl, ((Ent.refl _).trans (bool_rep _)), rfl, _, kB.fp (decide (¬ c.cid = 0)), rfl, rfl, ((Ent.refl _).trans (bool_rep _)), rfl, rfl⟩), OpG.none_ rfl (g_len rfl sl145 (Ent.refl _)), OpG.none_ rfl (op_move rfl (Ent.refl _)), trivial⟩ rfl ?_
  refine E.len (s := 15) (k := (kSl kU8)) (xs := c.bod) (Ent.refl _) (fun hlen1 => ?_)
  refine E.len (s := 31) (k := kB) (xs := [decide (¬ c.str = (⟨#[]⟩ : ByteArray)), decide (¬ c.sub = (⟨#[]⟩ : ByteArray)), decide (¬ c.exp = 0), decide (0 < ((c.bod).length : Int)), decide (¬ c.fro = 0), decide (¬ c.cnt = 0), !decide (c.gra = (⟨0, ⟨#[]⟩, false, 0⟩ : Grant)), decide (¬ c.cid = 0)]) (Ent.refl _) (fun hlen2 => ?_)
  refine E.next ?_
  refine J.block ?_
  refine J.loop (ι := Nat) (fun i_ => (upd (upd (upd (upd top 2 (Rep.is (.int .u64 (givenK (flags c) i_)))) 31 ((kSl kB).rep ([decide (¬ c.str = (⟨#[]⟩ : ByteArray)), decide (¬ c.sub = (⟨#[]⟩ : ByteArray)), decide (¬ c.exp = 0), decide (0 < ((c.bod).length : Int)), decide (¬ c.fro = 0), decide (¬ c.cnt = 0), !decide (c.gra = (⟨0, ⟨#[]⟩, false, 0⟩ : Grant)), decide (¬ c.cid = 0)]))) 32 (Rep.is (.int .i64 ((([decide (¬ c.str = (⟨#[]⟩ : ByteArray)), decide (¬ c.sub = (⟨#[]⟩ : ByteArray)), decide (¬ c.exp = 0), decide (0 < ((c.bod).length : Int)), decide (¬ c.fro = 0), decide (¬ c.cnt = 0), !decide (c.gra = (⟨0, ⟨#[]⟩, false, 0⟩ : Grant)), decide (¬ c.cid = 0)]).length : Int))))) 33 (Rep.is (.int .i64 ((i_ : Int)))))) (fun i_ => []) (fun i_ => i_ ≤ 8) (fun i_ => 8 - i_) (0) (by first | rfl | (simp; done)) (by omega) (by exact (Sub.upd (Sub.upd (Sub.upd (Sub.upd (Sub.top _) 2 (ent_i (by first | rfl | (simp; done) | omega | (simp only [vs0, vs1, decide_eq_true_eq, decide_eq_false_iff_not, Bool.not_eq_true, Bool.not_eq_false, Decidable.not_not, strOf_size, strOf_chars, ascSet_length, ba_size] at *; omega) | (simp [vs0, vs1, decide_eq_true_eq, decide_eq_false_iff_not, Bool.not_eq_true, Bool.not_eq_false, Decidable.not_not, strOf_size, strOf_chars, ascSet_length, ba_size, *]; done)))) 31 (Ent.refl _)) 32 (Ent.refl _)) 33 (ent_i (by first | rfl | (simp; done) | omega | (simp only [vs0, vs1, decide_eq_true_eq, decide_eq_false_iff_not, Bool.not_eq_true, Bool.not_eq_false, Decidable.not_not, strOf_size, strOf_chars, ascSet_length, ba_size] at *; omega) | (simp [vs0, vs1, decide_eq_true_eq, decide_eq_false_iff_not, Bool.not_eq_true, Bool.not_eq_false, Decidable.not_not, strOf_size, strOf_chars, ascSet_length, ba_size, *]; done))))) ?_
  rintro k hl0
  skip
  refine J.seq ?_
  refine J.reg_ hmix ([plain (Rep.is (.bool (decide ((k : Int) < (([decide (¬ c.str = (⟨#[]⟩ : ByteArray)), decide (¬ c.sub = (⟨#[]⟩ : ByteArray)), decide (¬ c.exp = 0), decide (0 < ((c.bod).length : Int)), decide (¬ c.fro = 0), decide (¬ c.cnt = 0), !decide (c.gra = (⟨0, ⟨#[]⟩, false, 0⟩ : Grant)), decide (¬ c.cid = 0)]).length : Int)))))]) (by kernel_rfl) rfl ⟨OpG.none_ rfl (op_lss rfl (Ent.refl _) (Ent.refl _)), trivial⟩ rfl ?_
  refine E.next ?_
  refine J.seq ?_
  refine J.cond (B := decide ((k : Int) < (([decide (¬ c.str = (⟨#[]⟩ : ByteArray)), decide (¬ c.sub = (⟨#[]⟩ : ByteArray)), decide (¬ c.exp = 0), decide (0 < ((c.bod).length : Int)), decide (¬ c.fro = 0), decide (¬ c.cnt = 0), !decide (c.gra = (⟨0, ⟨#[]⟩, false, 0⟩ : Grant)), decide (¬ c.cid = 0)]).length : Int))) (Ent.refl _) (fun hc0 => ?_) (fun hc0 => ?_)
  ·
    try simp only [vb0, decide_eq_true_eq, decide_eq_false_iff_not, Bool.not_eq_true, Bool.not_eq_false, Decidable.not_not] at hc0
    simp only [List.length_cons, List.length_nil] at hc0
    refine J.skip ?_
    refine E.next ?_
    refine J.cut (ι := Unit) (fun i_ => (upd (upd (upd (upd (upd top 2 (Rep.is (.int .u64 (givenK (flags c) (k + 1))))) 31 ((kSl kB).rep ([decide (¬ c.str = (⟨#[]⟩ : ByteArray)), decide (¬ c.sub = (⟨#[]⟩ : ByteArray)), decide (¬ c.exp = 0), decide (0 < ((c.bod).length : Int)), decide (¬ c.fro = 0), decide (¬ c.cnt = 0), !decide (c.gra = (⟨0, ⟨#[]⟩, false, 0⟩ : Grant)), decide (¬ c.cid = 0)]))) 32 (Rep.is (.int .i64 ((([decide (¬ c.str = (⟨#[]⟩ : ByteArray)), decide (¬ c.sub = (⟨#[]⟩ : ByteArray)), decide (¬ c.exp = 0), decide (0 < ((c.bod).length : Int)), decide (¬ c.fro = 0), decide (¬ c.cnt = 0), !decide (c.gra = (⟨0, ⟨#[]⟩, false, 0⟩ : Grant)), decide (¬ c.cid = 0)]).length : Int))))) 33 (Rep.is (.int .i64 ((k : Int))))) 34 (Rep.is (.bool (decide ((k : Int) < (([decide (¬ c.str = (⟨#[]⟩ : ByteArray)), decide (¬ c.sub = (⟨#[]⟩ : ByteArray)), decide (¬ c.exp = 0), decide (0 < ((c.bod).length : Int)), decide (¬ c.fro = 0), decide (¬ c.cnt = 0), !decide (c.gra = (⟨0, ⟨#[]⟩, false, 0⟩ : Grant)), decide (¬ c.cid = 0)]).length : Int))))))) (fun i_ => []) (fun i_ => True) ?_ ?_
    ·
      refine J.block ?_
      refine J.seq ?_
      refine J.reg_ hmix ([plain (Rep.is (.int .i64 ((k : Int)))), plain (ptr (kB.fp (([decide (¬ c.str = (⟨#[]⟩ : ByteArray)), decide (¬ c.sub = (⟨#[]⟩ : ByteArray)), decide (¬ c.exp = 0), decide (0 < ((c.bod).length : Int)), decide (¬ c.fro = 0), decide (¬ c.cnt = 0), !decide (c.gra = (⟨0, ⟨#[]⟩, false, 0⟩ : Grant)), decide (¬ c.cid = 0)]).getD k false))), plain (Rep.is (.bool (([decide (¬ c.str = (⟨#[]⟩ : ByteArray)), decide (¬ c.sub = (⟨#[]⟩ : ByteArray)), decide (¬ c.exp = 0), decide (0 < ((c.bod).length : Int)), decide (¬ c.fro = 0), decide (¬ c.cnt = 0), !decide (c.gra = (⟨0, ⟨#[]⟩, false, 0⟩ : Grant)), decide (¬ c.cid = 0)]).getD k false))), plain (Rep.is (.int .i64 ((k : Int)))), plain (Rep.is (.bool (([decide (¬ c.str = (⟨#[]⟩ : ByteArray)), decide (¬ c.sub = (⟨#[]⟩ : ByteArray)), decide (¬ c.exp = 0), decide (0 < ((c.bod).length : Int)), decide (¬ c.fro = 0), decide (¬ c.cnt = 0), !decide (c.gra = (⟨0, ⟨#[]⟩, false, 0⟩ : Grant)), decide (¬ c.cid = 0)]).getD k false)))]) (by kernel_rfl) rfl ⟨OpG.none_ rfl (op_move rfl (Ent.refl _)), OpG.none_ rfl (g_index (i := (k : Int)) (d := false) rfl sl145 (Ent.refl _) (Ent.refl _) (by first | omega | (simp only [vs0, vs1, decide_eq_true_eq, decide_eq_false_iff_not, Bool.not_eq_true, Bool.not_eq_false, Decidable.not_not, strOf_size, strOf_chars, ascSet_length, ba_size] at *; omega) | (simp [vs0, vs1, decide_eq_true_eq, decide_eq_false_iff_not, Bool.not_eq_true, Bool.not_eq_false, Decidable.not_not, strOf_size, strOf_chars, ascSet_length, ba_size] at *; omega))), OpG.none_ rfl (g_loadB rfl ld4 (Ent.refl _)), OpG.none_ rfl (op_assign rfl (Ent.refl _)), OpG.none_ rfl (op_assign rfl (Ent.refl _)), trivial⟩ rfl ?_
      refine E.next ?_
      refine J.seq ?_
      refine J.reg_ hmix ([plain (Rep.is (.bool (([decide (¬ c.str = (⟨#[]⟩ : ByteArray)), decide (¬ c.sub = (⟨#[]⟩ : ByteArray)), decide (¬ c.exp = 0), decide (0 < ((c.bod).length : Int)), decide (¬ c.fro = 0), decide (¬ c.cnt = 0), !decide (c.gra = (⟨0, ⟨#[]⟩, false, 0⟩ : Grant)), decide (¬ c.cid = 0)]).getD k false)))]) (by kernel_rfl) rfl ⟨OpG.none_ rfl (op_move rfl (Ent.refl _)), trivial⟩ rfl ?_
      refine E.next ?_
      refine J.cond (B := ([decide (¬ c.str = (⟨#[]⟩ : ByteArray)), decide (¬ c.sub = (⟨#[]⟩ : ByteArray)), decide (¬ c.exp = 0), decide (0 < ((c.bod).length : Int)), decide (¬ c.fro = 0), decide (¬ c.cnt = 0), !decide (c.gra = (⟨0, ⟨#[]⟩, false, 0⟩ : Grant)), decide (¬ c.cid = 0)]).getD k false) (Ent.refl _) (fun hc1 => ?_) (fun hc1 => ?_)
      ·
        try simp only [vb0, decide_eq_true_eq, decide_eq_false_iff_not, Bool.not_eq_true, Bool.not_eq_false, Decidable.not_not] at hc1
        refine J.reg_ hmix ([plain (Rep.is (.int .u64 (givenK (flags c) k))), plain (Rep.is (.int .i64 ((k : Int)))), plain (Rep.is (.int .u64 (IntKind.u64.wrap (1 * 2 ^ (((k : Int) : Int)).toNat)))), plain (Rep.is (.int .u64 (bits .or .u64 (givenK (flags c) k) (IntKind.u64.wrap (1 * 2 ^ (((k : Int) : Int)).toNat))))), plain (Rep.is (.int .u64 (bits .or .u64 (givenK (flags c) k) (IntKind.u64.wrap (1 * 2 ^ (((k : Int) : Int)).toNat)))))]) (by kernel_rfl) rfl ⟨OpG.none_ rfl (op_move rfl (Ent.refl _)), OpG.none_ rfl (op_move rfl (Ent.refl _)), OpG.none_ rfl (op_shl rfl (Ent.refl _) (Ent.refl _) (show 0 ≤ ((k : Int) : Int) ∧ ((k : Int) : Int) ≤ 64 from by first | omega | (simp only [vs0, vs1, decide_eq_true_eq, decide_eq_false_iff_not, Bool.not_eq_true, Bool.not_eq_false, Decidable.not_not, strOf_size, strOf_chars, ascSet_length, ba_size] at *; omega) | (simp [vs0, vs1, decide_eq_true_eq, decide_eq_false_iff_not, Bool.not_eq_true, Bool.not_eq_false, Decidable.not_not, strOf_size, strOf_chars, ascSet_length, ba_size] at *; omega))), OpG.none_ rfl (op_or_bits rfl (Ent.refl _) (Ent.refl _)), OpG.none_ rfl (op_assign rfl (Ent.refl _)), trivial⟩ rfl ?_
        refine E.blockEnd ?_
        exact E.meet () (by first | rfl | (simp; done)) (by first | trivial | omega | (simp [vs0, vs1, decide_eq_true_eq, decide_eq_false_iff_not, Bool.not_eq_true, Bool.not_eq_false, Decidable.not_not, strOf_size, strOf_chars, ascSet_length, ba_size, *]; done)) (by exact (Sub.upd (Sub.upd (Sub.upd (Sub.upd (Sub.upd (Sub.top _) 2 (ent_i (by first | exact given_on hc1 | exact given_off hc1))) 31 (Ent.refl _)) 32 (Ent.refl _)) 33 (Ent.refl _)) 34 (Ent.refl _)))
      ·
        try simp only [vb0, decide_eq_true_eq, decide_eq_false_iff_not, Bool.not_eq_true, Bool.not_eq_false, Decidable.not_not] at hc1
        refine J.skip ?_
        refine E.blockEnd ?_
        exact E.meet () (by first | rfl | (simp; done)) (by first | trivial | omega | (simp [vs0, vs1, decide_eq_true_eq, decide_eq_false_iff_not, Bool.not_eq_true, Bool.not_eq_false, Decidable.not_not, strOf_size, strOf_chars, ascSet_length, ba_size, *]; done)) (by exact (Sub.upd (Sub.upd (Sub.upd (Sub.upd (Sub.upd (Sub.top _) 2 (ent_i (by first | exact given_on hc1 | exact given_off hc1))) 31 (Ent.refl _)) 32 (Ent.refl _)) 33 (Ent.refl _)) 34 (Ent.refl _)))
    ·
      rintro _ hj0
      refine J.reg_ hmix ([plain (Rep.is (.int .i64 ((k : Int) + 1))), plain (Rep.is (.int .i64 ((k : Int) + 1)))]) (by kernel_rfl) rfl ⟨OpG.none_ rfl (g_add rfl (Ent.refl _) (Ent.refl _) (by first | omega | (simp only [vs0, vs1, decide_eq_true_eq, decide_eq_false_iff_not, Bool.not_eq_true, Bool.not_eq_false, Decidable.not_not, strOf_size, strOf_chars, ascSet_length, ba_size] at *; omega) | (simp [vs0, vs1, decide_eq_true_eq, decide_eq_false_iff_not, Bool.not_eq_true, Bool.not_eq_false, Decidable.not_not, strOf_size, strOf_chars, ascSet_length, ba_size] at *; omega))), OpG.none_ rfl (op_move rfl (Ent.refl _)), trivial⟩ rfl ?_
      exact E.again (k + 1) (by first | rfl | (simp; done)) (by omega) (by omega) (by exact (Sub.upd (Sub.upd (Sub.upd (Sub.upd (Sub.top _) 2 (Ent.refl _)) 31 (Ent.refl _)) 32 (Ent.refl _)) 33 (ent_i (by first | rfl | (simp; done) | omega | (simp only [vs0, vs1, decide_eq_true_eq, decide_eq_false_iff_not, Bool.not_eq_true, Bool.not_eq_false, Decidable.not_not, strOf_size, strOf_chars, ascSet_length, ba_size] at *; omega) | (simp [vs0, vs1, decide_eq_true_eq, decide_eq_false_iff_not, Bool.not_eq_true, Bool.not_eq_false, Decidable.not_not, strOf_size, strOf_chars, ascSet_length, ba_size, *]; done)))))
  ·
    try simp only [vb0, decide_eq_true_eq, decide_eq_false_iff_not, Bool.not_eq_true, Bool.not_eq_false, Decidable.not_not] at hc0
    simp only [List.length_cons, List.length_nil] at hc0
    refine J.exit ?_
    refine E.passX ?_
    refine E.passX ?_
    refine E.hit ?_
    refine E.next ?_
    refine J.seq ?_
    refine J.reg_ hmix ([plain (Rep.is (.int .u64 (givenK (flags c) k))), plain (Rep.is (.int .u64 (givenK (flags c) k)))]) (by kernel_rfl) rfl ⟨OpG.none_ rfl (op_move rfl (Ent.refl _)), OpG.none_ rfl (op_assign rfl (Ent.refl _)), trivial⟩ rfl ?_
    refine E.next ?_
    refine J.ret ?_
    exact E.ret1 rfl (ent_i (by (have h8 : k = 8 := by omega); subst h8; rfl))
-- sealery/command.Check
theorem check_ct (c : Command) : Ct Tryz.prog 14 [kCommand.rep (c)] (Rep.is (.int .i64 (checkC c))) := by
  refine CtG.of Tryz.func14 rfl rfl (Nat.le_of_ble_eq_true rfl) (fun w0 h0 hp => ?_)
  refine J.seq ?_
  refine J.reg_ hmix ([plain (ptr (kCommand.fp (c))), plain (Rep.is (.int .i64 (0)))]) (by kernel_rfl) rfl ⟨OpG.none_ rfl (op_box (f := kCommand.fp (c)) rfl (Ent.refl _)), OpG.none_ rfl (op_assign rfl (Ent.refl _)), trivial⟩ rfl ?_
  refine E.next ?_
  refine J.seq ?_
  refine J.seq ?_
  refine J.reg_ hmix ([plain (ptr ((kI .i64).fp (c.kind))), plain (Rep.is (.int .i64 (c.kind))), plain (Rep.is (.bool (decide (c.kind < 1)))), plain (Rep.is (.bool (decide (c.kind < 1)))), plain (Rep.cond (True ∧ (decide (c.kind < 1)) = false) (ptr ((kI .i64).fp (c.kind)))), plain (Rep.cond (True ∧ (decide (c.kind < 1)) = false) (Rep.is (.int .i64 (c.kind)))), plain (Rep.cond (True ∧ (decide (c.kind < 1)) = false) (Rep.is (.bool (decide (8 < c.kind))))), plain (Rep.is (.bool ((decide (c.kind < 1)) || (decide (8 < c.kind)))))]) (by kernel_rfl) rfl ⟨OpG.none_ rfl (g_field (l := kCommandF (c)) rfl fa31_0 (fun _ _ e => e) rfl rfl (Ent.refl _)), OpG.none_ rfl (g_loadI rfl ld3 (Ent.refl _)), OpG.none_ rfl (op_lss rfl (Ent.refl _) (Ent.refl _)), OpG.none_ rfl (op_move rfl (Ent.refl _)), OpG.one_ rfl rfl rfl (fun hg => (g_field (l := kCommandF (c)) rfl fa31_0 (fun _ _ e => e) rfl rfl (Ent.refl _))), OpG.one_ rfl rfl rfl (fun hg => (g_loadI rfl ld3 (Ent.cond (q := True ∧ (decide (c.kind < 1)) = false) (R := ptr ((kI .i64).fp (c.kind))) ⟨trivial, hg⟩ (Ent.refl _)))), OpG.one_ rfl rfl rfl (fun hg => (op_gtr rfl (Ent.cond (q := True ∧ (decide (c.kind < 1)) = false) (R := Rep.is (.int .i64 (c.kind))) ⟨trivial, hg⟩ (Ent.refl _)) (Ent.refl _))), OpG.none_ rfl (op_or rfl (Ent.refl _) rfl (fun hz => Ent.cond (q := True ∧ (decide (c.kind < 1)) = false) (R := Rep.is (.bool (decide (8 < c.kind)))) ⟨trivial, hz⟩ (Ent.refl _))), trivial⟩ rfl ?_
  refine E.next ?_
  refine J.cond (B := (decide (c.kind < 1)) || (decide (8 < c.kind))) (Ent.refl _) (fun hc0 => ?_) (fun hc0 => ?_)
  ·
    try simp only [vb0, decide_eq_true_eq, decide_eq_false_iff_not, Bool.not_eq_true, Bool.not_eq_false, Decidable.not_not] at hc0
    refine J.seq ?_
    refine J.reg_ hmix ([plain (Rep.is (.int .i64 (2)))]) (by kernel_rfl) rfl ⟨OpG.none_ rfl (op_assign rfl (Ent.refl _)), trivial⟩ rfl ?_
    refine E.next ?_
    refine J.ret ?_
    refine E.passR ?_
    exact E.ret1 rfl (ent_i (by first | (simp [checkC, allF, *]; done) | (unfold checkC; simp_all [allF]; done) | grind [checkC, allF]))
  ·
    try simp only [vb0, decide_eq_true_eq, decide_eq_false_iff_not, Bool.not_eq_true, Bool.not_eq_false, Decidable.not_not] at hc0
    refine J.skip ?_
    refine E.next ?_
    refine J.seq ?_
    refine J.regL (is := [0, 1, 2, 3, 4, 5]) rfl ?_
    refine JO.plain (R := ptr ((kI .i64).fp (c.kind))) rfl rfl rfl (Nat.le_of_ble_eq_true rfl) (g_field (l := kCommandF (c)) rfl fa31_0 (fun _ _ e => e) rfl rfl (Ent.refl _)) ?_
    refine JO.plain (R := Rep.is (.int .i64 (c.kind))) rfl rfl rfl (Nat.le_of_ble_eq_true rfl) (g_loadI rfl ld3 (Ent.refl _)) ?_
    refine JO.plain (R := ptr ((kI .u64).fp (ofTab.getD ((c.kind).toNat) 0))) rfl rfl rfl (Nat.le_of_ble_eq_true rfl) (op_indexG (k := (kI .u64)) (j := c.kind) 0 rfl ar86 of_ptr (Ent.refl _) (by first | omega | (simp only [vs0, vs1, decide_eq_true_eq, decide_eq_false_iff_not, Bool.not_eq_true, Bool.not_eq_false, Decidable.not_not, strOf_size, strOf_chars, ascSet_length, ba_size] at *; omega) | (simp [vs0, vs1, decide_eq_true_eq, decide_eq_false_iff_not, Bool.not_eq_true, Bool.not_eq_false, Decidable.not_not, strOf_size, strOf_chars, ascSet_length, ba_size] at *; omega))) ?_
    refine JO.plain (R := Rep.is (.int .u64 (ofTab.getD ((c.kind).toNat) 0))) rfl rfl rfl (Nat.le_of_ble_eq_true rfl) (g_loadI rfl ld85 (Ent.refl _)) ?_
    refine JO.newB rfl rfl rfl (Nat.le_of_ble_eq_true rfl) (op_alloc (f := (kI .u64).fp (0)) rfl zt85 (fun h => (fun h => rfl : ∀ h : PH, _) h)) (fun b1 => ?_)
    refine JO.store (f := (kI .u64).fp (0)) (f' := (kI .u64).fp (ofTab.getD ((c.kind).toNat) 0)) (g := (kI .u64).fp (ofTab.getD ((c.kind).toNat) 0)) rfl rfl rfl rfl (Ent.refl _) ((Ent.refl _).trans (int_rep _ _)) ld85.2 (Turn.all _ _ rfl) ?_
    refine JO.nil ?_
    refine E.pubP (s := 3) (Ent.refl _) ?_
    refine E.next ?_
    refine J.seq ?_
    refine J.reg_ hmix ([plain (clo 54 [ptr ((kI .u64).fp (ofTab.getD ((c.kind).toNat) 0))]), plain (clo 54 [ptr ((kI .u64).fp (ofTab.getD ((c.kind).toNat) 0))])]) (by kernel_rfl) rfl ⟨OpG.none_ rfl (op_mkf rfl ⟨(Ent.refl _), trivial⟩), OpG.none_ rfl (op_assign rfl (Ent.refl _)), trivial⟩ rfl ?_
    refine E.next ?_
    refine J.seq ?_
    refine J.reg_ hmix ([plain (clo 55 [])]) (by kernel_rfl) rfl ⟨OpG.none_ rfl (op_assign rfl (clo_of 55)), trivial⟩ rfl ?_
    refine E.next ?_
    refine J.seq ?_
    refine J.block ?_
    refine J.seq ?_
    refine J.reg_ hmix ([plain (clo 54 [ptr ((kI .u64).fp (ofTab.getD ((c.kind).toNat) 0))]), plain (Rep.is (.bool (hasF (ofTab.getD ((c.kind).toNat) 0) 1))), plain (ptr (kS.fp (c.str))), plain (Rep.is (.string (c.str))), plain (Rep.is (.bool (unnamed (hasF (ofTab.getD ((c.kind).toNat) 0) 1) c.str))), plain (Rep.is (.bool (unnamed (hasF (ofTab.getD ((c.kind).toNat) 0) 1) c.str))), plain (Rep.cond (True ∧ (unnamed (hasF (ofTab.getD ((c.kind).toNat) 0) 1) c.str) = false) (clo 54 [ptr ((kI .u64).fp (ofTab.getD ((c.kind).toNat) 0))])), plain (Rep.cond (True ∧ (unnamed (hasF (ofTab.getD ((c.kind).toNat) 0) 1) c.str) = false) (Rep.is (.bool (hasF (ofTab.getD ((c.kind).toNat) 0) 2)))), plain (Rep.cond (True ∧ (unnamed (hasF (ofTab.getD ((c.kind).toNat) 0) 1) c.str) = false) (ptr (kS.fp (c.sub)))), plain (Rep.cond (True ∧ (unnamed (hasF (ofTab.getD ((c.kind).toNat) 0) 1) c.str) = false) (Rep.is (.string (c.sub)))), plain (Rep.cond (True ∧ (unnamed (hasF (ofTab.getD ((c.kind).toNat) 0) 1) c.str) = false) (Rep.is (.bool (unnamed (hasF (ofTab.getD ((c.kind).toNat) 0) 2) c.sub)))), plain (Rep.is (.bool ((unnamed (hasF (ofTab.getD ((c.kind).toNat) 0) 1) c.str) || (unnamed (hasF (ofTab.getD ((c.kind).toNat) 0) 2) c.sub)))), plain (Rep.is (.bool ((unnamed (hasF (ofTab.getD ((c.kind).toNat) 0) 1) c.str) || (unnamed (hasF (ofTab.getD ((c.kind).toNat) 0) 2) c.sub))))]) (by kernel_rfl) rfl ⟨OpG.none_ rfl (op_move rfl (Ent.refl _)), OpG.none_ rfl (g_callg rfl en54 (Rs := [Rep.is (.int .u64 (1))]) (Cs := [ptr ((kI .u64).fp (ofTab.getD ((c.kind).toNat) 0))]) (has_ct 1 (ofTab.getD ((c.kind).toNat) 0)) (Ent.refl _) ⟨(Ent.refl _), trivial⟩), OpG.none_ rfl (g_field (l := kCommandF (c)) rfl fa31_2 (fun _ _ e => e) rfl rfl (Ent.refl _)), OpG.none_ rfl (g_loadS rfl ld9 (Ent.refl _)), OpG.none_ rfl (g_call rfl en56 (command_unnamed_ct (hasF (ofTab.getD ((c.kind).toNat) 0) 1) c.str) ⟨(Ent.refl _), (Ent.refl _), trivial⟩), OpG.none_ rfl (op_move rfl (Ent.refl _)), OpG.one_ rfl rfl rfl (fun hg => (op_move rfl (Ent.refl _))), OpG.one_ rfl rfl rfl (fun hg => (g_callg rfl en54 (Rs := [Rep.is (.int .u64 (2))]) (Cs := [ptr ((kI .u64).fp (ofTab.getD ((c.kind).toNat) 0))]) (has_ct 2 (ofTab.getD ((c.kind).toNat) 0)) (Ent.cond (q := True ∧ (unnamed (hasF (ofTab.getD ((c.kind).toNat) 0) 1) c.str) = false) (R := clo 54 [ptr ((kI .u64).fp (ofTab.getD ((c.kind).toNat) 0))]) ⟨trivial, hg⟩ (Ent.refl _)) ⟨(Ent.refl _), trivial⟩)), OpG.one_ rfl rfl rfl (fun hg => (g_field (l := kCommandF (c)) rfl fa31_3 (fun _ _ e => e) rfl rfl (Ent.refl _))), OpG.one_ rfl rfl rfl (fun hg => (g_loadS rfl ld9 (Ent.cond (q := True ∧ (unnamed (hasF (ofTab.getD ((c.kind).toNat) 0) 1) c.str) = false) (R := ptr (kS.fp (c.sub))) ⟨trivial, hg⟩ (Ent.refl _)))), OpG.one_ rfl rfl rfl (fun hg => (g_call rfl en56 (command_unnamed_ct (hasF (ofTab.getD ((c.kind).toNat) 0) 2) c.sub) ⟨(Ent.cond (q := True ∧ (unnamed (hasF (ofTab.getD ((c.kind).toNat) 0) 1) c.str) = false) (R := Rep.is (.bool (hasF (ofTab.getD ((c.kind).toNat) 0) 2))) ⟨trivial, hg⟩ (Ent.refl _)), (Ent.cond (q := True ∧ (unnamed (hasF (ofTab.getD ((c.kind).toNat) 0) 1) c.str) = false) (R := Rep.is (.string (c.sub))) ⟨trivial, hg⟩ (Ent.refl _)), trivial⟩)), OpG.none_ rfl (op_or rfl (Ent.refl _) rfl (fun hz => Ent.cond (q := True ∧ (unnamed (hasF (ofTab.getD ((c.kind).toNat) 0) 1) c.str) = false) (R := Rep.is (.bool (unnamed (hasF (ofTab.getD ((c.kind).toNat) 0) 2) c.sub))) ⟨trivial, hz⟩ (Ent.refl _))), OpG.none_ rfl (op_assign rfl (Ent.refl _)), trivial⟩ rfl ?_
    refine E.next ?_
    refine J.cond (B := (unnamed (hasF (ofTab.getD ((c.kind).toNat) 0) 1) c.str) || (unnamed (hasF (ofTab.getD ((c.kind).toNat) 0) 2) c.sub)) (Ent.refl _) (fun hc1 => ?_) (fun hc1 => ?_)
    ·
      try simp only [vb0, decide_eq_true_eq, decide_eq_false_iff_not, Bool.not_eq_true, Bool.not_eq_false, Decidable.not_not] at hc1
      refine J.seq ?_
      refine J.reg_ hmix ([plain (Rep.is (.int .i64 (10)))]) (by kernel_rfl) rfl ⟨OpG.none_ rfl (op_assign rfl (Ent.refl _)), trivial⟩ rfl ?_
      refine E.next ?_
      refine J.ret ?_
      refine E.passRb ?_
      refine E.passR ?_
      exact E.ret1 rfl (ent_i (by first | (simp [checkC, allF, *]; done) | (unfold checkC; simp_all [allF]; done) | grind [checkC, allF]))
    ·
      try simp only [vb0, decide_eq_true_eq, decide_eq_false_iff_not, Bool.not_eq_true, Bool.not_eq_false, Decidable.not_not] at hc1
      refine J.cut (ι := Unit) (fun i_ => (upd (upd (upd (upd (upd (upd top 1 (ptr (kCommand.fp (c)))) 2 (Rep.is (.int .i64 (0)))) 3 (ptr ((kI .u64).fp (ofTab.getD ((c.kind).toNat) 0)))) 4 (clo 54 [ptr ((kI .u64).fp (ofTab.getD ((c.kind).toNat) 0))])) 5 (clo 55 [])) 33 (Rep.is (.bool (badArg c))))) (fun i_ => []) (fun i_ => True) ?_ ?_
      ·
        refine J.seq ?_
        refine J.reg_ hmix ([plain (clo 54 [ptr ((kI .u64).fp (ofTab.getD ((c.kind).toNat) 0))]), plain (Rep.is (.bool (hasF (ofTab.getD ((c.kind).toNat) 0) 4))), plain (ptr ((kI .i64).fp (c.exp))), plain (Rep.is (.int .i64 (c.exp))), plain (Rep.is (.bool (oddN (hasF (ofTab.getD ((c.kind).toNat) 0) 4) c.exp (-1) 1000))), plain (Rep.is (.bool (oddN (hasF (ofTab.getD ((c.kind).toNat) 0) 4) c.exp (-1) 1000)))]) (by kernel_rfl) rfl ⟨OpG.none_ rfl (op_move rfl (Ent.refl _)), OpG.none_ rfl (g_callg rfl en54 (Rs := [Rep.is (.int .u64 (4))]) (Cs := [ptr ((kI .u64).fp (ofTab.getD ((c.kind).toNat) 0))]) (has_ct 4 (ofTab.getD ((c.kind).toNat) 0)) (Ent.refl _) ⟨(Ent.refl _), trivial⟩), OpG.none_ rfl (g_field (l := kCommandF (c)) rfl fa31_4 (fun _ _ e => e) rfl rfl (Ent.refl _)), OpG.none_ rfl (g_loadI rfl ld3 (Ent.refl _)), OpG.none_ rfl (g_call rfl en57 (command_odd_ct (hasF (ofTab.getD ((c.kind).toNat) 0) 4) c.exp (-1) 1000) ⟨(Ent.refl _), (Ent.refl _), (Ent.refl _), (Ent.refl _), trivial⟩), OpG.none_ rfl (op_assign rfl (Ent.refl _)), trivial⟩ rfl ?_
        refine E.next ?_
        refine J.cond (B := oddN (hasF (ofTab.getD ((c.kind).toNat) 0) 4) c.exp (-1) 1000) (Ent.refl _) (fun hc2 => ?_) (fun hc2 => ?_)
        ·
          try simp only [vb0, decide_eq_true_eq, decide_eq_false_iff_not, Bool.not_eq_true, Bool.not_eq_false, Decidable.not_not] at hc2
          refine J.skip ?_
          exact E.meet () (by first | rfl | (simp; done)) (by first | trivial | omega | (simp [vs0, vs1, decide_eq_true_eq, decide_eq_false_iff_not, Bool.not_eq_true, Bool.not_eq_false, Decidable.not_not, strOf_size, strOf_chars, ascSet_length, ba_size, *]; done)) (by exact (Sub.upd (Sub.upd (Sub.upd (Sub.upd (Sub.upd (Sub.upd (Sub.top _) 1 (Ent.refl _)) 2 (Ent.refl _)) 3 (Ent.refl _)) 4 (Ent.refl _)) 5 (Ent.refl _)) 33 (ent_b (by first | (simp [badArg, allF, *]; done) | (simp_all [badArg, allF]; done)))))
        ·
          try simp only [vb0, decide_eq_true_eq, decide_eq_false_iff_not, Bool.not_eq_true, Bool.not_eq_false, Decidable.not_not] at hc2
          refine J.seq ?_
          refine J.reg_ hmix ([plain (clo 54 [ptr ((kI .u64).fp (ofTab.getD ((c.kind).toNat) 0))]), plain (Rep.is (.bool (hasF (ofTab.getD ((c.kind).toNat) 0) 16))), plain (ptr ((kI .i64).fp (c.fro))), plain (Rep.is (.int .i64 (c.fro))), plain (Rep.is (.bool (oddN (hasF (ofTab.getD ((c.kind).toNat) 0) 16) c.fro 1 1099511627776))), plain (Rep.is (.bool (oddN (hasF (ofTab.getD ((c.kind).toNat) 0) 16) c.fro 1 1099511627776)))]) (by kernel_rfl) rfl ⟨OpG.none_ rfl (op_move rfl (Ent.refl _)), OpG.none_ rfl (g_callg rfl en54 (Rs := [Rep.is (.int .u64 (16))]) (Cs := [ptr ((kI .u64).fp (ofTab.getD ((c.kind).toNat) 0))]) (has_ct 16 (ofTab.getD ((c.kind).toNat) 0)) (Ent.refl _) ⟨(Ent.refl _), trivial⟩), OpG.none_ rfl (g_field (l := kCommandF (c)) rfl fa31_6 (fun _ _ e => e) rfl rfl (Ent.refl _)), OpG.none_ rfl (g_loadI rfl ld3 (Ent.refl _)), OpG.none_ rfl (g_call rfl en57 (command_odd_ct (hasF (ofTab.getD ((c.kind).toNat) 0) 16) c.fro 1 1099511627776) ⟨(Ent.refl _), (Ent.refl _), (Ent.refl _), (Ent.refl _), trivial⟩), OpG.none_ rfl (op_assign rfl (Ent.refl _)), trivial⟩ rfl ?_
          refine E.next ?_
          refine J.cond (B := oddN (hasF (ofTab.getD ((c.kind).toNat) 0) 16) c.fro 1 1099511627776) (Ent.refl _) (fun hc3 => ?_) (fun hc3 => ?_)
          ·
            try simp only [vb0, decide_eq_true_eq, decide_eq_false_iff_not, Bool.not_eq_true, Bool.not_eq_false, Decidable.not_not] at hc3
            refine J.skip ?_
            exact E.meet () (by first | rfl | (simp; done)) (by first | trivial | omega | (simp [vs0, vs1, decide_eq_true_eq, decide_eq_false_iff_not, Bool.not_eq_true, Bool.not_eq_false, Decidable.not_not, strOf_size, strOf_chars, ascSet_length, ba_size, *]; done)) (by exact (Sub.upd (Sub.upd (Sub.upd (Sub.upd (Sub.upd (Sub.upd (Sub.top _) 1 (Ent.refl _)) 2 (Ent.refl _)) 3 (Ent.refl _)) 4 (Ent.refl _)) 5 (Ent.refl _)) 33 (ent_b (by first | (simp [badArg, allF, *]; done) | (simp_all [badArg, allF]; done)))))
          ·
            try simp only [vb0, decide_eq_true_eq, decide_eq_false_iff_not, Bool.not_eq_true, Bool.not_eq_false, Decidable.not_not] at hc3
            refine J.seq ?_
            refine J.reg_ hmix ([plain (clo 54 [ptr ((kI .u64).fp (ofTab.getD ((c.kind).toNat) 0))]), plain (Rep.is (.bool (hasF (ofTab.getD ((c.kind).toNat) 0) 32))), plain (ptr ((kI .i64).fp (c.cnt))), plain (Rep.is (.int .i64 (c.cnt))), plain (Rep.is (.bool (oddN (hasF (ofTab.getD ((c.kind).toNat) 0) 32) c.cnt 0 64))), plain (Rep.is (.bool (oddN (hasF (ofTab.getD ((c.kind).toNat) 0) 32) c.cnt 0 64)))]) (by kernel_rfl) rfl ⟨OpG.none_ rfl (op_move rfl (Ent.refl _)), OpG.none_ rfl (g_callg rfl en54 (Rs := [Rep.is (.int .u64 (32))]) (Cs := [ptr ((kI .u64).fp (ofTab.getD ((c.kind).toNat) 0))]) (has_ct 32 (ofTab.getD ((c.kind).toNat) 0)) (Ent.refl _) ⟨(Ent.refl _), trivial⟩), OpG.none_ rfl (g_field (l := kCommandF (c)) rfl fa31_7 (fun _ _ e => e) rfl rfl (Ent.refl _)), OpG.none_ rfl (g_loadI rfl ld3 (Ent.refl _)), OpG.none_ rfl (g_call rfl en57 (command_odd_ct (hasF (ofTab.getD ((c.kind).toNat) 0) 32) c.cnt 0 64) ⟨(Ent.refl _), (Ent.refl _), (Ent.refl _), (Ent.refl _), trivial⟩), OpG.none_ rfl (op_assign rfl (Ent.refl _)), trivial⟩ rfl ?_
            refine E.next ?_
            refine J.cond (B := oddN (hasF (ofTab.getD ((c.kind).toNat) 0) 32) c.cnt 0 64) (Ent.refl _) (fun hc4 => ?_) (fun hc4 => ?_)
            ·
              try simp only [vb0, decide_eq_true_eq, decide_eq_false_iff_not, Bool.not_eq_true, Bool.not_eq_false, Decidable.not_not] at hc4
              refine J.skip ?_
              exact E.meet () (by first | rfl | (simp; done)) (by first | trivial | omega | (simp [vs0, vs1, decide_eq_true_eq, decide_eq_false_iff_not, Bool.not_eq_true, Bool.not_eq_false, Decidable.not_not, strOf_size, strOf_chars, ascSet_length, ba_size, *]; done)) (by exact (Sub.upd (Sub.upd (Sub.upd (Sub.upd (Sub.upd (Sub.upd (Sub.top _) 1 (Ent.refl _)) 2 (Ent.refl _)) 3 (Ent.refl _)) 4 (Ent.refl _)) 5 (Ent.refl _)) 33 (ent_b (by first | (simp [badArg, allF, *]; done) | (simp_all [badArg, allF]; done)))))
            ·
              try simp only [vb0, decide_eq_true_eq, decide_eq_false_iff_not, Bool.not_eq_true, Bool.not_eq_false, Decidable.not_not] at hc4
              refine J.seq ?_
              refine J.reg_ hmix ([plain (clo 54 [ptr ((kI .u64).fp (ofTab.getD ((c.kind).toNat) 0))]), plain (Rep.is (.bool (hasF (ofTab.getD ((c.kind).toNat) 0) 128))), plain (ptr ((kI .i64).fp (c.cid))), plain (Rep.is (.int .i64 (c.cid))), plain (Rep.is (.bool (oddN (hasF (ofTab.getD ((c.kind).toNat) 0) 128) c.cid 1 1099511627776))), plain (Rep.is (.bool (oddN (hasF (ofTab.getD ((c.kind).toNat) 0) 128) c.cid 1 1099511627776)))]) (by kernel_rfl) rfl ⟨OpG.none_ rfl (op_move rfl (Ent.refl _)), OpG.none_ rfl (g_callg rfl en54 (Rs := [Rep.is (.int .u64 (128))]) (Cs := [ptr ((kI .u64).fp (ofTab.getD ((c.kind).toNat) 0))]) (has_ct 128 (ofTab.getD ((c.kind).toNat) 0)) (Ent.refl _) ⟨(Ent.refl _), trivial⟩), OpG.none_ rfl (g_field (l := kCommandF (c)) rfl fa31_9 (fun _ _ e => e) rfl rfl (Ent.refl _)), OpG.none_ rfl (g_loadI rfl ld3 (Ent.refl _)), OpG.none_ rfl (g_call rfl en57 (command_odd_ct (hasF (ofTab.getD ((c.kind).toNat) 0) 128) c.cid 1 1099511627776) ⟨(Ent.refl _), (Ent.refl _), (Ent.refl _), (Ent.refl _), trivial⟩), OpG.none_ rfl (op_assign rfl (Ent.refl _)), trivial⟩ rfl ?_
              refine E.next ?_
              refine J.cond (B := oddN (hasF (ofTab.getD ((c.kind).toNat) 0) 128) c.cid 1 1099511627776) (Ent.refl _) (fun hc5 => ?_) (fun hc5 => ?_)
              ·
                try simp only [vb0, decide_eq_true_eq, decide_eq_false_iff_not, Bool.not_eq_true, Bool.not_eq_false, Decidable.not_not] at hc5
                refine J.skip ?_
                exact E.meet () (by first | rfl | (simp; done)) (by first | trivial | omega | (simp [vs0, vs1, decide_eq_true_eq, decide_eq_false_iff_not, Bool.not_eq_true, Bool.not_eq_false, Decidable.not_not, strOf_size, strOf_chars, ascSet_length, ba_size, *]; done)) (by exact (Sub.upd (Sub.upd (Sub.upd (Sub.upd (Sub.upd (Sub.upd (Sub.top _) 1 (Ent.refl _)) 2 (Ent.refl _)) 3 (Ent.refl _)) 4 (Ent.refl _)) 5 (Ent.refl _)) 33 (ent_b (by first | (simp [badArg, allF, *]; done) | (simp_all [badArg, allF]; done)))))
              ·
                try simp only [vb0, decide_eq_true_eq, decide_eq_false_iff_not, Bool.not_eq_true, Bool.not_eq_false, Decidable.not_not] at hc5
                refine J.reg_ hmix ([plain (clo 54 [ptr ((kI .u64).fp (ofTab.getD ((c.kind).toNat) 0))]), plain (Rep.is (.bool (hasF (ofTab.getD ((c.kind).toNat) 0) 8))), plain (Rep.is (.bool (hasF (ofTab.getD ((c.kind).toNat) 0) 8))), plain (Rep.cond (True ∧ (hasF (ofTab.getD ((c.kind).toNat) 0) 8) = true) (ptr ((kSl (kSl kU8)).fp (c.bod)))), plain (Rep.cond (True ∧ (hasF (ofTab.getD ((c.kind).toNat) 0) 8) = true) ((kSl (kSl kU8)).rep (c.bod))), plain (Rep.cond (True ∧ (hasF (ofTab.getD ((c.kind).toNat) 0) 8) = true) (Rep.is (.int .i64 (((c.bod).length : Int))))), plain (Rep.cond (True ∧ (hasF (ofTab.getD ((c.kind).toNat) 0) 8) = true) (Rep.is (.bool (decide (((c.bod).length : Int) = 0))))), plain (Rep.is (.bool ((hasF (ofTab.getD ((c.kind).toNat) 0) 8) && (decide (((c.bod).length : Int) = 0))))), plain (Rep.is (.bool ((hasF (ofTab.getD ((c.kind).toNat) 0) 8) && (decide (((c.bod).length : Int) = 0)))))]) (by kernel_rfl) rfl ⟨OpG.none_ rfl (op_move rfl (Ent.refl _)), OpG.none_ rfl (g_callg rfl en54 (Rs := [Rep.is (.int .u64 (8))]) (Cs := [ptr ((kI .u64).fp (ofTab.getD ((c.kind).toNat) 0))]) (has_ct 8 (ofTab.getD ((c.kind).toNat) 0)) (Ent.refl _) ⟨(Ent.refl _), trivial⟩), OpG.none_ rfl (op_move rfl (Ent.refl _)), OpG.one_ rfl rfl rfl (fun hg => (g_field (l := kCommandF (c)) rfl fa31_5 (fun _ _ e => e) rfl rfl (Ent.refl _))), OpG.one_ rfl rfl rfl (fun hg => (g_load rfl ld27 (Ent.cond (q := True ∧ (hasF (ofTab.getD ((c.kind).toNat) 0) 8) = true) (R := ptr ((kSl (kSl kU8)).fp (c.bod))) ⟨trivial, hg⟩ (Ent.refl _)))), OpG.one_ rfl rfl rfl (fun hg => (g_len rfl sl27 (Ent.cond (q := True ∧ (hasF (ofTab.getD ((c.kind).toNat) 0) 8) = true) (R := (kSl (kSl kU8)).rep (c.bod)) ⟨trivial, hg⟩ (Ent.refl _)))), OpG.one_ rfl rfl rfl (fun hg => (op_eql rfl (Ent.cond (q := True ∧ (hasF (ofTab.getD ((c.kind).toNat) 0) 8) = true) (R := Rep.is (.int .i64 (((c.bod).length : Int)))) ⟨trivial, hg⟩ (Ent.refl _)) (Ent.refl _))), OpG.none_ rfl (op_and rfl (Ent.refl _) (fun hz => Ent.cond (q := True ∧ (hasF (ofTab.getD ((c.kind).toNat) 0) 8) = true) (R := Rep.is (.bool (decide (((c.bod).length : Int) = 0)))) ⟨trivial, hz⟩ (Ent.refl _)) rfl), OpG.none_ rfl (op_assign rfl (Ent.refl _)), trivial⟩ rfl ?_
                exact E.meet () (by first | rfl | (simp; done)) (by first | trivial | omega | (simp [vs0, vs1, decide_eq_true_eq, decide_eq_false_iff_not, Bool.not_eq_true, Bool.not_eq_false, Decidable.not_not, strOf_size, strOf_chars, ascSet_length, ba_size, *]; done)) (by exact (Sub.upd (Sub.upd (Sub.upd (Sub.upd (Sub.upd (Sub.upd (Sub.top _) 1 (Ent.refl _)) 2 (Ent.refl _)) 3 (Ent.refl _)) 4 (Ent.refl _)) 5 (Ent.refl _)) 33 (ent_b (by first | (simp [badArg, allF, *]; done) | (simp_all [badArg, allF]; done)))))
      ·
        rintro _ hj0
        refine J.cond (B := badArg c) (Ent.refl _) (fun hc6 => ?_) (fun hc6 => ?_)
        ·
          try simp only [vb0, decide_eq_true_eq, decide_eq_false_iff_not, Bool.not_eq_true, Bool.not_eq_false, Decidable.not_not] at hc6
          refine J.seq ?_
          refine J.reg_ hmix ([plain (Rep.is (.int .i64 (1)))]) (by kernel_rfl) rfl ⟨OpG.none_ rfl (op_assign rfl (Ent.refl _)), trivial⟩ rfl ?_
          refine E.next ?_
          refine J.ret ?_
          refine E.passRb ?_
          refine E.passR ?_
          exact E.ret1 rfl (ent_i (by first | (simp [checkC, allF, *]; done) | (unfold checkC; simp_all [allF]; done) | grind [checkC, allF]))
        ·
          try simp only [vb0, decide_eq_true_eq, decide_eq_false_iff_not, Bool.not_eq_true, Bool.not_eq_false, Decidable.not_not] at hc6
          refine J.seq ?_
          refine J.reg_ hmix ([plain (ptr ((kSl (kSl kU8)).fp (c.bod))), plain ((kSl (kSl kU8)).rep (c.bod)), plain (Rep.is (.int .i64 (((c.bod).length : Int)))), plain (Rep.is (.bool (decide (4 < ((c.bod).length : Int))))), plain (Rep.is (.bool (decide (4 < ((c.bod).length : Int))))), plain (Rep.cond (True ∧ (decide (4 < ((c.bod).length : Int))) = false) (ptr (kToken.fp (c.tok)))), plain (Rep.cond (True ∧ (decide (4 < ((c.bod).length : Int))) = false) (ptr ((kSl kGrant).fp (c.tok.grs)))), plain (Rep.cond (True ∧ (decide (4 < ((c.bod).length : Int))) = false) ((kSl kGrant).rep (c.tok.grs))), plain (Rep.cond (True ∧ (decide (4 < ((c.bod).length : Int))) = false) (Rep.is (.int .i64 (((c.tok.grs).length : Int))))), plain (Rep.cond (True ∧ (decide (4 < ((c.bod).length : Int))) = false) (Rep.is (.bool (decide (6 < ((c.tok.grs).length : Int)))))), plain (Rep.is (.bool ((decide (4 < ((c.bod).length : Int))) || (decide (6 < ((c.tok.grs).length : Int)))))), plain (Rep.is (.bool ((decide (4 < ((c.bod).length : Int))) || (decide (6 < ((c.tok.grs).length : Int))))))]) (by kernel_rfl) rfl ⟨OpG.none_ rfl (g_field (l := kCommandF (c)) rfl fa31_5 (fun _ _ e => e) rfl rfl (Ent.refl _)), OpG.none_ rfl (g_load rfl ld27 (Ent.refl _)), OpG.none_ rfl (g_len rfl sl27 (Ent.refl _)), OpG.none_ rfl (op_gtr rfl (Ent.refl _) (Ent.refl _)), OpG.none_ rfl (op_move rfl (Ent.refl _)), OpG.one_ rfl rfl rfl (fun hg => (g_field (l := kCommandF (c)) rfl fa31_1 (fun _ _ e => e) rfl rfl (Ent.refl _))), OpG.one_ rfl rfl rfl (fun hg => (g_field (l := kTokenF (c.tok)) rfl fa26_2 (fun _ _ e => e) rfl rfl (Ent.cond (q := True ∧ (decide (4 < ((c.bod).length : Int))) = false) (R := ptr (kToken.fp (c.tok))) ⟨trivial, hg⟩ (Ent.refl _)))), OpG.one_ rfl rfl rfl (fun hg => (g_load rfl ld22 (Ent.cond (q := True ∧ (decide (4 < ((c.bod).length : Int))) = false) (R := ptr ((kSl kGrant).fp (c.tok.grs))) ⟨trivial, hg⟩ (Ent.refl _)))), OpG.one_ rfl rfl rfl (fun hg => (g_len rfl sl22 (Ent.cond (q := True ∧ (decide (4 < ((c.bod).length : Int))) = false) (R := (kSl kGrant).rep (c.tok.grs)) ⟨trivial, hg⟩ (Ent.refl _)))), OpG.one_ rfl rfl rfl (fun hg => (op_gtr rfl (Ent.cond (q := True ∧ (decide (4 < ((c.bod).length : Int))) = false) (R := Rep.is (.int .i64 (((c.tok.grs).length : Int)))) ⟨trivial, hg⟩ (Ent.refl _)) (Ent.refl _))), OpG.none_ rfl (op_or rfl (Ent.refl _) rfl (fun hz => Ent.cond (q := True ∧ (decide (4 < ((c.bod).length : Int))) = false) (R := Rep.is (.bool (decide (6 < ((c.tok.grs).length : Int))))) ⟨trivial, hz⟩ (Ent.refl _))), OpG.none_ rfl (op_assign rfl (Ent.refl _)), trivial⟩ rfl ?_
          refine E.len (s := 64) (k := (kSl kU8)) (xs := c.bod) (Ent.refl _) (fun hlen2 => ?_)
          refine E.next ?_
          refine J.cond (B := (decide (4 < ((c.bod).length : Int))) || (decide (6 < ((c.tok.grs).length : Int)))) (Ent.refl _) (fun hc7 => ?_) (fun hc7 => ?_)
          ·
            try simp only [vb0, decide_eq_true_eq, decide_eq_false_iff_not, Bool.not_eq_true, Bool.not_eq_false, Decidable.not_not] at hc7
            refine J.seq ?_
            refine J.reg_ hmix ([plain (Rep.is (.int .i64 (3)))]) (by kernel_rfl) rfl ⟨OpG.none_ rfl (op_assign rfl (Ent.refl _)), trivial⟩ rfl ?_
            refine E.next ?_
            refine J.ret ?_
            refine E.passRb ?_
            refine E.passR ?_
            exact E.ret1 rfl (ent_i (by first | (simp [checkC, allF, *]; done) | (unfold checkC; simp_all [allF]; done) | grind [checkC, allF]))
          ·
            try simp only [vb0, decide_eq_true_eq, decide_eq_false_iff_not, Bool.not_eq_true, Bool.not_eq_false, Decidable.not_not] at hc7
            refine J.seq ?_
            refine J.reg_ hmix ([plain (ptr ((kSl (kSl kU8)).fp (c.bod))), plain ((kSl (kSl kU8)).rep (c.bod)), plain (clo 55 []), plain (Rep.is (.bool (c.bod.any great))), plain (Rep.is (.bool (c.bod.any great))), plain (Rep.cond (True ∧ (c.bod.any great) = false) (ptr (kToken.fp (c.tok)))), plain (Rep.cond (True ∧ (c.bod.any great) = false) (kToken.rep (c.tok))), plain (Rep.cond (True ∧ (c.bod.any great) = false) (Rep.is (.bool (longT c.tok)))), plain (Rep.is (.bool ((c.bod.any great) || (longT c.tok)))), plain (Rep.is (.bool ((c.bod.any great) || (longT c.tok))))]) (by kernel_rfl) rfl ⟨OpG.none_ rfl (g_field (l := kCommandF (c)) rfl fa31_5 (fun _ _ e => e) rfl rfl (Ent.refl _)), OpG.none_ rfl (g_load rfl ld27 (Ent.refl _)), OpG.none_ rfl (op_move rfl (Ent.refl _)), OpG.none_ rfl (g_call rfl en58 (con_b_ct c.bod) ⟨(Ent.refl _), (Ent.refl _), trivial⟩), OpG.none_ rfl (op_move rfl (Ent.refl _)), OpG.one_ rfl rfl rfl (fun hg => (g_field (l := kCommandF (c)) rfl fa31_1 (fun _ _ e => e) rfl rfl (Ent.refl _))), OpG.one_ rfl rfl rfl (fun hg => (g_load rfl ld26 (Ent.cond (q := True ∧ (c.bod.any great) = false) (R := ptr (kToken.fp (c.tok))) ⟨trivial, hg⟩ (Ent.refl _)))), OpG.one_ rfl rfl rfl (fun hg => (g_call rfl en59 (longt_ct c.tok) ⟨(Ent.cond (q := True ∧ (c.bod.any great) = false) (R := kToken.rep (c.tok)) ⟨trivial, hg⟩ (Ent.refl _)), trivial⟩)), OpG.none_ rfl (op_or rfl (Ent.refl _) rfl (fun hz => Ent.cond (q := True ∧ (c.bod.any great) = false) (R := Rep.is (.bool (longT c.tok))) ⟨trivial, hz⟩ (Ent.refl _))), OpG.none_ rfl (op_assign rfl (Ent.refl _)), trivial⟩ rfl ?_
            refine E.next ?_
            refine J.cond (B := (c.bod.any great) || (longT c.tok)) (Ent.refl _) (fun hc8 => ?_) (fun hc8 => ?_)
            ·
              try simp only [vb0, decide_eq_true_eq, decide_eq_false_iff_not, Bool.not_eq_true, Bool.not_eq_false, Decidable.not_not] at hc8
              refine J.seq ?_
              refine J.reg_ hmix ([plain (Rep.is (.int .i64 (5)))]) (by kernel_rfl) rfl ⟨OpG.none_ rfl (op_assign rfl (Ent.refl _)), trivial⟩ rfl ?_
              refine E.next ?_
              refine J.ret ?_
              refine E.passRb ?_
              refine E.passR ?_
              exact E.ret1 rfl (ent_i (by first | (simp [checkC, allF, *]; done) | (unfold checkC; simp_all [allF]; done) | grind [checkC, allF]))
            ·
              try simp only [vb0, decide_eq_true_eq, decide_eq_false_iff_not, Bool.not_eq_true, Bool.not_eq_false, Decidable.not_not] at hc8
              refine J.skip ?_
              refine E.blockEnd ?_
              refine E.next ?_
              refine J.cut (ι := Unit) (fun i_ => (upd (upd top 1 (ptr (kCommand.fp (c)))) 3 (ptr ((kI .u64).fp (ofTab.getD ((c.kind).toNat) 0))))) (fun i_ => []) (fun i_ => ¬ (hasF (allF c) 64 = true ∧ ¬ grantOk c.gra = 0)) ?_ ?_
              ·
                refine J.seq ?_
                refine J.reg_ hmix ([plain (clo 54 [ptr ((kI .u64).fp (ofTab.getD ((c.kind).toNat) 0))]), plain (Rep.is (.bool (hasF (ofTab.getD ((c.kind).toNat) 0) 64)))]) (by kernel_rfl) rfl ⟨OpG.none_ rfl (op_move rfl (Ent.refl _)), OpG.none_ rfl (g_callg rfl en54 (Rs := [Rep.is (.int .u64 (64))]) (Cs := [ptr ((kI .u64).fp (ofTab.getD ((c.kind).toNat) 0))]) (has_ct 64 (ofTab.getD ((c.kind).toNat) 0)) (Ent.refl _) ⟨(Ent.refl _), trivial⟩), trivial⟩ rfl ?_
                refine E.next ?_
                refine J.cond (B := hasF (ofTab.getD ((c.kind).toNat) 0) 64) (Ent.refl _) (fun hc9 => ?_) (fun hc9 => ?_)
                ·
                  try simp only [vb0, decide_eq_true_eq, decide_eq_false_iff_not, Bool.not_eq_true, Bool.not_eq_false, Decidable.not_not] at hc9
                  refine J.seq ?_
                  refine J.reg_ hmix ([plain (ptr (kGrant.fp (c.gra))), plain (kGrant.rep (c.gra)), plain (Rep.is (.int .i64 (grantOk c.gra))), plain (Rep.is (.int .i64 (grantOk c.gra)))]) (by kernel_rfl) rfl ⟨OpG.none_ rfl (g_field (l := kCommandF (c)) rfl fa31_8 (fun _ _ e => e) rfl rfl (Ent.refl _)), OpG.none_ rfl (g_load rfl ld29 (Ent.refl _)), OpG.none_ rfl (g_call rfl en60 (rcheck_ct c.gra) ⟨(Ent.refl _), trivial⟩), OpG.none_ rfl (op_assign rfl (Ent.refl _)), trivial⟩ rfl ?_
                  refine E.next ?_
                  refine J.seq ?_
                  refine J.reg_ hmix ([plain (Rep.is (.int .i64 (grantOk c.gra))), plain (Rep.is (.bool (decide (¬ (grantOk c.gra) = 0))))]) (by kernel_rfl) rfl ⟨OpG.none_ rfl (op_move rfl (Ent.refl _)), OpG.none_ rfl (op_neq rfl (Ent.refl _) (Ent.refl _)), trivial⟩ rfl ?_
                  refine E.next ?_
                  refine J.cond (B := decide (¬ (grantOk c.gra) = 0)) (Ent.refl _) (fun hc10 => ?_) (fun hc10 => ?_)
                  ·
                    try simp only [vb0, decide_eq_true_eq, decide_eq_false_iff_not, Bool.not_eq_true, Bool.not_eq_false, Decidable.not_not] at hc10
                    refine J.seq ?_
                    refine J.reg_ hmix ([plain (Rep.is (.int .i64 (grantOk c.gra))), plain (Rep.is (.int .i64 (grantOk c.gra)))]) (by kernel_rfl) rfl ⟨OpG.none_ rfl (op_move rfl (Ent.refl _)), OpG.none_ rfl (op_assign rfl (Ent.refl _)), trivial⟩ rfl ?_
                    refine E.next ?_
                    refine J.ret ?_
                    refine E.passR ?_
                    exact E.ret1 rfl (ent_i (by first | (simp [checkC, allF, *]; done) | (unfold checkC; simp_all [allF]; done) | grind [checkC, allF]))
                  ·
                    try simp only [vb0, decide_eq_true_eq, decide_eq_false_iff_not, Bool.not_eq_true, Bool.not_eq_false, Decidable.not_not] at hc10
                    refine J.skip ?_
                    exact E.meet () (by first | rfl | (simp; done)) (by first | (simp [allF, *]; done) | (simp_all [allF]; done)) (by exact (Sub.upd (Sub.upd (Sub.top _) 1 (Ent.refl _)) 3 (Ent.refl _)))
                ·
                  try simp only [vb0, decide_eq_true_eq, decide_eq_false_iff_not, Bool.not_eq_true, Bool.not_eq_false, Decidable.not_not] at hc9
                  refine J.skip ?_
                  exact E.meet () (by first | rfl | (simp; done)) (by first | (simp [allF, *]; done) | (simp_all [allF]; done)) (by exact (Sub.upd (Sub.upd (Sub.top _) 1 (Ent.refl _)) 3 (Ent.refl _)))
              ·
                rintro _ hj1
                refine J.seq ?_
                refine J.seq ?_
                refine J.reg_ hmix ([plain (kCommand.rep (c)), plain (Rep.is (.int .u64 (givenF c))), plain (Rep.is (.int .u64 (ofTab.getD ((c.kind).toNat) 0))), plain (Rep.is (.int .u64 (bits .andNot .u64 (givenF c) (ofTab.getD ((c.kind).toNat) 0)))), plain (Rep.is (.bool (decide (¬ (bits .andNot .u64 (givenF c) (ofTab.getD ((c.kind).toNat) 0)) = 0))))]) (by kernel_rfl) rfl ⟨OpG.none_ rfl (g_load rfl ld31 (Ent.refl _)), OpG.none_ rfl (g_call rfl en61 (command_given_ct c) ⟨(Ent.refl _), trivial⟩), OpG.none_ rfl (g_loadI rfl ld85 (Ent.refl _)), OpG.none_ rfl (op_andNot_bits rfl (Ent.refl _) (Ent.refl _)), OpG.none_ rfl (op_neq rfl (Ent.refl _) (Ent.refl _)), trivial⟩ rfl ?_
                refine E.next ?_
                refine J.cond (B := decide (¬ (bits .andNot .u64 (givenF c) (ofTab.getD ((c.kind).toNat) 0)) = 0)) (Ent.refl _) (fun hc11 => ?_) (fun hc11 => ?_)
                ·
                  try simp only [vb0, decide_eq_true_eq, decide_eq_false_iff_not, Bool.not_eq_true, Bool.not_eq_false, Decidable.not_not] at hc11
                  refine J.seq ?_
                  refine J.reg_ hmix ([plain (Rep.is (.int .i64 (11)))]) (by kernel_rfl) rfl ⟨OpG.none_ rfl (op_assign rfl (Ent.refl _)), trivial⟩ rfl ?_
                  refine E.next ?_
                  refine J.ret ?_
                  refine E.passR ?_
                  exact E.ret1 rfl (ent_i (by first | (simp [checkC, allF, *]; done) | (unfold checkC; simp_all [allF]; done) | grind [checkC, allF]))
                ·
                  try simp only [vb0, decide_eq_true_eq, decide_eq_false_iff_not, Bool.not_eq_true, Bool.not_eq_false, Decidable.not_not] at hc11
                  refine J.skip ?_
                  refine E.next ?_
                  refine J.seq ?_
                  refine J.reg_ hmix ([plain (Rep.is (.int .i64 (0)))]) (by kernel_rfl) rfl ⟨OpG.none_ rfl (op_assign rfl (Ent.refl _)), trivial⟩ rfl ?_
                  refine E.next ?_
                  refine J.ret ?_
                  exact E.ret1 rfl (ent_i (by first | (simp [checkC, allF, *]; done) | (unfold checkC; simp_all [allF]; done) | grind [checkC, allF]))
-- sealery/command.CheckAnswer
theorem checka_ct (a : Answer) : Ct Tryz.prog 23 [kAnswer.rep (a)] (Rep.is (.int .i64 (checkA a))) := by
  refine CtG.of Tryz.func23 rfl rfl (Nat.le_of_ble_eq_true rfl) (fun w0 h0 hp => ?_)
  refine J.seq ?_
  refine J.reg_ hmix ([plain (ptr (kAnswer.fp (a))), plain (Rep.is (.int .i64 (0)))]) (by kernel_rfl) rfl ⟨OpG.none_ rfl (op_box (f := kAnswer.fp (a)) rfl (Ent.refl _)), OpG.none_ rfl (op_assign rfl (Ent.refl _)), trivial⟩ rfl ?_
  refine E.next ?_
  refine J.seq ?_
  refine J.seq ?_
  refine J.reg_ hmix ([plain (ptr ((kSl kShown).fp (a.shown))), plain ((kSl kShown).rep (a.shown)), plain (Rep.is (.int .i64 (((a.shown).length : Int)))), plain (Rep.is (.bool (decide (64 < ((a.shown).length : Int))))), plain (Rep.is (.bool (decide (64 < ((a.shown).length : Int))))), plain (Rep.cond (True ∧ (decide (64 < ((a.shown).length : Int))) = false) (ptr ((kSl kEntry).fp (a.ents)))), plain (Rep.cond (True ∧ (decide (64 < ((a.shown).length : Int))) = false) ((kSl kEntry).rep (a.ents))), plain (Rep.cond (True ∧ (decide (64 < ((a.shown).length : Int))) = false) (Rep.is (.int .i64 (((a.ents).length : Int))))), plain (Rep.cond (True ∧ (decide (64 < ((a.shown).length : Int))) = false) (Rep.is (.bool (decide (64 < ((a.ents).length : Int)))))), plain (Rep.is (.bool ((decide (64 < ((a.shown).length : Int))) || (decide (64 < ((a.ents).length : Int)))))), plain (Rep.is (.bool ((decide (64 < ((a.shown).length : Int))) || (decide (64 < ((a.ents).length : Int)))))), plain (Rep.cond (True ∧ ((decide (64 < ((a.shown).length : Int))) || (decide (64 < ((a.ents).length : Int)))) = false) (ptr (kToken.fp (a.tok)))), plain (Rep.cond (True ∧ ((decide (64 < ((a.shown).length : Int))) || (decide (64 < ((a.ents).length : Int)))) = false) (ptr ((kSl kGrant).fp (a.tok.grs)))), plain (Rep.cond (True ∧ ((decide (64 < ((a.shown).length : Int))) || (decide (64 < ((a.ents).length : Int)))) = false) ((kSl kGrant).rep (a.tok.grs))), plain (Rep.cond (True ∧ ((decide (64 < ((a.shown).length : Int))) || (decide (64 < ((a.ents).length : Int)))) = false) (Rep.is (.int .i64 (((a.tok.grs).length : Int))))), plain (Rep.cond (True ∧ ((decide (64 < ((a.shown).length : Int))) || (decide (64 < ((a.ents).length : Int)))) = false) (Rep.is (.bool (decide (6 < ((a.tok.grs).length : Int)))))), plain (Rep.is (.bool (((decide (64 < ((a.shown).length : Int))) || (decide (64 < ((a.ents).length : Int)))) || (decide (6 < ((a.tok.grs).length : Int))))))]) (by kernel_rfl) rfl ⟨OpG.none_ rfl (g_field (l := kAnswerF (a)) rfl fa46_2 (fun _ _ e => e) rfl rfl (Ent.refl _)), OpG.none_ rfl (g_load rfl ld43 (Ent.refl _)), OpG.none_ rfl (g_len rfl sl43 (Ent.refl _)), OpG.none_ rfl (op_gtr rfl (Ent.refl _) (Ent.refl _)), OpG.none_ rfl (op_move rfl (Ent.refl _)), OpG.one_ rfl rfl rfl (fun hg => (g_field (l := kAnswerF (a)) rfl fa46_4 (fun _ _ e => e) rfl rfl (Ent.refl _))), OpG.one_ rfl rfl rfl (fun hg => (g_load rfl ld44 (Ent.cond (q := True ∧ (decide (64 < ((a.shown).length : Int))) = false) (R := ptr ((kSl kEntry).fp (a.ents))) ⟨trivial, hg⟩ (Ent.refl _)))), OpG.one_ rfl rfl rfl (fun hg => (g_len rfl sl44 (Ent.cond (q := True ∧ (decide (64 < ((a.shown).length : Int))) = false) (R := (kSl kEntry).rep (a.ents)) ⟨trivial, hg⟩ (Ent.refl _)))), OpG.one_ rfl rfl rfl (fun hg => (op_gtr rfl (Ent.cond (q := True ∧ (decide (64 < ((a.shown).length : Int))) = false) (R := Rep.is (.int .i64 (((a.ents).length : Int)))) ⟨trivial, hg⟩ (Ent.refl _)) (Ent.refl _))), OpG.none_ rfl (op_or rfl (Ent.refl _) rfl (fun hz => Ent.cond (q := True ∧ (decide (64 < ((a.shown).length : Int))) = false) (R := Rep.is (.bool (decide (64 < ((a.ents).length : Int))))) ⟨trivial, hz⟩ (Ent.refl _))), OpG.none_ rfl (op_move rfl (Ent.refl _)), OpG.one_ rfl rfl rfl (fun hg => (g_field (l := kAnswerF (a)) rfl fa46_3 (fun _ _ e => e) rfl rfl (Ent.refl _))), OpG.one_ rfl rfl rfl (fun hg => (g_field (l := kTokenF (a.tok)) rfl fa26_2 (fun _ _ e => e) rfl rfl (Ent.cond (q := True ∧ ((decide (64 < ((a.shown).length : Int))) || (decide (64 < ((a.ents).length : Int)))) = false) (R := ptr (kToken.fp (a.tok))) ⟨trivial, hg⟩ (Ent.refl _)))), OpG.one_ rfl rfl rfl (fun hg => (g_load rfl ld22 (Ent.cond (q := True ∧ ((decide (64 < ((a.shown).length : Int))) || (decide (64 < ((a.ents).length : Int)))) = false) (R := ptr ((kSl kGrant).fp (a.tok.grs))) ⟨trivial, hg⟩ (Ent.refl _)))), OpG.one_ rfl rfl rfl (fun hg => (g_len rfl sl22 (Ent.cond (q := True ∧ ((decide (64 < ((a.shown).length : Int))) || (decide (64 < ((a.ents).length : Int)))) = false) (R := (kSl kGrant).rep (a.tok.grs)) ⟨trivial, hg⟩ (Ent.refl _)))), OpG.one_ rfl rfl rfl (fun hg => (op_gtr rfl (Ent.cond (q := True ∧ ((decide (64 < ((a.shown).length : Int))) || (decide (64 < ((a.ents).length : Int)))) = false) (R := Rep.is (.int .i64 (((a.tok.grs).length : Int)))) ⟨trivial, hg⟩ (Ent.refl _)) (Ent.refl _))), OpG.none_ rfl (op_or rfl (Ent.refl _) rfl (fun hz => Ent.cond (q := True ∧ ((decide (64 < ((a.shown).length : Int))) || (decide (64 < ((a.ents).length : Int)))) = false) (R := Rep.is (.bool (decide (6 < ((a.tok.grs).length : Int))))) ⟨trivial, hz⟩ (Ent.refl _))), trivial⟩ rfl ?_
  refine E.len (s := 6) (k := kShown) (xs := a.shown) (Ent.refl _) (fun hlen1 => ?_)
  refine E.next ?_
  refine J.cond (B := ((decide (64 < ((a.shown).length : Int))) || (decide (64 < ((a.ents).length : Int)))) || (decide (6 < ((a.tok.grs).length : Int)))) (Ent.refl _) (fun hc0 => ?_) (fun hc0 => ?_)
  ·
    try simp only [vb0, decide_eq_true_eq, decide_eq_false_iff_not, Bool.not_eq_true, Bool.not_eq_false, Decidable.not_not] at hc0
    refine J.seq ?_
    refine J.reg_ hmix ([plain (Rep.is (.int .i64 (3)))]) (by kernel_rfl) rfl ⟨OpG.none_ rfl (op_assign rfl (Ent.refl _)), trivial⟩ rfl ?_
    refine E.next ?_
    refine J.ret ?_
    refine E.passR ?_
    exact E.ret1 rfl (ent_i (by first | (simp [checkA, *]; done) | (unfold checkA; simp_all; done) | grind [checkA]))
  ·
    try simp only [vb0, decide_eq_true_eq, decide_eq_false_iff_not, Bool.not_eq_true, Bool.not_eq_false, Decidable.not_not] at hc0
    refine J.skip ?_
    refine E.next ?_
    refine J.seq ?_
    refine J.reg_ hmix ([plain (clo 79 [])]) (by kernel_rfl) rfl ⟨OpG.none_ rfl (op_assign rfl (clo_of 79)), trivial⟩ rfl ?_
    refine E.next ?_
    refine J.seq ?_
    refine J.reg_ hmix ([plain (clo 81 [])]) (by kernel_rfl) rfl ⟨OpG.none_ rfl (op_assign rfl (clo_of 81)), trivial⟩ rfl ?_
    refine E.next ?_
    refine J.seq ?_
    refine J.seq ?_
    refine J.reg_ hmix ([plain (ptr (kToken.fp (a.tok))), plain (kToken.rep (a.tok)), plain (Rep.is (.bool (longT a.tok))), plain (Rep.is (.bool (longT a.tok))), plain (Rep.cond (True ∧ (longT a.tok) = false) (ptr ((kSl kShown).fp (a.shown)))), plain (Rep.cond (True ∧ (longT a.tok) = false) ((kSl kShown).rep (a.shown))), plain (Rep.cond (True ∧ (longT a.tok) = false) (clo 79 [])), plain (Rep.cond (True ∧ (longT a.tok) = false) (Rep.is (.bool (a.shown.any longShown)))), plain (Rep.is (.bool ((longT a.tok) || (a.shown.any longShown)))), plain (Rep.is (.bool ((longT a.tok) || (a.shown.any longShown)))), plain (Rep.cond (True ∧ ((longT a.tok) || (a.shown.any longShown)) = false) (ptr ((kSl kEntry).fp (a.ents)))), plain (Rep.cond (True ∧ ((longT a.tok) || (a.shown.any longShown)) = false) ((kSl kEntry).rep (a.ents))), plain (Rep.cond (True ∧ ((longT a.tok) || (a.shown.any longShown)) = false) (clo 81 [])), plain (Rep.cond (True ∧ ((longT a.tok) || (a.shown.any longShown)) = false) (Rep.is (.bool (a.ents.any longEntry)))), plain (Rep.is (.bool (((longT a.tok) || (a.shown.any longShown)) || (a.ents.any longEntry))))]) (by kernel_rfl) rfl ⟨OpG.none_ rfl (g_field (l := kAnswerF (a)) rfl fa46_3 (fun _ _ e => e) rfl rfl (Ent.refl _)), OpG.none_ rfl (g_load rfl ld26 (Ent.refl _)), OpG.none_ rfl (g_call rfl en59 (longt_ct a.tok) ⟨(Ent.refl _), trivial⟩), OpG.none_ rfl (op_move rfl (Ent.refl _)), OpG.one_ rfl rfl rfl (fun hg => (g_field (l := kAnswerF (a)) rfl fa46_2 (fun _ _ e => e) rfl rfl (Ent.refl _))), OpG.one_ rfl rfl rfl (fun hg => (g_load rfl ld43 (Ent.cond (q := True ∧ (longT a.tok) = false) (R := ptr ((kSl kShown).fp (a.shown))) ⟨trivial, hg⟩ (Ent.refl _)))), OpG.one_ rfl rfl rfl (fun hg => (op_move rfl (Ent.refl _))), OpG.one_ rfl rfl rfl (fun hg => (g_call rfl en82 (con_s_ct a.shown) ⟨(Ent.cond (q := True ∧ (longT a.tok) = false) (R := (kSl kShown).rep (a.shown)) ⟨trivial, hg⟩ (Ent.refl _)), (Ent.cond (q := True ∧ (longT a.tok) = false) (R := clo 79 []) ⟨trivial, hg⟩ (Ent.refl _)), trivial⟩)), OpG.none_ rfl (op_or rfl (Ent.refl _) rfl (fun hz => Ent.cond (q := True ∧ (longT a.tok) = false) (R := Rep.is (.bool (a.shown.any longShown))) ⟨trivial, hz⟩ (Ent.refl _))), OpG.none_ rfl (op_move rfl (Ent.refl _)), OpG.one_ rfl rfl rfl (fun hg => (g_field (l := kAnswerF (a)) rfl fa46_4 (fun _ _ e => e) rfl rfl (Ent.refl _))), OpG.one_ rfl rfl rfl (fun hg => (g_load rfl ld44 (Ent.cond (q := True ∧ ((longT a.tok) || (a.shown.any longShown)) = false) (R := ptr ((kSl kEntry).fp (a.ents))) ⟨trivial, hg⟩ (Ent.refl _)))), OpG.one_ rfl rfl rfl (fun hg => (op_move rfl (Ent.refl _))), OpG.one_ rfl rfl rfl (fun hg => (g_call rfl en83 (con_e_ct a.ents) ⟨(Ent.cond (q := True ∧ ((longT a.tok) || (a.shown.any longShown)) = false) (R := (kSl kEntry).rep (a.ents)) ⟨trivial, hg⟩ (Ent.refl _)), (Ent.cond (q := True ∧ ((longT a.tok) || (a.shown.any longShown)) = false) (R := clo 81 []) ⟨trivial, hg⟩ (Ent.refl _)), trivial⟩)), OpG.none_ rfl (op_or rfl (Ent.refl _) rfl (fun hz => Ent.cond (q := True ∧ ((longT a.tok) || (a.shown.any longShown)) = false) (R := Rep.is (.bool (a.ents.any longEntry))) ⟨trivial, hz⟩ (Ent.refl _))), trivial⟩ rfl ?_
    refine E.next ?_
    refine J.cond (B := ((longT a.tok) || (a.shown.any longShown)) || (a.ents.any longEntry)) (Ent.refl _) (fun hc1 => ?_) (fun hc1 => ?_)
    ·
      try simp only [vb0, decide_eq_true_eq, decide_eq_false_iff_not, Bool.not_eq_true, Bool.not_eq_false, Decidable.not_not] at hc1
      refine J.seq ?_
      refine J.reg_ hmix ([plain (Rep.is (.int .i64 (5)))]) (by kernel_rfl) rfl ⟨OpG.none_ rfl (op_assign rfl (Ent.refl _)), trivial⟩ rfl ?_
      refine E.next ?_
      refine J.ret ?_
      refine E.passR ?_
      exact E.ret1 rfl (ent_i (by first | (simp [checkA, *]; done) | (unfold checkA; simp_all; done) | grind [checkA]))
    ·
      try simp only [vb0, decide_eq_true_eq, decide_eq_false_iff_not, Bool.not_eq_true, Bool.not_eq_false, Decidable.not_not] at hc1
      refine J.skip ?_
      refine E.next ?_
      refine J.seq ?_
      refine J.reg_ hmix ([plain (Rep.is (.int .i64 (0)))]) (by kernel_rfl) rfl ⟨OpG.none_ rfl (op_assign rfl (Ent.refl _)), trivial⟩ rfl ?_
      refine E.next ?_
      refine J.ret ?_
      exact E.ret1 rfl (ent_i (by first | (simp [checkA, *]; done) | (unfold checkA; simp_all; done) | grind [checkA]))
end Go.Proofs.YtdioiepkbolnlaaGreatDoor
