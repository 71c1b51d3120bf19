/- For every input the law CommandCut returns true, and leaves its arguments as they were. Conditions: the cells of its row (the listed variables as the program text lays them). -/
import Derived.Test.YtdioiepkbolnlaaGreatDoorL3
import Derived.Test.YtdioiepkbolnlaaGreatDoorOpn
import Derived.Test.YtdioiepkbolnlaaGreatDoorCards
import Derived.Test.YtdioiepkbolnlaaGreatDoorTie
import Derived.ProofKit
import Derived.OpenShut
import Derived.LaidMore
import Derived.Lay
import Derived.SevenTiedAt
import Derived.Stop.Joined
import Derived.ChangeOld
import Derived.Carry
import Derived.SizedLaws
import Derived.MakeChecks
set_option linter.unusedVariables false
namespace Go.Proofs.YtdioiepkbolnlaaGreatDoor
open Go.ChangeShapes Go.WideShapes Go.ChangeAt Go.RowKit
theorem open3 {H : Type} {enc : TypeId × Value → H} {W : World} : Opens enc Tryz.prog W (kI .i64) 3 In64 := opens_i64 (by kernel_rfl)
theorem open9 {H : Type} {enc : TypeId × Value → H} {W : World} : Opens enc Tryz.prog W kS 9 (fun s => s.size ≤ 140737488351232) := opens_str (by kernel_rfl)
theorem open4 {H : Type} {enc : TypeId × Value → H} {W : World} : Opens enc Tryz.prog W kB 4 (fun _ => True) := opens_bool (by kernel_rfl)
theorem open29 {H : Type} {enc : TypeId × Value → H} {W : World} : Opens enc Tryz.prog W kGrant 29 GIn := opens_grant (⟨by kernel_rfl, by kernel_rfl, by kernel_rfl⟩ : StF Tryz.prog 29 [(3, 0, 1), (9, 1, 1), (4, 2, 1), (3, 3, 1)] 4) (by kernel_rfl) (by kernel_rfl) (by kernel_rfl)
theorem open22 {H : Type} {enc : TypeId × Value → H} {W : World} : Opens enc Tryz.prog W (kSl kGrant) 22 (fun l => (∀ y ∈ l, GIn y) ∧ l.length ≤ 140737488351232) := opens_sl (by kernel_rfl) (by kernel_rfl) (by decide) (of_decide_eq_true (by kernel_rfl)) open29
theorem open5 {H : Type} {enc : TypeId × Value → H} {W : World} : Opens enc Tryz.prog W kU8 5 (fun _ => True) := opens_u8 (by kernel_rfl)
theorem open24 {H : Type} {enc : TypeId × Value → H} {W : World} : Opens enc Tryz.prog W (kArr 32 kU8) 24 (fun l => (∀ y ∈ l, (fun _ => True) y) ∧ l.length = 32) := opens_arr (by kernel_rfl) (by kernel_rfl) (by kernel_rfl) open5
theorem open26 {H : Type} {enc : TypeId × Value → H} {W : World} : Opens enc Tryz.prog W kToken 26 TIn := opens_token (⟨by kernel_rfl, by kernel_rfl, by kernel_rfl⟩ : StF Tryz.prog 26 [(9, 0, 1), (3, 1, 1), (22, 2, 1), (24, 3, 32)] 35) (by kernel_rfl) (by kernel_rfl) (by kernel_rfl : Tryz.prog.underlying 22 = some (.slice 29)) (by kernel_rfl) (of_decide_eq_true (by kernel_rfl)) open29 (by kernel_rfl : Tryz.prog.underlying 24 = some (.array 32 5)) (by kernel_rfl) (by kernel_rfl) (by kernel_rfl)
theorem open35 {H : Type} {enc : TypeId × Value → H} {W : World} : Opens enc Tryz.prog W (kSl kU8) 35 (fun l => (∀ y ∈ l, (fun _ => True) y) ∧ l.length ≤ 140737488351232) := opens_sl (by kernel_rfl) (by kernel_rfl) (by decide) (of_decide_eq_true (by kernel_rfl)) open5
theorem open27 {H : Type} {enc : TypeId × Value → H} {W : World} : Opens enc Tryz.prog W (kSl (kSl kU8)) 27 (fun l => (∀ y ∈ l, (fun l => (∀ y ∈ l, (fun _ => True) y) ∧ l.length ≤ 140737488351232) y) ∧ l.length ≤ 140737488351232) := opens_sl (by kernel_rfl) (by kernel_rfl) (by decide) (of_decide_eq_true (by kernel_rfl)) open35
theorem open31 {H : Type} {enc : TypeId × Value → H} {W : World} : Opens enc Tryz.prog W kCommand 31 CIn := opens_command (⟨by kernel_rfl, by kernel_rfl, by kernel_rfl⟩ : StF Tryz.prog 31 [(3, 0, 1), (26, 1, 35), (9, 36, 1), (9, 37, 1), (3, 38, 1), (27, 39, 1), (3, 40, 1), (3, 41, 1), (29, 42, 4), (3, 46, 1)] 47) open3 open26 open9 open9 open3 open27 open3 open3 open29 open3
theorem open36 {H : Type} {enc : TypeId × Value → H} {W : World} : Opens enc Tryz.prog W (kI .i64) 36 In64 := opens_i64 (by kernel_rfl)
theorem open70 {H : Type} {enc : TypeId × Value → H} {W : World} : Opens enc Tryz.prog W kShown 70 SIn := opens_shown (⟨by kernel_rfl, by kernel_rfl, by kernel_rfl⟩ : StF Tryz.prog 70 [(9, 0, 1), (9, 1, 1), (3, 2, 1), (3, 3, 1), (36, 4, 1), (35, 5, 1)] 6) open9 open9 open3 open3 open36 open35
theorem open43 {H : Type} {enc : TypeId × Value → H} {W : World} : Opens enc Tryz.prog W (kSl kShown) 43 (fun l => (∀ y ∈ l, SIn y) ∧ l.length ≤ 140737488351232) := opens_sl (by kernel_rfl) (by kernel_rfl) (by decide) (of_decide_eq_true (by kernel_rfl)) open70
theorem open72 {H : Type} {enc : TypeId × Value → H} {W : World} : Opens enc Tryz.prog W kEntry 72 EIn := opens_entry (⟨by kernel_rfl, by kernel_rfl, by kernel_rfl⟩ : StF Tryz.prog 72 [(3, 0, 1), (3, 1, 1), (3, 2, 1), (36, 3, 1), (3, 4, 1), (9, 5, 1), (9, 6, 1), (24, 7, 32)] 39) open3 open3 open3 open36 open3 open9 open9 open24
theorem open44 {H : Type} {enc : TypeId × Value → H} {W : World} : Opens enc Tryz.prog W (kSl kEntry) 44 (fun l => (∀ y ∈ l, EIn y) ∧ l.length ≤ 140737488351232) := opens_sl (by kernel_rfl) (by kernel_rfl) (by decide) (of_decide_eq_true (by kernel_rfl)) open72
theorem open46 {H : Type} {enc : TypeId × Value → H} {W : World} : Opens enc Tryz.prog W kAnswer 46 AIn := opens_answer (⟨by kernel_rfl, by kernel_rfl, by kernel_rfl⟩ : StF Tryz.prog 46 [(36, 0, 1), (3, 1, 1), (43, 2, 1), (26, 3, 35), (44, 38, 1)] 39) open36 open3 open43 open26 open44
theorem commandCut_own : ownKnob Tryz.prog.godebug = none := by kernel_rfl
theorem commandCut_laidOut : laidOutB Tryz.prog = true := by kernel_rfl
set_option maxRecDepth 100000 in
theorem commandCut_lifted (os : Os) (started : os.Started) (H : Type) (enc : TypeId × Value → H) :
    ReturnsInHanded {} Tryz.checked os 7 .any (fun w args => (Rows.commandCutSpec.pre enc Tryz.prog Tryz.f7 Rows.commandCutRow.domain false w args ∧ laidMetH Tryz.prog Rows.commandCutRow.laid w) ∧ sizedMet enc Tryz.prog Tryz.f7 (OpenSpec.ofChange Rows.commandCutSpec) false w args)
      (Rows.commandCutSpec.post enc Tryz.prog Tryz.f7 false true false false) := by
  refine returnsInHanded_of_change_and (C := Tryz.checked) (X := (fun w _ => laidMetH Tryz.prog Rows.commandCutRow.laid w)) (fun _ _ _ hh h => h.of_heap hh) commandCut_own started (by kernel_rfl) Tryz.func7
    (ChangeSpec.witness_shaped (enc := enc) (C := Tryz.checked) (os := os) (X := (fun w _ => laidMetH Tryz.prog Rows.commandCutRow.laid w)) false (World.laidAll Tryz.prog os Rows.commandCutRow.laid) #[.agg #[.int .i64 0, .string ⟨#[]⟩, .int .i64 0, .slice none 0 0, .int .u8 0, .int .u8 0, .int .u8 0, .int .u8 0, .int .u8 0, .int .u8 0, .int .u8 0, .int .u8 0, .int .u8 0, .int .u8 0, .int .u8 0, .int .u8 0, .int .u8 0, .int .u8 0, .int .u8 0, .int .u8 0, .int .u8 0, .int .u8 0, .int .u8 0, .int .u8 0, .int .u8 0, .int .u8 0, .int .u8 0, .int .u8 0, .int .u8 0, .int .u8 0, .int .u8 0, .int .u8 0, .int .u8 0, .int .u8 0, .int .u8 0, .int .u8 0, .string ⟨#[]⟩, .string ⟨#[]⟩, .int .i64 0, .slice none 0 0, .int .i64 0, .int .i64 0, .int .i64 0, .string ⟨#[]⟩, .bool false, .int .i64 0, .int .i64 0], .agg #[.int .i64 0, .int .i64 0, .slice none 0 0, .string ⟨#[]⟩, .int .i64 0, .slice none 0 0, .int .u8 0, .int .u8 0, .int .u8 0, .int .u8 0, .int .u8 0, .int .u8 0, .int .u8 0, .int .u8 0, .int .u8 0, .int .u8 0, .int .u8 0, .int .u8 0, .int .u8 0, .int .u8 0, .int .u8 0, .int .u8 0, .int .u8 0, .int .u8 0, .int .u8 0, .int .u8 0, .int .u8 0, .int .u8 0, .int .u8 0, .int .u8 0, .int .u8 0, .int .u8 0, .int .u8 0, .int .u8 0, .int .u8 0, .int .u8 0, .int .u8 0, .int .u8 0, .slice none 0 0], .int .i64 0, .slice none 0 0] 8 (World.laidAll_os _ _ _)
      (World.shaped_of_ZipB (by kernel_rfl) (by kernel_rfl)) (by kernel_rfl) (by kernel_rfl) (by kernel_rfl)
      (by rw [MakeChecks.laidMetH_plain _ _ _ (by kernel_rfl)]; exact laidMet_laidAll _ (by kernel_rfl) (by kernel_rfl))) ?_
  intro W base args ds gs before hval0 hW hcnd hsz0 hL _
  have hL : laidMet Tryz.prog Rows.commandCutRow.laid W := by rw [← MakeChecks.laidMetH_plain _ _ _ (by kernel_rfl)]; exact hL
  have hsz : (DataW.weightsEach Tryz.prog (Tryz.f7.params.toList ++ Rows.commandCutSpec.plain.varTypes Tryz.prog) (ds ++ gs)).all (· ≤ reachBytes) = true := hsz0
  have hval : ∀ (j : Nat) t v, Tryz.f7.params[j]? = some t → args[j]? = some v → Value.okWide Tryz.prog W .any base t v := hval0
  have hW' := hW
  obtain ⟨p, q, hA0, hV, rfl, hfz, hnd⟩ := hW
  have hA : DataW.TrodAll enc Tryz.prog W 0 (fun _ => true) true Tryz.f7.params.toList args.toList ds p := hA0
  rw [Tryz.params7] at hA hval hsz
  obtain ⟨v0, vs0, d0, ds0, p0, q0, hargs, rfl, rfl, h0, r0⟩ := trodAll_cons hA
  obtain ⟨v1, vs1, d1, ds1, p1, q1, rfl, rfl, rfl, h1, r1⟩ := trodAll_cons r0
  obtain ⟨v2, vs2, d2, ds2, p2, q2, rfl, rfl, rfl, h2, r2⟩ := trodAll_cons r1
  obtain ⟨v3, vs3, d3, ds3, p3, q3, rfl, rfl, rfl, h3, r3⟩ := trodAll_cons r2
  obtain ⟨rfl, rfl, rfl⟩ := trodAll_nil r3
  obtain rfl : args = #[v0, v1, v2, v3] := by cases args; simp_all
  obtain ⟨rfl, rfl⟩ := trodVars_none hV
  have k0 := h0
  have lt0 : ∀ x ∈ p0, x.block < W.heap.size := by obtain ⟨m, hm⟩ := k0; exact DataW.trod_lt m _ _ _ hm
  obtain ⟨a0, e0, w0⟩ := arg_agg rfl Tryz.underlying31 open31 (hval 0 31 v0 rfl rfl) h0 (fun n hn => of_decide_eq_true (List.all_eq_true.1 hsz n (DataW.weights_mem_each (j := 0) rfl rfl n hn)))
  have k1 := h1
  have lt1 : ∀ x ∈ p1, x.block < W.heap.size := by obtain ⟨m, hm⟩ := k1; exact DataW.trod_lt m _ _ _ hm
  obtain ⟨a1, e1, w1⟩ := arg_agg rfl Tryz.underlying46 open46 (hval 1 46 v1 rfl rfl) h1 (fun n hn => of_decide_eq_true (List.all_eq_true.1 hsz n (DataW.weights_mem_each (j := 1) rfl rfl n hn)))
  obtain ⟨a2, rfl, rfl, rfl, w2⟩ := open_int Tryz.underlying3 (hval 2 3 v2 rfl rfl) h2
  have k3 := h3
  have lt3 : ∀ x ∈ p3, x.block < W.heap.size := by obtain ⟨m, hm⟩ := k3; exact DataW.trod_lt m _ _ _ hm
  obtain ⟨a3, e3, w3⟩ := arg_sl Tryz.underlying35 open35 (hval 3 35 v3 rfl rfl) h3 (fun n hn => of_decide_eq_true (List.all_eq_true.1 hsz n (DataW.weights_mem_each (j := 3) rfl rfl n hn)))
  have ht : PLe tab (whole W) := tab_of (t := 86) (e := 85) (by kernel_rfl) (by kernel_rfl) (by kernel_rfl) (by kernel_rfl) (by kernel_rfl) (by kernel_rfl) (l := Rows.commandCutRow.laid) (by simp [Rows.commandCutRow, Rows.laid_sealery_command_of]) hL
  clear hA0 hval0 hsz0 hsz
  refine Calls.mono (commandCut_ct a0 a1 a2 a3 w0 w1 W (whole W) [_, _, _, _] (whole_pub ht) (.cons e0 (.cons e1 (.cons rfl (.cons e3 .nil)))) (Owns.nil _ _ _)) ?_
  rintro e W' ⟨v, h', rfl, hm, hR, _⟩
  have hv : v = .bool true := hR
  subst hv
  have bel : Below W.heap.size W W' := (hm.toStep Blocks.nil).ext
  exact ⟨_, rfl, _, _, _, [], _, [], hW', trodAll_mk1 (shut_bool Tryz.underlying4 _), (trodAll_cons_mk (Below.trod commandCut_laidOut (by kernel_rfl) (of_decide_eq_true (by kernel_rfl)) k0 bel lt0) (trodAll_cons_mk (Below.trod commandCut_laidOut (by kernel_rfl) (of_decide_eq_true (by kernel_rfl)) k1 bel lt1) (trodAll_cons_mk (shut_int Tryz.underlying3 w2) (trodAll_cons_mk (Below.trod commandCut_laidOut (by kernel_rfl) (of_decide_eq_true (by kernel_rfl)) k3 bel lt3) trodAll_mk0)))), rfl, bel.frame _, fun h => by cases h⟩
theorem commandCut_row : Rows.commandCutRow.holds Tryz.pinned (OpenSpec.ofChange Rows.commandCutSpec) :=
  OpenClaim.holds_of_wide 7 Tryz.f7 rfl rfl rfl rfl rfl rfl rfl ⟨rfl, rfl, rfl, rfl, rfl⟩ rfl rfl rfl rfl rfl (by kernel_rfl) Tryz.func7 (by kernel_rfl)
    (of_decide_eq_true (by kernel_rfl)) (by unfold Func.isWrapper; first | (rw [if_pos (by decide +kernel)]; kernel_rfl) | (rw [if_neg (by decide +kernel)]; exact ⟨rfl, rfl⟩))
    (fun os started H enc _ => commandCut_lifted os started H enc)
/-- The tied card. -/
theorem commandCut_holds : Rows.CommandCutCardSaid :=
  Claim7.holds_tied_plain_at .later [] [.data, .data, .pinned] true (true, "f4fff74cb53f731705f5b6fa54144b276ed1db2ab91ffd96cdb848f597edf476") false commandCut_row (fun _ h => by cases h) (by kernel_rfl) (fun _ h => by cases h) commandCut_row_tie rfl ⟨rfl, rfl⟩ (by kernel_rfl) rfl
    (fun f fn hf hfn => by
      obtain rfl : f = 7 := Option.some.inj ((show Tryz.prog.funcNamed "sealery/sealerylaw23.CommandCut" = some 7 by kernel_rfl).symm.trans hf) |>.symm
      obtain rfl : fn = Tryz.f7 := (Option.some.inj (Tryz.func7.symm.trans hfn)).symm
      exact ⟨by kernel_rfl, fun j t ht => by
        rw [Tryz.params7] at ht
        have hm : t ∈ [31, 46, 3, 35] := by simpa using Array.mem_of_getElem? ht
        have hall : ([31, 46, 3, 35].all fun u => !Tryz.prog.wantsStandIn u) = true := by kernel_rfl
        exact (show Tryz.prog.wantsStandIn t = false by simpa using List.all_eq_true.1 hall t hm)⟩)
    (by kernel_rfl)
#print axioms commandCut_holds
end Go.Proofs.YtdioiepkbolnlaaGreatDoor
