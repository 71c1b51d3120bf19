/- For every input the law CommandToken returns true, and leaves its arguments as they were. Conditions: the cells of its row (the listed variables as the program text lays them). -/
import Derived.Test.YtdioiepkbolnlaaDoorL2
import Derived.Test.YtdioiepkbolnlaaDoorOpn
import Derived.Test.YtdioiepkbolnlaaDoorCards
import Derived.Test.YtdioiepkbolnlaaDoorTie
import Derived.ProofKit
import Derived.OpenShut
import Derived.LaidMore
import Derived.Lay
import Derived.SevenTiedAt
import Derived.Stop.Joined
import Derived.ChangeOld
import Derived.Carry
import Derived.MakeChecks
set_option linter.unusedVariables false
namespace Go.Proofs.YtdioiepkbolnlaaDoor
open Go.ChangeShapes Go.WideShapes Go.ChangeAt Go.RowKit
theorem open9 {H : Type} {enc : TypeId × Value → H} {W : World} : Opens enc Tryd.prog W kS 9 (fun s => s.size ≤ maxLen) := opens_str (by kernel_rfl)
theorem open3 {H : Type} {enc : TypeId × Value → H} {W : World} : Opens enc Tryd.prog W (kI .i64) 3 In64 := opens_i64 (by kernel_rfl)
theorem open4 {H : Type} {enc : TypeId × Value → H} {W : World} : Opens enc Tryd.prog W kB 4 (fun _ => True) := opens_bool (by kernel_rfl)
theorem open30 {H : Type} {enc : TypeId × Value → H} {W : World} : Opens enc Tryd.prog W kGrant 30 GIn := opens_grant (⟨by kernel_rfl, by kernel_rfl, by kernel_rfl⟩ : StF Tryd.prog 30 [(3, 0, 1), (9, 1, 1), (4, 2, 1), (3, 3, 1)] 4) (by kernel_rfl) (by kernel_rfl) (by kernel_rfl)
theorem open23 {H : Type} {enc : TypeId × Value → H} {W : World} : Opens enc Tryd.prog W (kSl kGrant) 23 (fun l => (∀ y ∈ l, GIn y) ∧ l.length ≤ maxLen) := opens_sl (by kernel_rfl) (by kernel_rfl) (by decide) open30
theorem open5 {H : Type} {enc : TypeId × Value → H} {W : World} : Opens enc Tryd.prog W kU8 5 (fun _ => True) := opens_u8 (by kernel_rfl)
theorem open25 {H : Type} {enc : TypeId × Value → H} {W : World} : Opens enc Tryd.prog W (kArr 32 kU8) 25 (fun l => (∀ y ∈ l, (fun _ => True) y) ∧ l.length = 32) := opens_arr (by kernel_rfl) (by kernel_rfl) (by kernel_rfl) open5
theorem open27 {H : Type} {enc : TypeId × Value → H} {W : World} : Opens enc Tryd.prog W kToken 27 TIn := opens_token (⟨by kernel_rfl, by kernel_rfl, by kernel_rfl⟩ : StF Tryd.prog 27 [(9, 0, 1), (3, 1, 1), (23, 2, 1), (25, 3, 32)] 35) (by kernel_rfl) (by kernel_rfl) (by kernel_rfl : Tryd.prog.underlying 23 = some (.slice 30)) (by kernel_rfl) open30 (by kernel_rfl : Tryd.prog.underlying 25 = some (.array 32 5)) (by kernel_rfl) (by kernel_rfl) (by kernel_rfl)
theorem commandToken_own : ownKnob Tryd.prog.godebug = none := by kernel_rfl
theorem commandToken_laidOut : laidOutB Tryd.prog = true := by kernel_rfl
set_option maxRecDepth 100000 in
theorem commandToken_lifted (os : Os) (started : os.Started) (H : Type) (enc : TypeId × Value → H) :
    ReturnsInHanded {} Tryd.checked os 4 .any (fun w args => (Rows.commandTokenSpec.pre enc Tryd.prog Tryd.f4 Rows.commandTokenRow.domain false w args ∧ laidMetH Tryd.prog Rows.commandTokenRow.laid w) ∧ sizedMet enc Tryd.prog Tryd.f4 (OpenSpec.ofChange Rows.commandTokenSpec) false w args)
      (Rows.commandTokenSpec.post enc Tryd.prog Tryd.f4 false true false false) := by
  refine returnsInHanded_of_change_and (C := Tryd.checked) (X := (fun w _ => laidMetH Tryd.prog Rows.commandTokenRow.laid w)) (fun _ _ _ hh h => h.of_heap hh) commandToken_own started (by kernel_rfl) Tryd.func4
    (ChangeSpec.witness_shaped (enc := enc) (C := Tryd.checked) (os := os) (X := (fun w _ => laidMetH Tryd.prog Rows.commandTokenRow.laid w)) false (World.laidAll Tryd.prog os Rows.commandTokenRow.laid) #[.int .i64 0, .agg #[.string ⟨#[]⟩, .int .i64 0, .slice none 0 0, .int .u8 0, .int .u8 0, .int .u8 0, .int .u8 0, .int .u8 0, .int .u8 0, .int .u8 0, .int .u8 0, .int .u8 0, .int .u8 0, .int .u8 0, .int .u8 0, .int .u8 0, .int .u8 0, .int .u8 0, .int .u8 0, .int .u8 0, .int .u8 0, .int .u8 0, .int .u8 0, .int .u8 0, .int .u8 0, .int .u8 0, .int .u8 0, .int .u8 0, .int .u8 0, .int .u8 0, .int .u8 0, .int .u8 0, .int .u8 0, .int .u8 0, .int .u8 0]] 8 (World.laidAll_os _ _ _)
      (World.shaped_of_ZipB (by kernel_rfl) (by kernel_rfl)) (by kernel_rfl) (by kernel_rfl) (by kernel_rfl)
      (by rw [MakeChecks.laidMetH_plain _ _ _ (by kernel_rfl)]; exact laidMet_laidAll _ (by kernel_rfl) (by kernel_rfl))) ?_
  intro W base args ds gs before hval0 hW hcnd _ hL _
  have hL : laidMet Tryd.prog Rows.commandTokenRow.laid W := by rw [← MakeChecks.laidMetH_plain _ _ _ (by kernel_rfl)]; exact hL
  have hval : ∀ (j : Nat) t v, Tryd.f4.params[j]? = some t → args[j]? = some v → Value.okWide Tryd.prog W .any base t v := hval0
  have hW' := hW
  obtain ⟨p, q, hA0, hV, rfl, hfz, hnd⟩ := hW
  have hA : DataW.TrodAll enc Tryd.prog W 0 (fun _ => true) true Tryd.f4.params.toList args.toList ds p := hA0
  rw [Tryd.params4] at hA hval
  obtain ⟨v0, vs0, d0, ds0, p0, q0, hargs, rfl, rfl, h0, r0⟩ := trodAll_cons hA
  obtain ⟨v1, vs1, d1, ds1, p1, q1, rfl, rfl, rfl, h1, r1⟩ := trodAll_cons r0
  obtain ⟨rfl, rfl, rfl⟩ := trodAll_nil r1
  obtain rfl : args = #[v0, v1] := by cases args; simp_all
  obtain ⟨rfl, rfl⟩ := trodVars_none hV
  obtain ⟨a0, rfl, rfl, rfl, w0⟩ := open_int Tryd.underlying3 (hval 0 3 v0 rfl rfl) h0
  have k1 := h1
  have lt1 : ∀ x ∈ p1, x.block < W.heap.size := by obtain ⟨m, hm⟩ := k1; exact DataW.trod_lt m _ _ _ hm
  obtain ⟨a1, e1, w1⟩ := arg_agg rfl Tryd.underlying27 open27 (hval 1 27 v1 rfl rfl) h1
  have ht : PLe tab (whole W) := tab_of (t := 56) (e := 55) (by kernel_rfl) (by kernel_rfl) (by kernel_rfl) (by kernel_rfl) (by kernel_rfl) (by kernel_rfl) (l := Rows.commandTokenRow.laid) (by simp [Rows.commandTokenRow, Rows.laid_sealery_command_of]) hL
  clear hA0 hval0
  refine Calls.mono (commandToken_ct a0 a1 w1 W (whole W) [_, _] (whole_pub ht) (.cons rfl (.cons e1 .nil)) (Owns.nil _ _ _)) ?_
  rintro e W' ⟨v, h', rfl, hm, hR, _⟩
  have hv : v = .bool true := hR
  subst hv
  have bel : Below W.heap.size W W' := (hm.toStep Blocks.nil).ext
  exact ⟨_, rfl, _, _, _, [], _, [], hW', trodAll_mk1 (shut_bool Tryd.underlying4 _), (trodAll_cons_mk (shut_int Tryd.underlying3 w0) (trodAll_cons_mk (Below.trod commandToken_laidOut (by kernel_rfl) (of_decide_eq_true (by kernel_rfl)) k1 bel lt1) trodAll_mk0)), rfl, bel.frame _, fun h => by cases h⟩
theorem commandToken_row : Rows.commandTokenRow.holds Tryd.pinned (OpenSpec.ofChange Rows.commandTokenSpec) :=
  OpenClaim.holds_of_wide 4 Tryd.f4 rfl rfl rfl rfl rfl rfl rfl ⟨rfl, rfl, rfl, rfl, rfl⟩ rfl rfl rfl rfl rfl (by kernel_rfl) Tryd.func4 (by kernel_rfl)
    (of_decide_eq_true (by kernel_rfl)) (by unfold Func.isWrapper; first | (rw [if_pos (by decide +kernel)]; kernel_rfl) | (rw [if_neg (by decide +kernel)]; exact ⟨rfl, rfl⟩))
    (fun os started H enc _ => commandToken_lifted os started H enc)
/-- The tied card. -/
theorem commandToken_holds : Rows.CommandTokenCardSaid :=
  Claim7.holds_tied_plain_at .later [] [.data, .data, .pinned] true (true, "45e0494b8f8f678e1b8739d93ce7b96f4be74eb7970dbf83dcb9db87a03d1dd7") false commandToken_row (fun _ h => by cases h) (by kernel_rfl) (fun _ h => by cases h) commandToken_row_tie rfl ⟨rfl, rfl⟩ (by kernel_rfl) rfl
    (fun f fn hf hfn => by
      obtain rfl : f = 4 := Option.some.inj ((show Tryd.prog.funcNamed "sealery/sealerylaw23.CommandToken" = some 4 by kernel_rfl).symm.trans hf) |>.symm
      obtain rfl : fn = Tryd.f4 := (Option.some.inj (Tryd.func4.symm.trans hfn)).symm
      exact ⟨by kernel_rfl, fun j t ht => by
        rw [Tryd.params4] at ht
        have hm : t ∈ [3, 27] := by simpa using Array.mem_of_getElem? ht
        have hall : ([3, 27].all fun u => !Tryd.prog.wantsStandIn u) = true := by kernel_rfl
        exact (show Tryd.prog.wantsStandIn t = false by simpa using List.all_eq_true.1 hall t hm)⟩)
    (by kernel_rfl)
#print axioms commandToken_holds
end Go.Proofs.YtdioiepkbolnlaaDoor
