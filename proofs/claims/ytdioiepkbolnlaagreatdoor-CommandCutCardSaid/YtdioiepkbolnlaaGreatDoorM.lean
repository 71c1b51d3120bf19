/- Regions in whatever order, in which what is owned is turned by some of the operations, these one behind the other; calls that turn what is handed to them. Nothing of the program is in it. -/
import Derived.Test.YtdioiepkbolnlaaGreatDoorBd
set_option linter.unusedSimpArgs false
set_option linter.unusedVariables false
namespace Go.Proofs.YtdioiepkbolnlaaGreatDoor
open Go.RowKit

section
variable {P : Program} {ops : Array Oper} {Q : Exit → Act → World → Prop} {T : (Nat → Bool) → Act → World → Prop}
def OneT (P : Program) (ops : Array Oper) (Q : Exit → Act → World → Prop) (T : (Nat → Bool) → Act → World → Prop) : Prop := ∀ (L : Nat → Bool) (i : Nat), Cl ops (fun j => L j = true) → i < ops.size → L i = false → (∀ j ∈ prs ops i, L j = true) → ∀ a w, T L a w → ∀ K : Act → World → Prop, (∀ a' w', T (fun j => decide (j = i) || L j) a' w' → K a' w') → wpOp P ops Q i K a w
theorem wpAny_T (hprs : ∀ i, i < ops.size → ∀ j ∈ prs ops i, j < i) (hcg : ∀ L L' a w, (∀ j, j < ops.size → L j = L' j) → T L a w → T L' a w) (h1 : OneT P ops Q T) (k : ∀ a w, T (fun _ => true) a w → Q .normal a w) :
    ∀ (fuel : Nat) (listed : Array Bool) (l : List Nat) (a : Act) (w : World), listed.size = ops.size → l.length = fuel → l.Nodup → (∀ j, j < ops.size → (listed.getD j false = false ↔ j ∈ l)) → (∀ j ∈ l, j < ops.size) →
      Cl ops (fun j => listed.getD j false = true) → T (fun j => listed.getD j false) a w → wpAny P .any ops Q fuel listed a w := by
  intro fuel
  induction fuel with
  | zero =>
    intro listed l a w hsz hl hnd hmem hlt hc st
    have : l = [] := List.eq_nil_of_length_eq_zero hl
    subst this
    have hall : ∀ j, j < ops.size → listed.getD j false = true := fun j hj => by
      cases e : listed.getD j false
      · have := (hmem j hj).1 e
        cases this
      · rfl
    refine ⟨List.eq_nil_iff_forall_not_mem.2 fun j hj => ?_, k a w (hcg _ _ a w (fun j hj => hall j hj) st)⟩
    obtain ⟨h1, h2, _⟩ := rdy hsz hj
    rw [hall j h1] at h2; cases h2
  | succ fuel ih =>
    intro listed l a w hsz hl hnd hmem hlt hc st
    have hne : Region.ready .any ops listed ≠ [] := by
      intro h0
      have : ∀ j, j < ops.size → listed.getD j false = true := by
        intro j
        induction j using Nat.strongRecOn with
        | _ j ihj =>
          intro hj
          cases hlj : listed.getD j false
          · exfalso
            have : j ∈ Region.ready .any ops listed := rdy_mk hsz (by omega) hlj (fun p hp => by
              have := hprs j hj p hp
              exact ihj p this (by omega))
            rw [h0] at this; cases this
          · rfl
      match l, hl with
      | p :: l', _ =>
        have hp := hlt p List.mem_cons_self
        have h2 := (hmem p (by omega)).2 List.mem_cons_self
        rw [this p hp] at h2; cases h2
    refine ⟨fun hr => absurd hr hne, fun i hi => ?_⟩
    obtain ⟨h3, h2, h4⟩ := rdy hsz hi
    have hil : i ∈ l := (hmem i h3).1 h2
    refine h1 _ i hc h3 h2 h4 a w st _ (fun a' w' st' => ?_)
    refine ih (listed.setIfInBounds i true) (l.erase i) a' w' (by simpa using hsz) ?_ (hnd.erase i) ?_ ?_ ?_ (hcg _ _ a' w' (fun j _ => (getD_set (by omega) j).symm) st')
    · rw [List.length_erase_of_mem hil, hl]; omega
    · intro j hj
      rw [getD_set (by omega), hnd.mem_erase_iff]
      by_cases e : j = i
      · subst e; simp
      · simpa [e] using hmem j hj
    · intro j hj
      exact hlt j (List.mem_of_mem_erase hj)
    · intro j hj p hp
      show (listed.setIfInBounds i true).getD p false = true
      have hj : (listed.setIfInBounds i true).getD j false = true := hj
      rw [getD_set (by omega)] at hj ⊢
      by_cases e : j = i
      · subst e
        simp [h4 p hp]
      · have : listed.getD j false = true := by simpa [e] using hj
        have := hc j this p hp
        simp [show listed.getD p false = true from this]
theorem wpOps_T (hprs : ∀ i, i < ops.size → ∀ j ∈ prs ops i, j < i) (hcg : ∀ L L' a w, (∀ j, j < ops.size → L j = L' j) → T L a w → T L' a w) (h1 : OneT P ops Q T) (k : ∀ a w, T (fun _ => true) a w → Q .normal a w) :
    ∀ (r i : Nat) (a : Act) (w : World), i + r = ops.size → T (fun j => decide (j < i)) a w → wpOps P ops Q (List.range' i r) a w := by
  intro r
  induction r with
  | zero =>
    intro i a w him st
    have : i = ops.size := by omega
    subst this
    exact k a w (hcg _ _ a w (fun j hj => by simp [hj]) st)
  | succ r ih =>
    intro i a w him st
    rw [List.range'_succ, wpOps_cons]
    refine h1 _ i ?_ (by omega) (by simp) ?_ a w st _ (fun a' w' st' => ?_)
    · intro j hj p hp
      have hj' : j < i := by simpa using hj
      have := hprs j (by omega) p hp
      simp; omega
    · intro j hj
      have := hprs i (by omega) j hj
      simpa using this
    · refine ih (i + 1) a' w' (by omega) (hcg _ _ a' w' (fun j _ => ?_) st')
      rw [Bool.eq_iff_iff]; simp; omega
theorem regT (hm : P.follows .mixedOrders = true) (hprs : ∀ i, i < ops.size → ∀ j ∈ prs ops i, j < i) (hcg : ∀ L L' a w, (∀ j, j < ops.size → L j = L' j) → T L a w → T L' a w) (h1 : OneT P ops Q T) (k : ∀ a w, T (fun _ => true) a w → Q .normal a w)
    (hd : ∀ L a w, T L a w → T L a { w with drawn := w.drawn + 1 }) {id : Nat} {draw : Bool} {a : Act} {w : World} (h0 : T (fun _ => false) a w) : (Code.region id ops draw).wp P Q a w := by
  cases draw with
  | false =>
    refine wp_region ?_
    rw [List.range_eq_range']
    exact wpOps_T hprs hcg h1 k ops.size 0 a w (by omega) (hcg _ _ a w (fun j _ => by simp) h0)
  | true =>
    refine wp_region_any hm ?_
    have hf : ∀ j, (Array.replicate ops.size false).getD j false = false := by
      intro j
      rcases Nat.lt_or_ge j ops.size with h | h
      · simp [Array.getD_eq_getD_getElem?, h]
      · simp [Array.getD_eq_getD_getElem?, Nat.not_lt.2 h]
    exact wpAny_T hprs hcg h1 k ops.size (Array.replicate ops.size false) (List.range ops.size) a _ (by simp) (by simp) List.nodup_range (fun j hj => by rw [hf j]; simp; omega) (fun j hj => by simpa using hj)
      (fun j hj => by have hj : (Array.replicate ops.size false).getD j false = true := hj
                      rw [hf] at hj; cases hj) (hd _ _ _ (hcg _ _ a w (fun j _ => (hf j).symm) h0))
end

/-- One operation that turns what is owned. -/
def OpM (C : Cx) (l l' : List OI) (o : Oper) (Γ : Nat → Rep) (R : Rep) : Prop :=
  ∀ (a : Act) (w : World) (h : PH), Pub h w → C.w0.heap.size ≤ w.heap.size → Owns C.lo l w h → (∀ x, x ∈ o.op.operands.toList → (opd Γ x).p h (a.eval x)) →
    ∀ (K : Act → World → Prop) (Q : Exit → Act → World → Prop), (∀ v w' h' B, MStep B w h w' h' → (∀ b, B b → C.lo b) → Owns C.lo l' w' h' → R.p h' v → K (a.put o.dst v) w') → o.wp C.P a w K Q
structure St where
  R : Rep
  l : Option (List OI)
def lsT (l : List OI) : List St → Nat → List OI
  | _, 0 => l
  | [], _ + 1 => l
  | s :: ss, n + 1 => lsT (s.l.getD l) ss n
def OpsM (C : Cx) (ops : Array Oper) : List Oper → (Nat → Rep) → List OI → List St → Prop
  | [], _, _, [] => True
  | o :: os, Γ, l, ⟨R, none⟩ :: ss => (∀ V, OpG C.P V ops o Γ (plain R)) ∧ OpsM C ops os (updO Γ o.dst R) l ss
  | o :: os, Γ, l, ⟨R, some l'⟩ :: ss => (o.guard = none ∧ OpM C l l' o Γ R) ∧ OpsM C ops os (updO Γ o.dst R) l' ss
  | _, _, _, _ => False
def fl (ss : List St) (j : Nat) : Bool := ((ss[j]?).map (·.l.isSome)).getD false
def chOk (ops : Array Oper) (F : List Bool) : Bool := (List.range ops.size).all fun j => !F.getD j false || (List.range j).all fun i => !F.getD i false || (ancs ops j).contains i
def outsM (ss : List St) : List Out := ss.map fun s => plain s.R
theorem plain_R (R : Rep) : (plain R).R = R := rfl
theorem OpsM.len {C : Cx} {ops : Array Oper} : ∀ (os : List Oper) (Γ : Nat → Rep) (l : List OI) (ss : List St), OpsM C ops os Γ l ss → ss.length = os.length
  | [], _, _, [], _ => rfl
  | [], _, _, _ :: _, h => h.elim
  | _ :: _, _, _, [], h => h.elim
  | _ :: os, _, l, ⟨R, none⟩ :: ss, h => by simpa using OpsM.len os _ _ ss h.2
  | _ :: os, _, l, ⟨R, some l'⟩ :: ss, h => by simpa using OpsM.len os _ _ ss h.2
theorem OpsM.at_ {C : Cx} {ops : Array Oper} : ∀ (os : List Oper) (Γ : Nat → Rep) (l : List OI) (ss : List St), OpsM C ops os Γ l ss → ∀ i o, os[i]? = some o → ∃ s : St, ss[i]? = some s ∧
    (match s.l with | none => ∀ V, OpG C.P V ops o (envs Γ (os.take i) ((outsM ss).take i)) (plain s.R) | some l' => o.guard = none ∧ l' = lsT l ss (i + 1) ∧ OpM C (lsT l ss i) l' o (envs Γ (os.take i) ((outsM ss).take i)) s.R)
  | [], _, _, [], _, i, o, ho => by simp at ho
  | [], _, _, _ :: _, h, _, _, _ => h.elim
  | _ :: _, _, _, [], h, _, _, _ => h.elim
  | o' :: os, Γ, l, ⟨R, none⟩ :: ss, h, 0, o, ho => by
    have : o' = o := by simpa using ho
    subst this
    exact ⟨_, rfl, by simpa [envs] using h.1⟩
  | o' :: os, Γ, l, ⟨R, some l'⟩ :: ss, h, 0, o, ho => by
    have : o' = o := by simpa using ho
    subst this
    exact ⟨_, rfl, h.1.1, by simp [lsT], by simpa [envs, lsT] using h.1.2⟩
  | o' :: os, Γ, l, ⟨R, none⟩ :: ss, h, i + 1, o, ho => by
    obtain ⟨s, h1, h2⟩ := OpsM.at_ os _ _ ss h.2 i o (by simpa using ho)
    exact ⟨s, by simpa using h1, by simpa [envs, outsM, lsT, plain_R] using h2⟩
  | o' :: os, Γ, l, ⟨R, some l'⟩ :: ss, h, i + 1, o, ho => by
    obtain ⟨s, h1, h2⟩ := OpsM.at_ os _ _ ss h.2 i o (by simpa using ho)
    exact ⟨s, by simpa using h1, by simpa [envs, outsM, lsT, plain_R] using h2⟩
theorem ls_same : ∀ (ss : List St) (l : List OI) (i j : Nat), i ≤ j → (∀ q, i ≤ q → q < j → fl ss q = false) → lsT l ss i = lsT l ss j
  | [], l, i, j, _, _ => by cases i <;> cases j <;> rfl
  | s :: ss, l, 0, 0, _, _ => rfl
  | s :: ss, l, i + 1, 0, h, _ => absurd h (by omega)
  | s :: ss, l, 0, j + 1, _, h => by
    have h0 := h 0 (by omega) (by omega)
    have : s.l = none := by simpa [fl] using h0
    show l = lsT (s.l.getD l) ss j
    rw [this]
    have := ls_same ss l 0 j (by omega) (fun q hq hj => by simpa [fl] using h (q + 1) (by omega) (by omega))
    simpa [lsT] using this
  | s :: ss, l, i + 1, j + 1, hij, h => ls_same ss _ i j (by omega) (fun q hq hj => by simpa [fl] using h (q + 1) (by omega) (by omega))
section
variable {C : Cx} {Γ : Nat → Rep} {l : List OI} {Q : Exit → Act → World → Prop} {ops : Array Oper} {ss : List St}
def TM (C : Cx) (ops : Array Oper) (Γ : Nat → Rep) (l : List OI) (ss : List St) (L : Nat → Bool) (a : Act) (w : World) : Prop := ∃ h, a.tmps.size = C.n ∧ a.defers = [] ∧ MStep C.B C.w0 C.h0 w h ∧
  (∃ i, i ≤ ops.size ∧ (∀ j, j < ops.size → fl ss j = true → (L j = true ↔ j < i)) ∧ Owns C.lo (lsT l ss i) w h) ∧ ∀ s, (env ops Γ (fun j => ((outsM ss).getD j (plain Rep.any)).R) L ops.size s).p h (tv a s)
theorem one_TM (hok : regOk C.n ops.size [] ops = true) (hch : chOk ops (ss.map (·.l.isSome)) = true) (hops : OpsM C ops ops.toList Γ l ss) : OneT C.P ops Q (TM C ops Γ l ss) := by
  intro L i hc hi hn hp a w st K k
  obtain ⟨h, hsz, hdf, hst, ⟨i0, hi0, hiff, how⟩, hsat⟩ := st
  have hlen := hops.len
  obtain ⟨o, ho⟩ : ∃ o, ops[i]? = some o := ⟨ops[i], Array.getElem?_eq_getElem hi⟩
  obtain ⟨c2, c3, c4, c5⟩ := regOk_at hok hi ho
  have hg : gslot ops i = o.dst := by simp [gslot, ho]
  have agree : ∀ s ∈ slots ops o, ∀ j, j < ops.size → wr ops s j = true → j ≠ i → (L j = true ↔ j < i) := by
    intro s hs j hj hw hne
    obtain ⟨d1, d2⟩ := c4 s hs j hj hw hne
    constructor
    · intro hl
      rcases Nat.lt_or_ge j i with hlt | hge
      · exact hlt
      · have : L i = true := ancs_in hc (hc j hl) i (d2 (by omega))
        rw [this] at hn; cases hn
    · intro hlt
      exact ancs_in hc hp j (d1 hlt)
  have look : ∀ s ∈ slots ops o, env ops Γ (fun j => ((outsM ss).getD j (plain Rep.any)).R) L ops.size s = env ops Γ (fun j => ((outsM ss).getD j (plain Rep.any)).R) (fun _ => true) i s := by
    intro s hs
    rw [← env_trunc i ops.size (by omega)]
    refine env_congr _ (fun j hj hw => ?_)
    by_cases e : j = i
    · subst e; simp [hn]
    · have := agree s hs j hj hw e
      rw [Bool.eq_iff_iff]; simpa using this
  have hlo : (outsM ss).length = ops.size := by simp [outsM, hlen]
  have henv : env ops Γ (fun j => ((outsM ss).getD j (plain Rep.any)).R) (fun _ => true) i = envs Γ (ops.toList.take i) ((outsM ss).take i) := env_envs (by rw [hlo]; simp) i (by omega)
  obtain ⟨s, hs, hcase⟩ := OpsM.at_ _ _ _ _ hops i o (by simpa using ho)
  have hRi : ((outsM ss).getD i (plain Rep.any)).R = s.R := by simp [outsM, List.getD, hs, plain]
  have hfl : fl ss i = s.l.isSome := by simp [fl, hs]
  have satO : ∀ (v : Value) (w' : World) (h' : PH), PLe h h' → s.R.p h' v → ∀ t, (env ops Γ (fun j => ((outsM ss).getD j (plain Rep.any)).R) (fun j => decide (j = i) || L j) ops.size t).p h' (tv (a.put o.dst v) t) := by
    intro v w' h' hle hr t
    by_cases e : o.dst = some t
    · have hd : t < a.tmps.size := by rw [hsz]; exact c2 t e
      rw [e, tv_put a t t v hd, if_pos rfl]
      rw [env_last (i := i) (by rw [hg, e]) (by simp) ops.size hi]
      · show (((outsM ss).getD i (plain Rep.any)).R).p h' v
        rw [hRi]; exact hr
      · intro j h1 h2 hw
        have hs' : t ∈ slots ops o := by simp [slots, e]
        have := agree t hs' j h2 hw (by omega)
        have hne : j ≠ i := by omega
        simp only [hne, decide_false, Bool.false_or]
        cases hl : L j
        · rfl
        · have := this.1 hl; omega
    · have keep : tv (a.put o.dst v) t = tv a t := by
        cases hd : o.dst with
        | none => rfl
        | some d =>
          rw [tv_put a d t v (by rw [hsz]; exact c2 d hd), if_neg]
          intro e2; exact e (by rw [hd, e2])
      rw [keep]
      rw [env_congr (L' := L) ops.size (fun j hj hw => by
        by_cases e2 : j = i
        · subst e2
          have : gslot ops j = some t := by simpa [wr] using hw
          exact absurd (hg.symm.trans this) e
        · simp [e2])]
      exact (env ops Γ (fun j => ((outsM ss).getD j (plain Rep.any)).R) L ops.size t).mono hle (hsat t)
  have opnd : ∀ x, x ∈ o.op.operands.toList → (opd (envs Γ (ops.toList.take i) ((outsM ss).take i)) x).p h (a.eval x) := by
    intro x hx
    cases x with
    | tmp q =>
      have hq : q ∈ slots ops o := List.mem_append_left _ (List.mem_append_left _ (List.mem_filterMap.2 ⟨_, hx, rfl⟩))
      have := hsat q
      rw [look q hq, henv] at this
      exact this
    | const v => rfl
    | global g => rfl
    | func f => rfl
  unfold wpOp
  simp only [ho]
  cases hsl : s.l with
  | none =>
    rw [hsl] at hcase hfl
    have hfl : fl ss i = false := by simpa using hfl
    have fin : ∀ (v : Value) (w' : World) (h' : PH), Step w h w' h' → s.R.p h' v → TM C ops Γ l ss (fun j => decide (j = i) || L j) (a.put o.dst v) w' := fun v w' h' hs' hr =>
      ⟨h', (size_put _ _ _).trans hsz, (defers_put _ _ _).trans hdf, hst.step_ hs', ⟨i0, hi0, fun j hj hf => by
        have : j ≠ i := fun e => by subst e; rw [hfl] at hf; cases hf
        simpa [this] using hiff j hj hf, how.step hs'⟩, satO v w' h' hs'.le hr⟩
    have hops' := hcase (fun w h => Owns C.lo (lsT l ss i0) w h)
    unfold OpG at hops'
    cases hgd : o.guard with
    | none =>
      rw [hgd] at hops'
      have hw : Region.wanted o (yielded ops a.tmps) = true := by simp [Region.wanted, hgd]
      simp only [hw, if_true]
      exact .inl (hops' a w h hst.pub how opnd K Q (fun v w' h' hs hr _ => k _ _ (fin v w' h' hs hr)))
    | some gb =>
      obtain ⟨g, want⟩ := gb
      rw [hgd] at hops'
      obtain ⟨d, q, B, R', hd, hb, hR, hC⟩ := hops'
      have hR : s.R = Rep.cond (q ∧ B = want) R' := congrArg Out.R hR
      have hs : d ∈ slots ops o := by
        refine List.mem_append_left _ (List.mem_append_right _ ?_)
        simp only [hgd]
        simpa [gslot] using hd
      have hv := hsat d
      rw [look d hs, henv] at hv
      obtain ⟨e1, e2⟩ := hb h _ hv
      have hdl : d < a.tmps.size := by
        rw [hsz]
        have hgi := c3 g want hgd
        obtain ⟨og, hog, hdd⟩ : ∃ og, ops[g]? = some og ∧ og.dst = some d := by
          unfold gslot at hd
          cases hx : ops[g]? with
          | none => simp [hx] at hd
          | some og => exact ⟨og, rfl, by simpa [hx] using hd⟩
        exact (regOk_at hok (by omega) hog).1 d hdd
      have hy : yielded ops a.tmps g = match some (tv a d) with | some (.bool b) => some b | _ => none := by
        unfold yielded
        rw [show (ops[g]?).bind (·.dst) = some d from hd]
        have : (some d).bind (fun x => a.tmps[x]?) = some (tv a d) := by simp [tv, hdl]
        rw [this]
        generalize tv a d = u
        cases u <;> rfl
      by_cases hq : q
      · have e1 := e1 hq
        rw [e1] at hy
        by_cases hbw : B = want
        · have hw : Region.wanted o (yielded ops a.tmps) = true := by simp [Region.wanted, hgd, hy, hbw]
          simp only [hw, if_true]
          refine .inl (hC hq hbw a w h hst.pub how opnd K Q (fun v w' h' hs hr _ => k _ _ (fin v w' h' hs ?_)))
          rw [hR]
          exact ⟨fun _ => hr, fun hn => absurd ⟨hq, hbw⟩ hn⟩
        · have hw : Region.wanted o (yielded ops a.tmps) = false := by simp [Region.wanted, hgd, hy, hbw]
          simp only [hw]
          refine k _ _ (fin _ _ _ (Step.refl hst.pub) ?_)
          rw [hR]
          exact ⟨fun hn => absurd hn.2 hbw, fun _ => rfl⟩
      · have e2 := e2 hq
        rw [e2] at hy
        have hw : Region.wanted o (yielded ops a.tmps) = false := by simp [Region.wanted, hgd, hy, undef]
        simp only [hw]
        refine k _ _ (fin _ _ _ (Step.refl hst.pub) ?_)
        rw [hR]
        exact ⟨fun hn => absurd hn.1 hq, fun _ => rfl⟩
  | some l' =>
    rw [hsl] at hcase hfl
    have hfl : fl ss i = true := by simpa using hfl
    obtain ⟨hgd, rfl, hM⟩ := hcase
    have hF : ∀ j, fl ss j = (ss.map (·.l.isSome)).getD j false := fun j => by
      unfold fl
      by_cases hj : j < ss.length <;> simp [List.getD, hj]
    have chain : ∀ j q, q < ops.size → j < q → fl ss j = true → fl ss q = true → j ∈ ancs ops q := by
      intro j q hq hj h1 h2
      have := (List.all_eq_true.1 hch) q (List.mem_range.2 hq)
      rw [← hF q, h2] at this
      simp only [Bool.not_true, Bool.false_or] at this
      have := (List.all_eq_true.1 this) j (List.mem_range.2 hj)
      rw [← hF j, h1] at this
      simpa using this
    have hge : i0 ≤ i := by
      rcases Nat.lt_or_ge i i0 with hlt | hge
      · have := (hiff i hi hfl).2 hlt
        rw [this] at hn; cases hn
      · exact hge
    have hlow : ∀ j, j < ops.size → fl ss j = true → (L j = true ↔ j < i) := by
      intro j hj hf
      constructor
      · intro hl
        have := (hiff j hj hf).1 hl
        omega
      · intro hlt
        exact ancs_in hc hp j (chain j i hi hlt hf hfl)
    have hsame : lsT l ss i0 = lsT l ss i := ls_same ss l i0 i hge (fun q hq hqi => by
      cases hf : fl ss q
      · rfl
      · have h1 := (hlow q (by omega) hf).2 hqi
        have := (hiff q (by omega) hf).1 h1
        omega)
    rw [hsame] at how
    have hw : Region.wanted o (yielded ops a.tmps) = true := by simp [Region.wanted, hgd]
    simp only [hw, if_true]
    refine .inl (hM a w h hst.pub hst.size how opnd K Q (fun v w' h' B m hB how' hr => k _ _ ?_))
    refine ⟨h', (size_put _ _ _).trans hsz, (defers_put _ _ _).trans hdf, hst.then_ m hB, ⟨i + 1, hi, fun j hj hf => ?_, how'⟩, satO v w' h' m.le hr⟩
    have := hlow j hj hf
    by_cases e : j = i
    · subst e; simp
    · simp only [e, decide_false, Bool.false_or, this]; omega
/-- **A region in whatever order, in which some operations turn what is owned.** -/
theorem J.regM (hm : C.P.follows .mixedOrders = true) {id : Nat} {draw : Bool} (ss : List St) (l' : List OI) (hok : regOk C.n ops.size [] ops = true) (hch : chOk ops (ss.map (·.l.isSome)) = true) (hops : OpsM C ops ops.toList Γ l ss) (hl : lsT l ss ss.length = l') (k : E C .normal (envs Γ ops.toList (outsM ss)) l' Q) : J C Γ l (.region id ops draw) Q := fun a w h s => by
  have hlen := hops.len
  have hlo : (outsM ss).length = ops.size := by simp [outsM, hlen]
  refine regT hm (T := TM C ops Γ l ss) (fun i hi => (regOk_prs hok hi).1) ?_ (one_TM hok hch hops) ?_ ?_ ?_
  · rintro L L' a w hL ⟨h, h1, h2, h3, ⟨i, h4, h5, h6⟩, h7⟩
    exact ⟨h, h1, h2, h3, ⟨i, h4, fun j hj hf => by rw [← hL j hj]; exact h5 j hj hf, h6⟩, fun s => by rw [← env_congr (L := L) ops.size (fun j hj _ => hL j hj)]; exact h7 s⟩
  · rintro a' w' ⟨h', h1, h2, h3, ⟨i, h4, h5, h6⟩, h7⟩
    refine k a' w' h' ⟨h1, h2, h3, fun s => ?_, ?_⟩
    · have := h7 s
      rw [env_envs (by rw [hlo]; simp) ops.size (by omega)] at this
      rwa [List.take_of_length_le (by simp), List.take_of_length_le (by omega)] at this
    · rw [← hl]
      rw [show lsT l ss ss.length = lsT l ss i from ?_]
      · exact h6
      · refine (ls_same ss l i ss.length (by rw [hlen]; simpa using h4) (fun q hq hqs => ?_)).symm
        cases hf : fl ss q
        · rfl
        · have := (h5 q (by rw [hlen] at hqs; simpa using hqs) hf).1 rfl
          omega
  · rintro L a' w' ⟨h', h1, h2, h3, ⟨i, h4, h5, h6⟩, h7⟩
    have st : Step w' h' { w' with drawn := w'.drawn + 1 } h' := Step.same h3.pub ((Below.refl _ _).drew)
    exact ⟨h', h1, h2, h3.step_ st, ⟨i, h4, h5, h6.step st⟩, h7⟩
  · refine ⟨h, s.size, s.defers, s.step, ⟨0, Nat.zero_le _, fun j _ _ => by simp, by cases ss <;> exact s.own⟩, fun t => ?_⟩
    have e0 : ∀ n, env ops Γ (fun j => ((outsM ss).getD j (plain Rep.any)).R) (fun _ => false) n = Γ := by
      intro n
      induction n with
      | zero => rfl
      | succ n ih => unfold env; simpa using ih
    rw [e0]; exact s.sat t
/-- A region in the text's order. -/
theorem J.regL {id : Nat} {is : List Nat} (his : List.range ops.size = is) (h : JO C ops is Γ l Q) : J C Γ l (.region id ops false) Q := fun a w h' s => wp_region (by rw [his]; exact h a w h' s)
end
end Go.Proofs.YtdioiepkbolnlaaGreatDoor
