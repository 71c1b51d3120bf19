/- A region: its first operations in whatever order, some turning what is owned (these one behind the other), some giving what is new to own; then the others, each of which waits for all ahead of it. Nothing of the program is in it. -/
import Derived.Test.YtdioiepkbolnlaaGreatDoorN
set_option linter.unusedSimpArgs false
set_option linter.unnecessarySimpa false
set_option linter.unusedVariables false
namespace Go.Proofs.YtdioiepkbolnlaaGreatDoor
open Go.RowKit
section
variable {P : Program} {ops : Array Oper} {Q : Exit → Act → World → Prop} {T : (Nat → Bool) → Act → World → Prop} {nt m : Nat} {F : List Bool}
def OneX (P : Program) (ops : Array Oper) (m : Nat) (Q : Exit → Act → World → Prop) (T : (Nat → Bool) → Act → World → Prop) : Prop := ∀ (L : Nat → Bool) (i : Nat), Cl ops (fun j => L j = true) → i < m → L i = false → (∀ j ∈ prs ops i, L j = true) → ∀ a w, T L a w → ∀ K : Act → World → Prop, (∀ a' w', T (fun j => decide (j = i) || L j) a' w' → K a' w') → wpOp P ops Q i K a w
theorem wpAny_X (hok : regOk nt m F ops = true) (hcg : ∀ L L' a w, (∀ j, j < m → L j = L' j) → T L a w → T L' a w) (h1 : OneX P ops m Q T) (k : ∀ a w, T (fun _ => true) a w → wpOps P ops Q (List.range' m (ops.size - m)) a w) :
    ∀ (fuel : Nat) (listed : Array Bool) (l : List Nat) (a : Act) (w : World), listed.size = ops.size → l.length = fuel → l.Nodup → (∀ j, j < ops.size → (listed.getD j false = false ↔ j ∈ l ∨ m ≤ j)) → (∀ j ∈ l, j < m) →
      Cl ops (fun j => listed.getD j false = true) → T (fun j => listed.getD j false) a w → wpAny P .any ops Q (fuel + (ops.size - m)) listed a w := by
  have hm := regOk_le hok
  intro fuel
  induction fuel with
  | zero =>
    intro listed l a w hsz hl hnd hmem hlt hc st
    have : l = [] := List.eq_nil_of_length_eq_zero hl
    subst this
    have hall : ∀ j, j < ops.size → listed.getD j false = decide (j < m) := fun j hj => by
      cases e : listed.getD j false
      · rcases (hmem j hj).1 e with h1 | h1
        · cases h1
        · simp; omega
      · have : ¬ m ≤ j := fun h1 => by
          have := (hmem j hj).2 (.inr h1)
          rw [this] at e; cases e
        simp; omega
    rw [Nat.zero_add]
    exact wpAny_forced hok _ m listed a w (Nat.le_refl _) (by omega) hsz hall (k a w (hcg _ _ a w (fun j hj => by rw [hall j (by omega)]; simp [hj]) st))
  | succ fuel ih =>
    intro listed l a w hsz hl hnd hmem hlt hc st
    rw [show fuel + 1 + (ops.size - m) = (fuel + (ops.size - m)) + 1 by omega]
    have hne : Region.ready .any ops listed ≠ [] := by
      intro h0
      have : ∀ j, j < m → listed.getD j false = true := by
        intro j
        induction j using Nat.strongRecOn with
        | _ j ihj =>
          intro hj
          cases hlj : listed.getD j false
          · exfalso
            have : j ∈ Region.ready .any ops listed := rdy_mk hsz (by omega) hlj (fun p hp => by
              have := (regOk_prs hok (show j < ops.size by omega)).1 p hp
              exact ihj p this (by omega))
            rw [h0] at this; cases this
          · rfl
      match l, hl with
      | p :: l', _ =>
        have hp := hlt p List.mem_cons_self
        have h2 := (hmem p (by omega)).2 (.inl List.mem_cons_self)
        rw [this p hp] at h2; cases h2
    refine ⟨fun hr => absurd hr hne, fun i hi => ?_⟩
    obtain ⟨h3, h2, h4⟩ := rdy hsz hi
    have him : i < m := by
      rcases Nat.lt_or_ge i m with h' | h'
      · exact h'
      · exfalso
        match l, hl with
        | p :: l', _ =>
          have hp := hlt p List.mem_cons_self
          have hpl := ancs_in hc h4 p ((regOk_prs hok h3).2 h' p (by omega))
          have h2 := (hmem p (by omega)).2 (.inl List.mem_cons_self)
          rw [hpl] at h2; cases h2
    have hil : i ∈ l := by
      rcases (hmem i h3).1 h2 with h' | h'
      · exact h'
      · omega
    refine h1 _ i hc him h2 h4 a w st _ (fun a' w' st' => ?_)
    refine ih (listed.setIfInBounds i true) (l.erase i) a' w' (by simpa using hsz) ?_ (hnd.erase i) ?_ ?_ ?_ (hcg _ _ a' w' (fun j _ => (getD_set (by omega) j).symm) st')
    · rw [List.length_erase_of_mem hil, hl]; omega
    · intro j hj
      rw [getD_set (by omega), hnd.mem_erase_iff]
      by_cases e : j = i
      · subst e; simp; omega
      · simpa [e] using hmem j hj
    · intro j hj
      exact hlt j (List.mem_of_mem_erase hj)
    · intro j hj p hp
      show (listed.setIfInBounds i true).getD p false = true
      have hj : (listed.setIfInBounds i true).getD j false = true := hj
      rw [getD_set (by omega)] at hj ⊢
      by_cases e : j = i
      · subst e
        simp [h4 p hp]
      · have : listed.getD j false = true := by simpa [e] using hj
        have := hc j this p hp
        simp [show listed.getD p false = true from this]
theorem wpOps_X (hok : regOk nt m F ops = true) (hcg : ∀ L L' a w, (∀ j, j < m → L j = L' j) → T L a w → T L' a w) (h1 : OneX P ops m Q T) (k : ∀ a w, T (fun _ => true) a w → wpOps P ops Q (List.range' m (ops.size - m)) a w) :
    ∀ (r i : Nat) (a : Act) (w : World), i + r = m → T (fun j => decide (j < i)) a w → wpOps P ops Q (List.range' i (r + (ops.size - m))) a w := by
  have hm := regOk_le hok
  intro r
  induction r with
  | zero =>
    intro i a w him st
    have : i = m := by omega
    subst this
    rw [Nat.zero_add]
    exact k a w (hcg _ _ a w (fun j hj => by simp [hj]) st)
  | succ r ih =>
    intro i a w him st
    rw [show r + 1 + (ops.size - m) = (r + (ops.size - m)) + 1 by omega, List.range'_succ, wpOps_cons]
    refine h1 _ i ?_ (by omega) (by simp) ?_ a w st _ (fun a' w' st' => ?_)
    · intro j hj p hp
      have hj' : j < i := by simpa using hj
      have := (regOk_prs hok (show j < ops.size by omega)).1 p hp
      simp; omega
    · intro j hj
      have := (regOk_prs hok (show i < ops.size by omega)).1 j hj
      simpa using this
    · refine ih (i + 1) a' w' (by omega) (hcg _ _ a' w' (fun j _ => ?_) st')
      rw [Bool.eq_iff_iff]; simp; omega
theorem regX_ (hm : P.follows .mixedOrders = true) (hok : regOk nt m F ops = true) (hcg : ∀ L L' a w, (∀ j, j < m → L j = L' j) → T L a w → T L' a w) (h1 : OneX P ops m Q T) (k : ∀ a w, T (fun _ => true) a w → wpOps P ops Q (List.range' m (ops.size - m)) a w)
    (hd : ∀ L a w, T L a w → T L a { w with drawn := w.drawn + 1 }) {id : Nat} {draw : Bool} {a : Act} {w : World} (h0 : T (fun _ => false) a w) : (Code.region id ops draw).wp P Q a w := by
  have hle := regOk_le hok
  cases draw with
  | false =>
    refine wp_region ?_
    rw [List.range_eq_range']
    have := wpOps_X hok hcg h1 k m 0 a w (by omega) (hcg _ _ a w (fun j _ => by simp) h0)
    rw [show m + (ops.size - m) = ops.size by omega] at this
    exact this
  | true =>
    refine wp_region_any hm ?_
    have hf : ∀ j, (Array.replicate ops.size false).getD j false = false := by
      intro j
      rcases Nat.lt_or_ge j ops.size with h | h
      · simp [Array.getD_eq_getD_getElem?, h]
      · simp [Array.getD_eq_getD_getElem?, Nat.not_lt.2 h]
    have := wpAny_X hok hcg h1 k m (Array.replicate ops.size false) (List.range m) a _ (by simp) (by simp) List.nodup_range (fun j hj => by rw [hf j]; simp; omega) (fun j hj => by simpa using hj)
      (fun j hj => by have hj : (Array.replicate ops.size false).getD j false = true := hj
                      rw [hf] at hj; cases hj) (hd _ _ _ (hcg _ _ a w (fun j _ => (hf j).symm) h0))
    rw [show m + (ops.size - m) = ops.size by omega] at this
    exact this
end
structure Sx where
  u : Out
  l : Option (List OI)
def lsX (l : List OI) : List Sx → Nat → List OI
  | _, 0 => l
  | [], _ + 1 => l
  | s :: ss, n + 1 => lsX (s.l.getD l) ss n
/-- .. whatever else is owned beside. -/
def OpMF (C : Cx) (l l' : List OI) (o : Oper) (Γ : Nat → Rep) (R : Rep) : Prop := ∀ ml, OpM C (ml ++ l) (ml ++ l') o Γ R
def OpsX (C : Cx) (ops : Array Oper) : List Oper → (Nat → Rep) → List OI → List Sx → Prop
  | _, _, _, [] => True
  | o :: os, Γ, l, ⟨u, none⟩ :: ss => (∀ V, OpG C.P V ops o Γ u) ∧ OpsX C ops os (updO Γ o.dst u.R) l ss
  | o :: os, Γ, l, ⟨u, some l'⟩ :: ss => (o.guard = none ∧ u.own = false ∧ OpMF C l l' o Γ u.R) ∧ OpsX C ops os (updO Γ o.dst u.R) l' ss
  | [], _, _, _ :: _ => False
def flX (ss : List Sx) (j : Nat) : Bool := ((ss[j]?).map (·.l.isSome)).getD false
def chOkX (ops : Array Oper) (m : Nat) (F : List Bool) : Bool := (List.range m).all fun j => !F.getD j false || (List.range j).all fun i => !F.getD i false || (ancs ops j).contains i
def outsX (ss : List Sx) : List Out := ss.map (·.u)
theorem OpsX.len {C : Cx} {ops : Array Oper} : ∀ (os : List Oper) (Γ : Nat → Rep) (l : List OI) (ss : List Sx), OpsX C ops os Γ l ss → ss.length ≤ os.length
  | _, _, _, [], _ => Nat.zero_le _
  | [], _, _, _ :: _, h => absurd h (by simp [OpsX])
  | _ :: os, _, l, ⟨u, none⟩ :: ss, h => by simpa using OpsX.len os _ _ ss h.2
  | _ :: os, _, l, ⟨u, some l'⟩ :: ss, h => by simpa using OpsX.len os _ _ ss h.2
theorem OpsX.at_ {C : Cx} {ops : Array Oper} : ∀ (os : List Oper) (Γ : Nat → Rep) (l : List OI) (ss : List Sx), OpsX C ops os Γ l ss → ∀ i o, i < ss.length → os[i]? = some o → ∃ s : Sx, ss[i]? = some s ∧
    (match s.l with | none => ∀ V, OpG C.P V ops o (envs Γ (os.take i) ((outsX ss).take i)) s.u | some l' => o.guard = none ∧ s.u.own = false ∧ l' = lsX l ss (i + 1) ∧ OpMF C (lsX l ss i) l' o (envs Γ (os.take i) ((outsX ss).take i)) s.u.R)
  | _, _, _, [], _, i, o, hi, _ => by simp at hi
  | [], _, _, _ :: _, h, _, _, _, _ => absurd h (by simp [OpsX])
  | o' :: os, Γ, l, ⟨u, none⟩ :: ss, h, 0, o, _, ho => by
    have : o' = o := by simpa using ho
    subst this
    exact ⟨_, rfl, by simpa [envs] using h.1⟩
  | o' :: os, Γ, l, ⟨u, some l'⟩ :: ss, h, 0, o, _, ho => by
    have : o' = o := by simpa using ho
    subst this
    exact ⟨_, rfl, h.1.1, h.1.2.1, by simp [lsX], by simpa [envs, lsX] using h.1.2.2⟩
  | o' :: os, Γ, l, ⟨u, none⟩ :: ss, h, i + 1, o, hi, ho => by
    obtain ⟨s, h1, h2⟩ := OpsX.at_ os _ _ ss h.2 i o (by simpa using hi) (by simpa using ho)
    exact ⟨s, by simpa using h1, by simpa [envs, outsX, lsX] using h2⟩
  | o' :: os, Γ, l, ⟨u, some l'⟩ :: ss, h, i + 1, o, hi, ho => by
    obtain ⟨s, h1, h2⟩ := OpsX.at_ os _ _ ss h.2 i o (by simpa using hi) (by simpa using ho)
    exact ⟨s, by simpa using h1, by simpa [envs, outsX, lsX] using h2⟩
theorem lsX_same : ∀ (ss : List Sx) (l : List OI) (i j : Nat), i ≤ j → (∀ q, i ≤ q → q < j → flX ss q = false) → lsX l ss i = lsX l ss j
  | [], l, i, j, _, _ => by cases i <;> cases j <;> rfl
  | s :: ss, l, 0, 0, _, _ => rfl
  | s :: ss, l, i + 1, 0, h, _ => absurd h (by omega)
  | s :: ss, l, 0, j + 1, _, h => by
    have h0 := h 0 (by omega) (by omega)
    have : s.l = none := by simpa [flX] using h0
    show l = lsX (s.l.getD l) ss j
    rw [this]
    have := lsX_same ss l 0 j (by omega) (fun q hq hj => by simpa [flX] using h (q + 1) (by omega) (by omega))
    simpa [lsX] using this
  | s :: ss, l, i + 1, j + 1, hij, h => lsX_same ss _ i j (by omega) (fun q hq hj => by simpa [flX] using h (q + 1) (by omega) (by omega))
section
variable {C : Cx} {Γ : Nat → Rep} {l : List OI} {Q : Exit → Act → World → Prop} {ops : Array Oper} {ss : List Sx}
def UsX (ss : List Sx) (j : Nat) : Out := (outsX ss).getD j (plain Rep.any)
def TX (C : Cx) (ops : Array Oper) (Γ : Nat → Rep) (l : List OI) (ss : List Sx) (L : Nat → Bool) (a : Act) (w : World) : Prop := ∃ h, a.tmps.size = C.n ∧ a.defers = [] ∧ MStep C.B C.w0 C.h0 w h ∧
  (∃ i, i ≤ ss.length ∧ (∀ j, j < ss.length → flX ss j = true → (L j = true ↔ j < i)) ∧ ∃ ml, Owns C.lo (ml ++ lsX l ss i) w h ∧ ml.Perm (items ops (UsX ss) L ss.length a)) ∧ ∀ s, (env ops Γ (fun j => ((outsX ss).getD j (plain Rep.any)).R) L ss.length s).p h (tv a s)
theorem one_TX (hok : regOk C.n ss.length ((outsX ss).map (·.own)) ops = true) (hch : chOkX ops ss.length (ss.map (·.l.isSome)) = true) (hops : OpsX C ops ops.toList Γ l ss) : OneX C.P ops ss.length Q (TX C ops Γ l ss) := by
  intro L i hc hi hn hp a w st K k
  obtain ⟨h, hsz, hdf, hst, ⟨i0, hi0, hiff, ml, how, hml⟩, hsat⟩ := st
  have hm := regOk_le hok
  obtain ⟨o, ho⟩ : ∃ o, ops[i]? = some o := ⟨ops[i]'(by omega), Array.getElem?_eq_getElem (by omega)⟩
  obtain ⟨c2, c3, c4, c5⟩ := regOk_at hok hi ho
  have hg : gslot ops i = o.dst := by simp [gslot, ho]
  have agree : ∀ s ∈ slots ops o, ∀ j, j < ss.length → wr ops s j = true → j ≠ i → (L j = true ↔ j < i) := by
    intro s hs j hj hw hne
    obtain ⟨d1, d2⟩ := c4 s hs j hj hw hne
    constructor
    · intro hl
      rcases Nat.lt_or_ge j i with hlt | hge
      · exact hlt
      · have : L i = true := ancs_in hc (hc j hl) i (d2 (by omega))
        rw [this] at hn; cases hn
    · intro hlt
      exact ancs_in hc hp j (d1 hlt)
  have look : ∀ s ∈ slots ops o, env ops Γ (fun j => ((outsX ss).getD j (plain Rep.any)).R) L ss.length s = env ops Γ (fun j => ((outsX ss).getD j (plain Rep.any)).R) (fun _ => true) i s := by
    intro s hs
    rw [← env_trunc i ss.length (by omega)]
    refine env_congr _ (fun j hj hw => ?_)
    by_cases e : j = i
    · subst e; simp [hn]
    · have := agree s hs j hj hw e
      rw [Bool.eq_iff_iff]; simpa using this
  have hlo : (outsX ss).length = ss.length := by simp [outsX]
  have henv : env ops Γ (fun j => ((outsX ss).getD j (plain Rep.any)).R) (fun _ => true) i = envs Γ (ops.toList.take i) ((outsX ss).take i) := env_envs (by rw [hlo]; simpa using hm) i (by omega)
  obtain ⟨s, hs, hcase⟩ := OpsX.at_ _ _ _ _ hops i o hi (by simpa using ho)
  have hUi : UsX ss i = s.u := by simp [UsX, outsX, List.getD, hs]
  have hRi : ((outsX ss).getD i (plain Rep.any)).R = s.u.R := congrArg Out.R hUi
  have hfl : flX ss i = s.l.isSome := by simp [flX, hs]
  have hF : ∀ j, j < ss.length → (UsX ss j).own = ((outsX ss).map (·.own)).getD j false := fun j hj => by simp [UsX, outsX, List.getD, hj]
  have keep : ∀ (v : Value) t, o.dst ≠ some t → tv (a.put o.dst v) t = tv a t := by
    intro v t e
    cases hd : o.dst with
    | none => rfl
    | some d =>
      rw [tv_put a d t v (by rw [hsz]; exact c2 d hd), if_neg]
      intro e2; exact e (by rw [hd, e2])
  have satO : ∀ (v : Value) (h' : PH), PLe h h' → s.u.R.p h' v → ∀ t, (env ops Γ (fun j => ((outsX ss).getD j (plain Rep.any)).R) (fun j => decide (j = i) || L j) ss.length t).p h' (tv (a.put o.dst v) t) := by
    intro v h' hle hr t
    by_cases e : o.dst = some t
    · have hd : t < a.tmps.size := by rw [hsz]; exact c2 t e
      rw [e, tv_put a t t v hd, if_pos rfl]
      rw [env_last (i := i) (by rw [hg, e]) (by simp) ss.length hi]
      · show (((outsX ss).getD i (plain Rep.any)).R).p h' v
        rw [hRi]; exact hr
      · intro j h1 h2 hw
        have hs' : t ∈ slots ops o := by simp [slots, e]
        have := agree t hs' j h2 hw (by omega)
        have hne : j ≠ i := by omega
        simp only [hne, decide_false, Bool.false_or]
        cases hl : L j
        · rfl
        · have := this.1 hl; omega
    · rw [keep v t e]
      rw [env_congr (L' := L) ss.length (fun j hj hw => by
        by_cases e2 : j = i
        · subst e2
          have : gslot ops j = some t := by simpa [wr] using hw
          exact absurd (hg.symm.trans this) e
        · simp [e2])]
      exact (env ops Γ (fun j => ((outsX ss).getD j (plain Rep.any)).R) L ss.length t).mono hle (hsat t)
  have perm : ∀ (v : Value), ((UsX ss i).it v ++ ml).Perm (items ops (UsX ss) (fun j => decide (j = i) || L j) ss.length (a.put o.dst v)) := by
    intro v
    refine (List.Perm.append_left _ hml).trans ?_
    refine flatMap_perm _ _ _ i (List.range ss.length) List.nodup_range (List.mem_range.2 hi) (by simp [hn]) ?_ (fun j hj hne => ?_)
    · simp only [decide_true, Bool.true_or, if_true]
      by_cases hown : (UsX ss i).own = true
      · obtain ⟨⟨d, hd⟩, _⟩ := c5 (by rw [← hF i hi]; exact hown)
        have : dv ops (a.put o.dst v) i = v := by
          unfold dv; rw [hg, hd]
          show tv (a.put (some d) v) d = v
          rw [tv_put a d d v (by rw [hsz]; exact c2 d hd), if_pos rfl]
        rw [this]
      · simp [Out.it, hown]
    · simp only [hne, decide_false, Bool.false_or]
      cases hl : L j
      · rfl
      · simp only [if_true]
        by_cases hown : (UsX ss j).own = true
        · have hjm : j < ss.length := List.mem_range.1 hj
          obtain ⟨oj, hoj⟩ : ∃ o, ops[j]? = some o := ⟨ops[j]'(by omega), Array.getElem?_eq_getElem (by omega)⟩
          obtain ⟨_, _, _, c6⟩ := regOk_at hok hjm hoj
          obtain ⟨⟨d, hd⟩, h7⟩ := c6 (by rw [← hF j hjm]; exact hown)
          have hne2 := h7 i hi (Ne.symm hne)
          have hgj : gslot ops j = some d := by simp [gslot, hoj, hd]
          have : dv ops (a.put o.dst v) j = dv ops a j := by
            unfold dv; rw [hgj]
            exact keep v d (fun e => hne2 (by rw [hg, e, hd]))
          rw [this]
        · simp [Out.it, hown]
  have opnd : ∀ x, x ∈ o.op.operands.toList → (opd (envs Γ (ops.toList.take i) ((outsX ss).take i)) x).p h (a.eval x) := by
    intro x hx
    cases x with
    | tmp q =>
      have hq : q ∈ slots ops o := List.mem_append_left _ (List.mem_append_left _ (List.mem_filterMap.2 ⟨_, hx, rfl⟩))
      have := hsat q
      rw [look q hq, henv] at this
      exact this
    | const v => rfl
    | global g => rfl
    | func f => rfl
  unfold wpOp
  simp only [ho]
  cases hsl : s.l with
  | none =>
    rw [hsl] at hcase hfl
    have hfl : flX ss i = false := by simpa using hfl
    have fin : ∀ (v : Value) (w' : World) (h' : PH), Step w h w' h' → s.u.R.p h' v → Owns (w.heap.size ≤ ·) (s.u.it v) w' h' → TX C ops Γ l ss (fun j => decide (j = i) || L j) (a.put o.dst v) w' := fun v w' h' hs' hr hown =>
      ⟨h', (size_put _ _ _).trans hsz, (defers_put _ _ _).trans hdf, hst.step_ hs', ⟨i0, hi0, fun j hj hf => by
        have : j ≠ i := fun e => by subst e; rw [hfl] at hf; cases hf
        simpa [this] using hiff j hj hf, (UsX ss i).it v ++ ml, by
          rw [List.append_assoc, hUi]
          exact (how.step hs').app hown (fun b hb => .inl (Nat.le_trans hst.size hb)) (fun I hI b hb => I.lt (how.1 I hI).1 b hb), perm v⟩, satO v h' hs'.le hr⟩
    have nothing : ∀ R u, Owns (w.heap.size ≤ ·) ((plain R).it u) w h := fun _ _ => Owns.nil _ _ _
    have hops' := hcase (fun _ _ => True)
    unfold OpG at hops'
    cases hgd : o.guard with
    | none =>
      rw [hgd] at hops'
      have hw : Region.wanted o (yielded ops a.tmps) = true := by simp [Region.wanted, hgd]
      simp only [hw, if_true]
      exact .inl (hops' a w h hst.pub trivial opnd K Q (fun v w' h' hs hr hown => k _ _ (fin v w' h' hs hr hown)))
    | some gb =>
      obtain ⟨g, want⟩ := gb
      rw [hgd] at hops'
      obtain ⟨d, q, B, R', hd, hb, hR, hC⟩ := hops'
      have hit : ∀ v, s.u.it v = [] := fun v => by rw [hR]; rfl
      have hR : s.u.R = Rep.cond (q ∧ B = want) R' := congrArg Out.R hR
      have hs : d ∈ slots ops o := by
        refine List.mem_append_left _ (List.mem_append_right _ ?_)
        simp only [hgd]
        simpa [gslot] using hd
      have hv := hsat d
      rw [look d hs, henv] at hv
      obtain ⟨e1, e2⟩ := hb h _ hv
      have hdl : d < a.tmps.size := by
        rw [hsz]
        have hgi := c3 g want hgd
        obtain ⟨og, hog, hdd⟩ : ∃ og, ops[g]? = some og ∧ og.dst = some d := by
          unfold gslot at hd
          cases hx : ops[g]? with
          | none => simp [hx] at hd
          | some og => exact ⟨og, rfl, by simpa [hx] using hd⟩
        exact (regOk_at hok (by omega) hog).1 d hdd
      have hy : yielded ops a.tmps g = match some (tv a d) with | some (.bool b) => some b | _ => none := by
        unfold yielded
        rw [show (ops[g]?).bind (·.dst) = some d from hd]
        have : (some d).bind (fun x => a.tmps[x]?) = some (tv a d) := by simp [tv, hdl]
        rw [this]
        generalize tv a d = u
        cases u <;> rfl
      by_cases hq : q
      · have e1 := e1 hq
        rw [e1] at hy
        by_cases hbw : B = want
        · have hw : Region.wanted o (yielded ops a.tmps) = true := by simp [Region.wanted, hgd, hy, hbw]
          simp only [hw, if_true]
          refine .inl (hC hq hbw a w h hst.pub trivial opnd K Q (fun v w' h' hs hr _ => k _ _ (fin v w' h' hs ?_ (by rw [hit]; exact Owns.nil _ _ _))))
          rw [hR]
          exact ⟨fun _ => hr, fun hn => absurd ⟨hq, hbw⟩ hn⟩
        · have hw : Region.wanted o (yielded ops a.tmps) = false := by simp [Region.wanted, hgd, hy, hbw]
          simp only [hw]
          refine k _ _ (fin _ _ _ (Step.refl hst.pub) ?_ (by rw [hit]; exact Owns.nil _ _ _))
          rw [hR]
          exact ⟨fun hn => absurd hn.2 hbw, fun _ => rfl⟩
      · have e2 := e2 hq
        rw [e2] at hy
        have hw : Region.wanted o (yielded ops a.tmps) = false := by simp [Region.wanted, hgd, hy, undef]
        simp only [hw]
        refine k _ _ (fin _ _ _ (Step.refl hst.pub) ?_ (by rw [hit]; exact Owns.nil _ _ _))
        rw [hR]
        exact ⟨fun hn => absurd hn.1 hq, fun _ => rfl⟩
  | some l' =>
    rw [hsl] at hcase hfl
    have hfl : flX ss i = true := by simpa using hfl
    obtain ⟨hgd, hno, rfl, hM⟩ := hcase
    have hF' : ∀ j, flX ss j = (ss.map (·.l.isSome)).getD j false := fun j => by
      unfold flX
      by_cases hj : j < ss.length <;> simp [List.getD, hj]
    have chain : ∀ j q, q < ss.length → j < q → flX ss j = true → flX ss q = true → j ∈ ancs ops q := by
      intro j q hq hj h1 h2
      have := (List.all_eq_true.1 hch) q (List.mem_range.2 hq)
      rw [← hF' q, h2] at this
      simp only [Bool.not_true, Bool.false_or] at this
      have := (List.all_eq_true.1 this) j (List.mem_range.2 hj)
      rw [← hF' j, h1] at this
      simpa using this
    have hge : i0 ≤ i := by
      rcases Nat.lt_or_ge i i0 with hlt | hge
      · have := (hiff i hi hfl).2 hlt
        rw [this] at hn; cases hn
      · exact hge
    have hlow : ∀ j, j < ss.length → flX ss j = true → (L j = true ↔ j < i) := by
      intro j hj hf
      constructor
      · intro hl
        have := (hiff j hj hf).1 hl
        omega
      · intro hlt
        exact ancs_in hc hp j (chain j i hi hlt hf hfl)
    have hsame : lsX l ss i0 = lsX l ss i := lsX_same ss l i0 i hge (fun q hq hqi => by
      cases hf : flX ss q
      · rfl
      · have h1 := (hlow q (by omega) hf).2 hqi
        have := (hiff q (by omega) hf).1 h1
        omega)
    rw [hsame] at how
    have hw : Region.wanted o (yielded ops a.tmps) = true := by simp [Region.wanted, hgd]
    simp only [hw, if_true]
    refine .inl (hM ml a w h hst.pub hst.size how opnd K Q (fun v w' h' B m hB how' hr => k _ _ ?_))
    refine ⟨h', (size_put _ _ _).trans hsz, (defers_put _ _ _).trans hdf, hst.then_ m hB, ⟨i + 1, hi, fun j hj hf => ?_, ml, how', ?_⟩, satO v h' m.le hr⟩
    · have := hlow j hj hf
      by_cases e : j = i
      · subst e; simp
      · simp only [e, decide_false, Bool.false_or, this]; omega
    · have := perm v
      rw [hUi] at this
      have h0 : s.u.it v = [] := by simp [Out.it, hno]
      rw [h0] at this; exact this
/-- **A region.** -/
theorem J.regX (hm : C.P.follows .mixedOrders = true) {id : Nat} {draw : Bool} {is : List Nat} (ss : List Sx) (l' : List OI) (hok : regOk C.n ss.length ((outsX ss).map (·.own)) ops = true) (hch : chOkX ops ss.length (ss.map (·.l.isSome)) = true) (hops : OpsX C ops ops.toList Γ l ss) (hl : lsX l ss ss.length = l') (his : List.range' ss.length (ops.size - ss.length) = is)
    (k : ∀ a w h ml, SS C (envs Γ ops.toList (outsX ss)) (ml ++ l') a w h → ml.Perm (outs ops a (outsX ss)) → wpOps C.P ops Q is a w) : J C Γ l (.region id ops draw) Q := fun a w h s => by
  have hle := regOk_le hok
  have hlo : (outsX ss).length = ss.length := by simp [outsX]
  refine regX_ hm hok (T := TX C ops Γ l ss) ?_ (one_TX hok hch hops) ?_ ?_ ?_
  · rintro L L' a w hL ⟨h, h1, h2, h3, ⟨i, h4, h5, ml, h6, h8⟩, h7⟩
    refine ⟨h, h1, h2, h3, ⟨i, h4, fun j hj hf => by rw [← hL j hj]; exact h5 j hj hf, ml, h6, h8.trans (List.Perm.of_eq ?_)⟩, fun s => by rw [← env_congr (L := L) ss.length (fun j hj _ => hL j hj)]; exact h7 s⟩
    unfold items
    have hh : ∀ l : List Nat, (∀ j ∈ l, j < ss.length) → (l.flatMap fun j => if L j then (UsX ss j).it (dv ops a j) else []) = (l.flatMap fun j => if L' j then (UsX ss j).it (dv ops a j) else []) := by
      intro l
      induction l with
      | nil => intro _; rfl
      | cons b l ih => intro hl; rw [List.flatMap_cons, List.flatMap_cons, hL b (hl b List.mem_cons_self), ih (fun j hj => hl j (List.mem_cons_of_mem _ hj))]
    exact hh _ (fun j hj => List.mem_range.1 hj)
  · rintro a' w' ⟨h', h1, h2, h3, ⟨i, h4, h5, ml, h6, h8⟩, h7⟩
    rw [his]
    refine k a' w' h' ml ⟨h1, h2, h3, fun s => ?_, ?_⟩ ?_
    · have := h7 s
      rw [env_envs (by rw [hlo]; simpa using hle) ss.length (by omega)] at this
      rw [List.take_of_length_le (l := outsX ss) (by omega)] at this
      have e : ∀ (l : List Oper) (us : List Out) (Γ : Nat → Rep), us.length ≤ l.length → envs Γ (l.take us.length) us = envs Γ l us := by
        intro l us
        induction us generalizing l with
        | nil => intro Γ _; cases l <;> rfl
        | cons u us ih =>
          intro Γ hl
          cases l with
          | nil => simp at hl
          | cons o l => simp only [List.length_cons, List.take_succ_cons, envs]; exact ih l _ (by simpa using hl)
      have e1 := e ops.toList (outsX ss) Γ (by rw [hlo]; simpa using hle)
      rw [hlo] at e1
      rw [e1] at this
      exact this
    · rw [← hl]
      rw [show lsX l ss ss.length = lsX l ss i from ?_]
      · exact h6
      · refine (lsX_same ss l i ss.length h4 (fun q hq hqs => ?_)).symm
        cases hf : flX ss q
        · rfl
        · have := (h5 q hqs hf).1 rfl
          omega
    · unfold outs
      rw [hlo]; exact h8
  · rintro L a' w' ⟨h', h1, h2, h3, ⟨i, h4, h5, ml, h6, h8⟩, h7⟩
    have st : Step w' h' { w' with drawn := w'.drawn + 1 } h' := Step.same h3.pub ((Below.refl _ _).drew)
    exact ⟨h', h1, h2, h3.step_ st, ⟨i, h4, h5, ml, h6.step st, h8⟩, h7⟩
  · have i0 : items ops (UsX ss) (fun _ => false) ss.length a = [] := by
      unfold items
      induction List.range ss.length with
      | nil => rfl
      | cons b l ih => simpa using ih
    refine ⟨h, s.size, s.defers, s.step, ⟨0, Nat.zero_le _, fun j _ _ => by simp, [], by cases ss <;> exact s.own, by rw [i0]⟩, fun t => ?_⟩
    have e0 : ∀ n, env ops Γ (fun j => ((outsX ss).getD j (plain Rep.any)).R) (fun _ => false) n = Γ := by
      intro n
      induction n with
      | zero => rfl
      | succ n ih => unfold env; simpa using ih
    rw [e0]; exact s.sat t
theorem J.regX0 (hm : C.P.follows .mixedOrders = true) {id : Nat} {draw : Bool} (ss : List Sx) (l' : List OI) (is : List Nat) (hok : regOk C.n ss.length ((outsX ss).map (·.own)) ops = true) (hch : chOkX ops ss.length (ss.map (·.l.isSome)) = true) (hu : (outsX ss).all (fun u => !u.own) = true) (hops : OpsX C ops ops.toList Γ l ss) (hl : lsX l ss ss.length = l') (his : List.range' ss.length (ops.size - ss.length) = is)
    (k : JO C ops is (envs Γ ops.toList (outsX ss)) l' Q) : J C Γ l (.region id ops draw) Q := J.regX hm ss l' hok hch hops hl his fun a w h ml s hp => by
  rw [items_plain ops (outsX ss) hu a] at hp
  have := hp.eq_nil
  subst this
  exact k a w h s
theorem J.regX1 (hm : C.P.follows .mixedOrders = true) {id : Nat} {draw : Bool} (d : Nat) {f : FP} (ss : List Sx) (l' : List OI) (is : List Nat) (hok : regOk C.n ss.length ((outsX ss).map (·.own)) ops = true) (hch : chOkX ops ss.length (ss.map (·.l.isSome)) = true) (hq : ∀ a, outs ops a (outsX ss) = blkOf f (tv a d) ++ []) (hd : Ent (envs Γ ops.toList (outsX ss) d) isPb) (hops : OpsX C ops ops.toList Γ l ss) (hl : lsX l ss ss.length = l') (his : List.range' ss.length (ops.size - ss.length) = is)
    (k : ∀ b, JO C ops is (upd (envs Γ ops.toList (outsX ss)) d (Rep.is (pb b 0))) (blkI b f :: l') Q) : J C Γ l (.region id ops draw) Q := J.regX hm ss l' hok hch hops hl his fun a w h ml s hp => by
  obtain ⟨b, hb⟩ := hd _ _ (s.sat d)
  rw [hq, hb] at hp
  have : (ml ++ l').Perm (blkI b f :: l') := by
    have := hp.append_right l'
    simpa [blkOf] using this
  exact k b a w h ((s.own' (s.own.perm this)).upd hb)
end
section
variable {C : Cx} {Γ : Nat → Rep} {l l1 l2 : List OI} {o : Oper} {t t' : TypeId} {x y : Operand}
theorem OpMF.store {f f' g : FP} {b q : Nat} (ho : o.op = .store t x y) (hx : Ent (opd Γ x) (Rep.is (pb b q))) (hy : Ent (opd Γ y) g.rep) (hs : (C.P.info? t).map (·.size) = some g.n) (ht : Turn f q g f') : OpMF C (l1 ++ blkI b f :: l2) (l1 ++ blkI b f' :: l2) o Γ Rep.any := fun ml => by
  have := OpM.store (C := C) (l1 := ml ++ l1) (l2 := l2) ho hx hy hs ht
  rwa [List.append_assoc, List.append_assoc] at this
theorem OpMF.callg {I I' : OI} {f : FuncId} {g : Operand} {args : Array Operand} {ts : Array TypeId} {Rs Cs : List Rep} {R : Rep} (ho : o.op = .call ⟨.value g, args, ts⟩) (en : Enters C.P f) (hc : CtM C.P f (Rs ++ Cs) [I] [I'] R) (hg : Ent (opd Γ g) (clo f Cs)) (ha : EntsO Γ args.toList Rs) : OpMF C (l1 ++ I :: l2) (l1 ++ I' :: l2) o Γ R := fun ml => by
  have := OpM.callg (C := C) (l1 := ml ++ l1) (l2 := l2) ho en hc hg ha
  rwa [List.append_assoc, List.append_assoc] at this
theorem OpMF.call {I I' : OI} {f : FuncId} {args : Array Operand} {ts : Array TypeId} {Rs : List Rep} {R : Rep} (ho : o.op = .call ⟨.value (.func f), args, ts⟩) (en : Enters C.P f) (hc : CtM C.P f Rs [I] [I'] R) (ha : EntsO Γ args.toList Rs) : OpMF C (l1 ++ I :: l2) (l1 ++ I' :: l2) o Γ R := fun ml => by
  have := OpM.call (C := C) (l1 := ml ++ l1) (l2 := l2) ho en hc ha
  rwa [List.append_assoc, List.append_assoc] at this
theorem OpMF.ofC {R : Rep} (hop : OpC C.P (Vo C l) o Γ (plain R)) : OpMF C l l o Γ R := fun ml a w h hp hs how hx K Q k =>
  hop a w h hp (how.sub (List.sublist_append_right ml l)) hx K Q fun v w' h' st hR _ => k v w' h' (fun _ => False) (st.m _) (fun _ e => e.elim) (how.step st) hR
end
end Go.Proofs.YtdioiepkbolnlaaGreatDoor
