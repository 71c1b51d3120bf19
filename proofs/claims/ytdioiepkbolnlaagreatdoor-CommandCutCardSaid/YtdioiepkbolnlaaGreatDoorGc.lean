/- Commands and answers: there and back; cut short; with bytes behind. In plain Lean. -/
import Derived.Test.YtdioiepkbolnlaaGreatDoorGl
set_option linter.unusedSimpArgs false
set_option linter.unusedVariables false
namespace Go.Proofs.YtdioiepkbolnlaaGreatDoor
open Go.RowKit
/-! #### there and back -/
theorem bit_in (b : Bool) : (0 ≤ bit b ∧ bit b ≤ 1) ∧ bit b ≤ 9223372036854775807 := by cases b <;> decide
theorem bit_one (b : Bool) : decide (bit b = 1) = b := by cases b <;> decide
structure GIn (g : Grant) : Prop where
  rts : In64 g.rts
  unt : In64 g.unt
structure TIn (t : Token) : Prop where
  id_ : In64 t.id_
  grs : ∀ g ∈ t.grs, GIn g
  mac : t.mac.length = 32
structure CIn (c : Command) : Prop where
  kind : In64 c.kind
  tok : TIn c.tok
  exp : In64 c.exp
  fro : In64 c.fro
  cnt : In64 c.cnt
  gra : GIn c.gra
  cid : In64 c.cid
  bod : ∀ b ∈ c.bod, b.length ≤ 140737488351232
structure SIn (s : Shown) : Prop where
  ver : In64 s.ver
  pos : In64 s.pos
  code : In64 s.code
structure EIn (e : Entry) : Prop where
  no : In64 e.no
  clock : In64 e.clock
  kind : In64 e.kind
  code : In64 e.code
  eid : In64 e.eid
  sum : e.sum.length = 32
structure AIn (a : Answer) : Prop where
  code : In64 a.code
  num : In64 a.num
  shown : ∀ s ∈ a.shown, SIn s
  tok : TIn a.tok
  ents : ∀ e ∈ a.ents, EIn e
theorem gr_dead : Dead grS := ((int_dead.seq (blob_dead 24)).seq (cnt_dead 1)).seq int_dead
theorem gr_st {g : Grant} (h : g.pre.size ≤ 24) : Rst grS (grantB g) := by
  have := ((((int_st g.rts).seq (text_st (s := g.pre) (m := 24) (by omega) (by decide)) (blob_dead 24)).seq (cnt_st (bit_in g.exa).1 (bit_in g.exa).2) (cnt_dead 1)).seq (int_st g.unt) int_dead)
  unfold grantB
  simp only [List.append_assoc] at this
  exact this
theorem gr_rv {g : Grant} (h : g.pre.size ≤ 24) (hi : GIn g) : RV grV (grantB g) g := fun y => by
  unfold grV grantB
  simp only [List.append_assoc]
  have t1 := text_st (s := g.pre) (m := 24) (by omega) (by decide)
  have t2 := text_rv (s := g.pre) (m := 24) (by omega) (by decide)
  have c1 := cnt_st (bit_in g.exa).1 (bit_in g.exa).2
  have c2 := cnt_rv (bit_in g.exa).1 (bit_in g.exa).2
  rw [int_rv hi.rts, (int_st g.rts).full, show textV ⟨_, 0⟩ 24 = _ from t2 _, show blobS ⟨_, 0⟩ 24 = _ from t1.full _, show cntV ⟨_, 0⟩ 1 = _ from c2 _, show cntS ⟨_, 0⟩ 1 = _ from c1.full _, int_rv hi.unt, bit_one]
theorem tok_dead : Dead tokS := (((blob_dead 24).seq int_dead).seq (rows_dead gr_dead 6)).seq sum_dead
structure TFit (t : Token) : Prop where
  ten : t.ten.size ≤ 24
  grs : t.grs.length ≤ 6
  pre : ∀ g ∈ t.grs, g.pre.size ≤ 24
theorem tok_st {t : Token} (h : TFit t) (hm : t.mac.length = 32) : Rst tokS (tokB t) := by
  have := ((((text_st (s := t.ten) (m := 24) (by have := h.ten; omega) (by decide)).seq (int_st t.id_) int_dead).seq (rows_st (f := grantB) (l := t.grs) gr_dead (m := 6) (by have := h.grs; omega) (by decide) (fun g hg => gr_st (h.pre g hg))) (rows_dead gr_dead 6)).seq (sum_st hm) sum_dead)
  unfold rowsB at this
  unfold tokB
  simp only [List.append_assoc] at this
  exact this
theorem tok_rv {t : Token} (h : TFit t) (hi : TIn t) : RV tokV (tokB t) t := fun y => by
  have hs : tokS ⟨tokB t ++ y, 0⟩ = ⟨y, 0⟩ := (tok_st h hi.mac).full y
  unfold tokV
  rw [hs, if_neg (by simp [badR])]
  unfold tokV0 tok3 tok2 tok1
  rw [show tokB t ++ y = txt t.ten ++ (num8 t.id_ ++ (rowsB grantB t.grs ++ (t.mac ++ y))) by unfold tokB rowsB; simp only [List.append_assoc]]
  have a1 : blobS ⟨txt t.ten ++ (num8 t.id_ ++ (rowsB grantB t.grs ++ (t.mac ++ y))), 0⟩ 24 = _ := (text_st (s := t.ten) (m := 24) (by have := h.ten; omega) (by decide)).full _
  have a2 : textV ⟨txt t.ten ++ (num8 t.id_ ++ (rowsB grantB t.grs ++ (t.mac ++ y))), 0⟩ 24 = _ := text_rv (s := t.ten) (m := 24) (by have := h.ten; omega) (by decide) _
  have a3 : rowsS grS ⟨rowsB grantB t.grs ++ (t.mac ++ y), 0⟩ 6 = _ := (rows_st (f := grantB) (l := t.grs) gr_dead (m := 6) (by have := h.grs; omega) (by decide) (fun g hg => gr_st (h.pre g hg))).full _
  have a4 : rowsV grV grS ⟨rowsB grantB t.grs ++ (t.mac ++ y), 0⟩ 6 = _ := rows_rv (f := grantB) (l := t.grs) (m := 6) (by have := h.grs; omega) (by decide) (fun g hg => ⟨gr_st (h.pre g hg), gr_rv (h.pre g hg) (hi.grs g hg)⟩) _
  rw [a1, a2, int_rv hi.id_, (int_st _).full, a4, a3, sum_rv hi.mac]
theorem bod_st {b : List UInt8} (h : b.length ≤ 256) : Rst bodS (blob b) := blob_st (by omega) (by decide)
theorem bod_rv {b : List UInt8} (h : b.length ≤ 256) : RV bodV (blob b) b := blob_rv (by omega) (by decide)
theorem bod_dead : Dead bodS := blob_dead 256
structure CFit (c : Command) : Prop where
  tok : TFit c.tok
  str : c.str.size ≤ 24
  sub : c.sub.size ≤ 24
  bod : c.bod.length ≤ 4
  one : ∀ b ∈ c.bod, b.length ≤ 256
  pre : c.gra.pre.size ≤ 24
theorem cm_st {c : Command} (h : CFit c) (hm : c.tok.mac.length = 32) : Rst cm13 (cmdB c) := by
  have t1 := text_st (s := c.str) (m := 24) (by have := h.str; omega) (by decide)
  have t2 := text_st (s := c.sub) (m := 24) (by have := h.sub; omega) (by decide)
  have t3 := text_st (s := c.gra.pre) (m := 24) (by have := h.pre; omega) (by decide)
  have r1 := rows_st (f := blob) (l := c.bod) bod_dead (m := 4) (by have := h.bod; omega) (by decide) (fun b hb => bod_st (h.one b hb))
  have e1 := cnt_st (bit_in c.gra.exa).1 (bit_in c.gra.exa).2
  have := (int_st c.kind).seq (tok_st h.tok hm) tok_dead
  have := this.seq t1 (blob_dead 24)
  have := this.seq t2 (blob_dead 24)
  have := this.seq (int_st c.exp) int_dead
  have := this.seq r1 (rows_dead bod_dead 4)
  have := this.seq (int_st c.fro) int_dead
  have := this.seq (int_st c.cnt) int_dead
  have := this.seq (int_st c.gra.rts) int_dead
  have := this.seq t3 (blob_dead 24)
  have := this.seq e1 (cnt_dead 1)
  have := this.seq (int_st c.gra.unt) int_dead
  have := this.seq (int_st c.cid) int_dead
  unfold cmdB
  simp only [List.append_assoc] at this
  exact this
theorem cm_rv {c : Command} (h : CFit c) (hi : CIn c) : RV cmd0 (cmdB c) c := fun y => by
  have t1 := text_st (s := c.str) (m := 24) (by have := h.str; omega) (by decide)
  have t2 := text_st (s := c.sub) (m := 24) (by have := h.sub; omega) (by decide)
  have t3 := text_st (s := c.gra.pre) (m := 24) (by have := h.pre; omega) (by decide)
  have v1 := text_rv (s := c.str) (m := 24) (by have := h.str; omega) (by decide)
  have v2 := text_rv (s := c.sub) (m := 24) (by have := h.sub; omega) (by decide)
  have v3 := text_rv (s := c.gra.pre) (m := 24) (by have := h.pre; omega) (by decide)
  have r1 := rows_st (f := blob) (l := c.bod) bod_dead (m := 4) (by have := h.bod; omega) (by decide) (fun b hb => bod_st (h.one b hb))
  have r2 := rows_rv (f := blob) (V := bodV) (S := bodS) (l := c.bod) (m := 4) (by have := h.bod; omega) (by decide) (fun b hb => ⟨bod_st (h.one b hb), bod_rv (h.one b hb)⟩)
  have e1 := cnt_st (bit_in c.gra.exa).1 (bit_in c.gra.exa).2
  have e2 := cnt_rv (bit_in c.gra.exa).1 (bit_in c.gra.exa).2
  unfold cmd0 cm12 cm11 cm10 cm9 cm8 cm7 cm6 cm5 cm4 cm3 cm2 cm1 cmdB
  simp only [List.append_assoc]
  rw [int_rv hi.kind, (int_st c.kind).full, tok_rv h.tok hi.tok, (tok_st h.tok hi.tok.mac).full, show textV ⟨_, 0⟩ 24 = _ from v1 _, show blobS ⟨_, 0⟩ 24 = _ from t1.full _, show textV ⟨_, 0⟩ 24 = _ from v2 _, show blobS ⟨_, 0⟩ 24 = _ from t2.full _, int_rv hi.exp, (int_st c.exp).full, show rowsV bodV bodS ⟨_, 0⟩ 4 = _ from r2 _, show rowsS bodS ⟨_, 0⟩ 4 = _ from r1.full _, int_rv hi.fro, (int_st c.fro).full, int_rv hi.cnt, (int_st c.cnt).full, int_rv hi.gra.rts, (int_st c.gra.rts).full, show textV ⟨_, 0⟩ 24 = _ from v3 _, show blobS ⟨_, 0⟩ 24 = _ from t3.full _, show cntV ⟨_, 0⟩ 1 = _ from e2 _, show cntS ⟨_, 0⟩ 1 = _ from e1.full _, int_rv hi.gra.unt, (int_st c.gra.unt).full, int_rv hi.cid, bit_one]
theorem longT_fit {t : Token} (h : longT t = false) (hg : t.grs.length ≤ 6) : TFit t := ⟨(longT_size h).1, hg, (longT_size h).2⟩
theorem checkC_cfit {c : Command} (h : checkC c = 0) : CFit c := by
  have hf := checkC_fit h
  unfold checkC at h
  split at h
  · cases h
  split at h
  · cases h
  split at h
  · cases h
  rename_i k3
  split at h
  · cases h
  rename_i k4
  split at h
  · cases h
  rename_i k5
  simp only [Bool.not_eq_true, Bool.or_eq_false_iff, decide_eq_false_iff_not] at k5
  refine ⟨longT_fit k5.2 hf.grs, hf.str, hf.sub, hf.bod, fun b hb => ?_, hf.pre⟩
  have := List.any_eq_false.1 k5.1 b hb
  simp only [great, decide_eq_true_eq] at this
  omega
theorem get_put {c : Command} (h : checkC c = 0) (hi : CIn c) : getE (cmdB c) = 0 ∧ getV (cmdB c) = c := by
  have hf := checkC_cfit h
  have h1 : cm13 ⟨cmdB c, 0⟩ = ⟨[], 0⟩ := by have := (cm_st hf hi.tok.mac).full []; rwa [List.append_nil] at this
  have h2 : cmd0 ⟨cmdB c, 0⟩ = c := by have := cm_rv hf hi []; rwa [List.append_nil] at this
  have h3 : getE (cmdB c) = 0 := by unfold getE; rw [h1, h2]; simp [endR, h]
  exact ⟨h3, by unfold getV; rw [if_pos h3, h2]⟩
theorem get_cut {c : Command} (h : checkC c = 0) (hm : c.tok.mac.length = 32) {n : Nat} (hn : n < (cmdB c).length) : getE ((cmdB c).take n) = 4 := by
  have h1 := (cm_st (checkC_cfit h) hm) [] n
  rw [List.append_nil, if_neg (by omega)] at h1
  unfold getE; rw [h1]; simp [endR]
theorem get_more {c : Command} (h : checkC c = 0) (hi : CIn c) (y : List UInt8) : getE (cmdB c ++ y) = if y = [] then 0 else 5 := by
  by_cases hy : y = []
  · subst hy; rw [List.append_nil, if_pos rfl]; exact (get_put h hi).1
  · have h1 := (cm_st (checkC_cfit h) hi.tok.mac).full y
    have h0 : 0 < y.length := List.length_pos_iff.2 hy
    unfold getE; rw [h1, if_neg hy]; simp [endR, h0]
/-! answers -/
theorem sh_dead : Dead shS := by
  have := (((((blob_dead 24).seq (blob_dead 24)).seq int_dead).seq int_dead).seq int_dead).seq (blob_dead 256)
  exact this
structure SFit (s : Shown) : Prop where
  str : s.str.size ≤ 24
  sub : s.sub.size ≤ 24
  body : s.body.length ≤ 256
theorem sh_st {s : Shown} (h : SFit s) : Rst shS (shownB s) := by
  have t1 := text_st (s := s.str) (m := 24) (by have := h.str; omega) (by decide)
  have t2 := text_st (s := s.sub) (m := 24) (by have := h.sub; omega) (by decide)
  have b1 := blob_st (p := s.body) (m := 256) (by have := h.body; omega) (by decide)
  have := ((((t1.seq t2 (blob_dead 24)).seq (int_st s.ver) int_dead).seq (int_st s.pos) int_dead).seq (int_st s.code) int_dead).seq b1 (blob_dead 256)
  unfold shownB
  simp only [List.append_assoc] at this
  exact this
theorem sh_rv {s : Shown} (h : SFit s) (hi : SIn s) : RV shV (shownB s) s := fun y => by
  have t1 := text_st (s := s.str) (m := 24) (by have := h.str; omega) (by decide)
  have t2 := text_st (s := s.sub) (m := 24) (by have := h.sub; omega) (by decide)
  have v1 := text_rv (s := s.str) (m := 24) (by have := h.str; omega) (by decide)
  have v2 := text_rv (s := s.sub) (m := 24) (by have := h.sub; omega) (by decide)
  have b1 := blob_rv (p := s.body) (m := 256) (by have := h.body; omega) (by decide)
  unfold shV shownB
  simp only [List.append_assoc]
  rw [show textV ⟨_, 0⟩ 24 = _ from v1 _, show blobS ⟨_, 0⟩ 24 = _ from t1.full _, show textV ⟨_, 0⟩ 24 = _ from v2 _, show blobS ⟨_, 0⟩ 24 = _ from t2.full _, int_rv hi.ver, (int_st s.ver).full, int_rv hi.pos, (int_st s.pos).full, int_rv hi.code, (int_st s.code).full, show blobV ⟨_, 0⟩ 256 = _ from b1 _]
theorem en_dead : Dead enS := by
  have := ((((((int_dead.seq int_dead).seq int_dead).seq int_dead).seq int_dead).seq (blob_dead 24)).seq (blob_dead 24)).seq sum_dead
  exact this
structure EFit (e : Entry) : Prop where
  str : e.str.size ≤ 24
  sub : e.sub.size ≤ 24
theorem en_st {e : Entry} (h : EFit e) (hs : e.sum.length = 32) : Rst enS (entryB e) := by
  have t1 := text_st (s := e.str) (m := 24) (by have := h.str; omega) (by decide)
  have t2 := text_st (s := e.sub) (m := 24) (by have := h.sub; omega) (by decide)
  have := (((((((int_st e.no).seq (int_st e.clock) int_dead).seq (int_st e.kind) int_dead).seq (int_st e.code) int_dead).seq (int_st e.eid) int_dead).seq t1 (blob_dead 24)).seq t2 (blob_dead 24)).seq (sum_st hs) sum_dead
  unfold entryB
  simp only [List.append_assoc] at this
  exact this
theorem en_rv {e : Entry} (h : EFit e) (hi : EIn e) : RV enV (entryB e) e := fun y => by
  have t1 := text_st (s := e.str) (m := 24) (by have := h.str; omega) (by decide)
  have t2 := text_st (s := e.sub) (m := 24) (by have := h.sub; omega) (by decide)
  have v1 := text_rv (s := e.str) (m := 24) (by have := h.str; omega) (by decide)
  have v2 := text_rv (s := e.sub) (m := 24) (by have := h.sub; omega) (by decide)
  unfold enV entryB
  simp only [List.append_assoc]
  rw [int_rv hi.no, (int_st e.no).full, int_rv hi.clock, (int_st e.clock).full, int_rv hi.kind, (int_st e.kind).full, int_rv hi.code, (int_st e.code).full, int_rv hi.eid, (int_st e.eid).full, show textV ⟨_, 0⟩ 24 = _ from v1 _, show blobS ⟨_, 0⟩ 24 = _ from t1.full _, show textV ⟨_, 0⟩ 24 = _ from v2 _, show blobS ⟨_, 0⟩ 24 = _ from t2.full _, sum_rv hi.sum]
structure AFit (a : Answer) : Prop where
  shown : a.shown.length ≤ 64
  shown1 : ∀ s ∈ a.shown, SFit s
  tok : TFit a.tok
  ents : a.ents.length ≤ 64
  ents1 : ∀ e ∈ a.ents, EFit e
theorem an_st {a : Answer} (h : AFit a) (hm : a.tok.mac.length = 32) (hs : ∀ e ∈ a.ents, e.sum.length = 32) : Rst an5 (ansB a) := by
  have r1 := rows_st (f := shownB) (l := a.shown) sh_dead (m := 64) (by have := h.shown; omega) (by decide) (fun b hb => sh_st (h.shown1 b hb))
  have r2 := rows_st (f := entryB) (l := a.ents) en_dead (m := 64) (by have := h.ents; omega) (by decide) (fun b hb => en_st (h.ents1 b hb) (hs b hb))
  have := ((((int_st a.code).seq (int_st a.num) int_dead).seq r1 (rows_dead sh_dead 64)).seq (tok_st h.tok hm) tok_dead).seq r2 (rows_dead en_dead 64)
  unfold ansB
  simp only [List.append_assoc] at this
  exact this
theorem an_rv {a : Answer} (h : AFit a) (hi : AIn a) : RV ans0 (ansB a) a := fun y => by
  have r1 := rows_st (f := shownB) (l := a.shown) sh_dead (m := 64) (by have := h.shown; omega) (by decide) (fun b hb => sh_st (h.shown1 b hb))
  have v1 := rows_rv (f := shownB) (V := shV) (S := shS) (l := a.shown) (m := 64) (by have := h.shown; omega) (by decide) (fun b hb => ⟨sh_st (h.shown1 b hb), sh_rv (h.shown1 b hb) (hi.shown b hb)⟩)
  have v2 := rows_rv (f := entryB) (V := enV) (S := enS) (l := a.ents) (m := 64) (by have := h.ents; omega) (by decide) (fun b hb => ⟨en_st (h.ents1 b hb) (hi.ents b hb).sum, en_rv (h.ents1 b hb) (hi.ents b hb)⟩)
  unfold ans0 an4 an3 an2 an1 ansB
  simp only [List.append_assoc]
  rw [int_rv hi.code, (int_st a.code).full, int_rv hi.num, (int_st a.num).full, show rowsV shV shS ⟨_, 0⟩ 64 = _ from v1 _, show rowsS shS ⟨_, 0⟩ 64 = _ from r1.full _, tok_rv h.tok hi.tok, (tok_st h.tok hi.tok.mac).full, show rowsV enV enS ⟨_, 0⟩ 64 = _ from v2 _]
theorem checkA_afit {a : Answer} (h : checkA a = 0) : AFit a := by
  have hf := checkA_fit h
  unfold checkA at h
  split at h
  · cases h
  split at h
  · cases h
  rename_i k2
  simp only [Bool.not_eq_true, Bool.or_eq_false_iff] at k2
  refine ⟨hf.shown, fun s hs => ?_, longT_fit k2.1.1 hf.grs, hf.ents, fun e he => ?_⟩
  · have := List.any_eq_false.1 k2.1.2 s hs
    simp only [longShown, longS, great, Bool.or_eq_true, decide_eq_true_eq] at this
    exact ⟨by omega, by omega, by omega⟩
  · have := List.any_eq_false.1 k2.2 e he
    simp only [longEntry, longS, Bool.or_eq_true, decide_eq_true_eq] at this
    exact ⟨by omega, by omega⟩
theorem geta_put {a : Answer} (h : checkA a = 0) (hi : AIn a) : getAE (ansB a) = 0 ∧ getAV (ansB a) = a := by
  have hf := checkA_afit h
  have h1 : an5 ⟨ansB a, 0⟩ = ⟨[], 0⟩ := by have := (an_st hf hi.tok.mac (fun e he => (hi.ents e he).sum)).full []; rwa [List.append_nil] at this
  have h2 : ans0 ⟨ansB a, 0⟩ = a := by have := an_rv hf hi []; rwa [List.append_nil] at this
  have h3 : getAE (ansB a) = 0 := by unfold getAE; rw [h1]; simp [endR]
  exact ⟨h3, by unfold getAV; rw [if_pos h3, h2]⟩
theorem geta_cut {a : Answer} (h : checkA a = 0) (hm : a.tok.mac.length = 32) (hs : ∀ e ∈ a.ents, e.sum.length = 32) {n : Nat} (hn : n < (ansB a).length) : getAE ((ansB a).take n) = 4 := by
  have h1 := (an_st (checkA_afit h) hm hs) [] n
  rw [List.append_nil, if_neg (by omega)] at h1
  unfold getAE; rw [h1]; simp [endR]
theorem geta_more {a : Answer} (h : checkA a = 0) (hm : a.tok.mac.length = 32) (hs : ∀ e ∈ a.ents, e.sum.length = 32) (y : List UInt8) : getAE (ansB a ++ y) = if y = [] then 0 else 5 := by
  have h1 := (an_st (checkA_afit h) hm hs).full y
  unfold getAE; rw [h1]
  by_cases hy : y = []
  · subst hy; simp [endR]
  · have h0 : 0 < y.length := List.length_pos_iff.2 hy
    rw [if_neg hy]; simp [endR, h0]
/-! #### what was read is laid as the same bytes -/
/-- A reader's step that ends without an error has gone over these bytes. -/
def Was {α : Type} (V : Rd → α) (S : Rd → Rd) (f : α → List UInt8) : Prop := ∀ r, (S r).why = 0 → r.why = 0 ∧ r.left = f (V r) ++ (S r).left
theorem take_was (n : Nat) (r : Rd) (h : (takeS r (n : Int)).why = 0) : r.why = 0 ∧ (takeV r n).length = n ∧ r.left = takeV r n ++ (takeS r n).left := by
  unfold takeS at *
  unfold takeV
  by_cases hn : (r.left.length : Int) < n
  · rw [if_pos hn] at h
    unfold stickS at h
    split at h
    · cases h
    · rename_i hw; exact absurd h hw
  · rw [if_neg hn] at h ⊢
    rw [if_neg hn, Int.toNat_natCast]
    exact ⟨h, by rw [List.length_take]; omega, (List.take_append_drop n r.left).symm⟩
theorem int_was : Was intV intS num8 := fun r h => by
  obtain ⟨h1, h2, h3⟩ := take_was 8 r h
  refine ⟨h1, ?_⟩
  have h2 : (takeV r 8).length = 8 := h2
  unfold intV
  rw [num8_be8 _ h2]; exact h3
theorem cnt_was (m : Int) (r : Rd) (h : (cntS r m).why = 0) : r.why = 0 ∧ r.left = num8 (cntV r m) ++ (cntS r m).left ∧ 0 ≤ cntV r m ∧ cntV r m ≤ m := by
  have hv : cntV r m = intV r := by unfold cntV; rw [if_neg (by simp [badR, h])]
  have hc : cntS r m = intS r ∧ ¬ (intV r < 0 ∨ m < intV r) := by
    unfold cntS at h ⊢
    split
    · rename_i hc
      rw [if_pos hc] at h
      simp only [Bool.and_eq_true, decide_eq_true_eq] at hc
      unfold stickS at h
      rw [if_pos hc.1] at h
      cases h
    · rename_i hc
      rw [if_neg hc] at h
      simp only [Bool.and_eq_true, Bool.or_eq_true, decide_eq_true_eq, not_and] at hc
      exact ⟨rfl, hc h⟩
  rw [hc.1] at h
  obtain ⟨h1, h2⟩ := int_was r h
  rw [hv, hc.1]
  exact ⟨h1, h2, by omega, by omega⟩
theorem blob_was (m : Int) (r : Rd) (h : (blobS r m).why = 0) : r.why = 0 ∧ r.left = blob (blobV r m) ++ (blobS r m).left ∧ ((blobV r m).length : Int) ≤ m := by
  unfold blobS blobV at *
  split at h
  · rename_i hb; simp [badR, h] at hb
  · rename_i hb
    rw [if_neg hb, if_neg hb]
    have hw : (cntS r m).why = 0 := by simpa [badR] using hb
    obtain ⟨h1, h2, h3, h4⟩ := cnt_was m r hw
    obtain ⟨k, hk⟩ := Int.eq_ofNat_of_zero_le h3
    rw [hk] at h ⊢
    obtain ⟨g1, g2, g3⟩ := take_was k (cntS r m) h
    refine ⟨h1, ?_, ?_⟩
    · unfold blob
      rw [g2, List.append_assoc, ← g3, ← hk]; exact h2
    · rw [g2]; omega
theorem text_was (m : Int) (r : Rd) (h : (blobS r m).why = 0) : r.why = 0 ∧ r.left = txt (textV r m) ++ (blobS r m).left := by
  obtain ⟨h1, h2, _⟩ := blob_was m r h
  rw [txt_blob]
  unfold textV
  rw [strOf_chars]
  exact ⟨h1, h2⟩
theorem sum_was : Was sumV sumS (fun x => x) := fun r h => by
  obtain ⟨h1, h2, h3⟩ := take_was 32 r h
  refine ⟨h1, ?_⟩
  have hv : sumV r = takeV r 32 := by
    have h2 : (takeV r 32).length = 32 := h2
    unfold sumV; rw [h2, List.take_of_length_le (by omega)]; simp
  rw [hv]; exact h3
theorem many_was {α : Type} {V : Rd → α} {S : Rd → Rd} {f : α → List UInt8} (h : Was V S f) : ∀ n, Was (many V S n) (itS S n) (fun l => l.flatMap f)
  | 0 => fun r e => ⟨e, rfl⟩
  | n + 1 => fun r e => by
    rw [itS_succ] at e ⊢
    obtain ⟨h1, h2⟩ := many_was h n (S r) e
    obtain ⟨h3, h4⟩ := h r h1
    have h2 : (S r).left = (many V S n (S r)).flatMap f ++ (itS S n (S r)).left := h2
    refine ⟨h3, ?_⟩
    show r.left = (many V S (n + 1) r).flatMap f ++ _
    rw [many_succ, List.flatMap_cons, List.append_assoc, ← h2, ← h4]
theorem rows_was {α : Type} {V : Rd → α} {S : Rd → Rd} {f : α → List UInt8} (h : Was V S f) (m : Int) (r : Rd) (e : (rowsS S r m).why = 0) : r.why = 0 ∧ r.left = rowsB f (rowsV V S r m) ++ (rowsS S r m).left ∧ ((rowsV V S r m).length : Int) ≤ m := by
  unfold rowsS rowsV at *
  obtain ⟨h1, h2⟩ := many_was h _ _ e
  obtain ⟨h3, h4, h5, h6⟩ := cnt_was m r h1
  refine ⟨h3, ?_, ?_⟩
  · unfold rowsB
    rw [many_length, Int.toNat_of_nonneg h5, List.append_assoc, ← h2]; exact h4
  · rw [many_length]; omega
theorem bit_was {v : Int} (h : 0 ≤ v ∧ v ≤ 1) : bit (decide (v = 1)) = v := by
  unfold bit
  by_cases h1 : v = 1
  · simp [h1]
  · simp [h1]; omega
theorem gr_was : Was grV grS grantB := fun r h => by
  unfold grS at h
  obtain ⟨h4, e4⟩ := int_was _ h
  obtain ⟨h3, e3, c3⟩ := cnt_was _ _ h4
  obtain ⟨h2, e2⟩ := text_was _ _ h3
  obtain ⟨h1, e1⟩ := int_was _ h2
  refine ⟨h1, ?_⟩
  unfold grV grantB grS
  simp only [List.append_assoc]
  rw [bit_was c3, ← e4, ← e3, ← e2]; exact e1
theorem tok_was (r : Rd) (h : (tokS r).why = 0) : r.why = 0 ∧ r.left = tokB (tokV r) ++ (tokS r).left := by
  have hv : tokV r = tokV0 r := by unfold tokV; rw [if_neg (by simp [badR, h])]
  rw [hv]
  unfold tokS at h ⊢
  obtain ⟨h4, e4⟩ := sum_was _ h
  unfold tok3 at h4
  obtain ⟨h3, e3, _⟩ := rows_was gr_was 6 _ h4
  unfold tok2 at h3
  obtain ⟨h2, e2⟩ := int_was _ h3
  unfold tok1 at h2
  obtain ⟨h1, e1⟩ := text_was _ _ h2
  refine ⟨h1, ?_⟩
  unfold tokB tokV0
  unfold rowsB at e3
  simp only [List.append_assoc] at e3 ⊢
  have e4' : (tok3 r).left = sumV (tok3 r) ++ (sumS (tok3 r)).left := e4
  rw [← e4']
  refine e1.trans (congrArg _ ?_)
  refine e2.trans (congrArg _ ?_)
  exact e3
theorem bod_was : Was bodV bodS blob := fun r h => ⟨(blob_was 256 r h).1, (blob_was 256 r h).2.1⟩
theorem put_get {b : List UInt8} (h : getE b = 0) : checkC (getV b) = 0 ∧ cmdB (getV b) = b := by
  have hv : getV b = cmd0 ⟨b, 0⟩ := by unfold getV; rw [if_pos h]
  rw [hv]
  unfold getE at h
  have he : endR (cm13 ⟨b, 0⟩) = 0 ∧ checkC (cmd0 ⟨b, 0⟩) = 0 := by
    split at h
    · rename_i hh; exact ⟨hh, h⟩
    · rename_i hh; exact absurd h hh
  refine ⟨he.2, ?_⟩
  replace he := he.1
  have hl : (cm13 ⟨b, 0⟩).left = [] ∧ (cm13 ⟨b, 0⟩).why = 0 := by
    unfold endR at he
    split at he
    · cases he
    · rename_i hn
      exact ⟨List.eq_nil_of_length_eq_zero (by simpa using hn), he⟩
  obtain ⟨hl, hw⟩ := hl
  obtain ⟨w12, e12⟩ := int_was (cm12 ⟨b, 0⟩) hw
  obtain ⟨w11, e11⟩ := int_was (cm11 ⟨b, 0⟩) w12
  obtain ⟨w10, e10, c10⟩ := cnt_was 1 (cm10 ⟨b, 0⟩) w11
  obtain ⟨w9, e9⟩ := text_was 24 (cm9 ⟨b, 0⟩) w10
  obtain ⟨w8, e8⟩ := int_was (cm8 ⟨b, 0⟩) w9
  obtain ⟨w7, e7⟩ := int_was (cm7 ⟨b, 0⟩) w8
  obtain ⟨w6, e6⟩ := int_was (cm6 ⟨b, 0⟩) w7
  obtain ⟨w5, e5, _⟩ := rows_was bod_was 4 (cm5 ⟨b, 0⟩) w6
  obtain ⟨w4, e4⟩ := int_was (cm4 ⟨b, 0⟩) w5
  obtain ⟨w3, e3⟩ := text_was 24 (cm3 ⟨b, 0⟩) w4
  obtain ⟨w2, e2⟩ := text_was 24 (cm2 ⟨b, 0⟩) w3
  obtain ⟨w1, e1⟩ := tok_was (cm1 ⟨b, 0⟩) w2
  obtain ⟨_, e0⟩ := int_was ⟨b, 0⟩ w1
  change (cm12 ⟨b, 0⟩).left = _ ++ (cm13 ⟨b, 0⟩).left at e12
  change (cm11 ⟨b, 0⟩).left = _ ++ (cm12 ⟨b, 0⟩).left at e11
  change (cm10 ⟨b, 0⟩).left = _ ++ (cm11 ⟨b, 0⟩).left at e10
  change (cm9 ⟨b, 0⟩).left = _ ++ (cm10 ⟨b, 0⟩).left at e9
  change (cm8 ⟨b, 0⟩).left = _ ++ (cm9 ⟨b, 0⟩).left at e8
  change (cm7 ⟨b, 0⟩).left = _ ++ (cm8 ⟨b, 0⟩).left at e7
  change (cm6 ⟨b, 0⟩).left = _ ++ (cm7 ⟨b, 0⟩).left at e6
  change (cm5 ⟨b, 0⟩).left = _ ++ (cm6 ⟨b, 0⟩).left at e5
  change (cm4 ⟨b, 0⟩).left = _ ++ (cm5 ⟨b, 0⟩).left at e4
  change (cm3 ⟨b, 0⟩).left = _ ++ (cm4 ⟨b, 0⟩).left at e3
  change (cm2 ⟨b, 0⟩).left = _ ++ (cm3 ⟨b, 0⟩).left at e2
  change (cm1 ⟨b, 0⟩).left = _ ++ (cm2 ⟨b, 0⟩).left at e1
  change b = _ ++ (cm1 ⟨b, 0⟩).left at e0
  rw [hl, List.append_nil] at e12
  unfold cmdB cmd0
  dsimp only
  rw [bit_was c10, ← e12, ← e11, ← e10, ← e9, ← e8, ← e7, ← e6, ← e5, ← e4, ← e3, ← e2, ← e1, ← e0]
theorem sh_was : Was shV shS shownB := fun r h => by
  unfold shS at h
  obtain ⟨w5, e5, _⟩ := blob_was 256 _ h
  obtain ⟨w4, e4⟩ := int_was _ w5
  obtain ⟨w3, e3⟩ := int_was _ w4
  obtain ⟨w2, e2⟩ := int_was _ w3
  obtain ⟨w1, e1⟩ := text_was _ _ w2
  obtain ⟨w0, e0⟩ := text_was _ _ w1
  refine ⟨w0, ?_⟩
  unfold shV shownB shS
  simp only [List.append_assoc]
  rw [← e5, ← e4, ← e3, ← e2, ← e1]; exact e0
theorem en_was : Was enV enS entryB := fun r h => by
  unfold enS at h
  obtain ⟨w7, e7⟩ := sum_was _ h
  obtain ⟨w6, e6⟩ := text_was _ _ w7
  obtain ⟨w5, e5⟩ := text_was _ _ w6
  obtain ⟨w4, e4⟩ := int_was _ w5
  obtain ⟨w3, e3⟩ := int_was _ w4
  obtain ⟨w2, e2⟩ := int_was _ w3
  obtain ⟨w1, e1⟩ := int_was _ w2
  obtain ⟨w0, e0⟩ := int_was _ w1
  refine ⟨w0, ?_⟩
  unfold enV entryB enS
  simp only [List.append_assoc]
  rw [← e7, ← e6, ← e5, ← e4, ← e3, ← e2, ← e1]; exact e0
theorem checkA_of {r : Rd} : True := trivial
theorem puta_get0 {b : List UInt8} (h : getAE b = 0) : ansB (getAV b) = b := by
  have hv : getAV b = ans0 ⟨b, 0⟩ := by unfold getAV; rw [if_pos h]
  rw [hv]
  unfold getAE at h
  have hl : (an5 ⟨b, 0⟩).left = [] ∧ (an5 ⟨b, 0⟩).why = 0 := by
    unfold endR at h
    split at h
    · cases h
    · rename_i hn
      exact ⟨List.eq_nil_of_length_eq_zero (by simpa using hn), h⟩
  obtain ⟨hl, hw⟩ := hl
  obtain ⟨w4, e4, _⟩ := rows_was en_was 64 (an4 ⟨b, 0⟩) hw
  obtain ⟨w3, e3⟩ := tok_was (an3 ⟨b, 0⟩) w4
  obtain ⟨w2, e2, _⟩ := rows_was sh_was 64 (an2 ⟨b, 0⟩) w3
  obtain ⟨w1, e1⟩ := int_was (an1 ⟨b, 0⟩) w2
  obtain ⟨_, e0⟩ := int_was ⟨b, 0⟩ w1
  change (an4 ⟨b, 0⟩).left = _ ++ (an5 ⟨b, 0⟩).left at e4
  change (an3 ⟨b, 0⟩).left = _ ++ (an4 ⟨b, 0⟩).left at e3
  change (an2 ⟨b, 0⟩).left = _ ++ (an3 ⟨b, 0⟩).left at e2
  change (an1 ⟨b, 0⟩).left = _ ++ (an2 ⟨b, 0⟩).left at e1
  change b = _ ++ (an1 ⟨b, 0⟩).left at e0
  rw [hl, List.append_nil] at e4
  unfold ansB ans0
  dsimp only
  rw [← e4, ← e3, ← e2, ← e1, ← e0]
end Go.Proofs.YtdioiepkbolnlaaGreatDoor
