/- The program's plain structs, as Lean structures, and how they lie in cells. Written by a program of this repo. -/
import Derived.Test.YtdioiepkbolnlaaGreatDoorG
set_option linter.unusedSimpArgs false
set_option linter.unusedVariables false
namespace Go.Proofs.YtdioiepkbolnlaaGreatDoor
open Go.RowKit
theorem zarr (h : PH) (n : Nat) : ((kArr n kU8).K h (List.replicate n 0) (List.replicate n (.int .u8 0))) := by
  refine ⟨by simp, ?_⟩
  induction n with
  | zero => exact .nil
  | succ n ih => exact Rows.cons (c := [.int .u8 0]) rfl ih
theorem znil {α : Type} (k : Kind α) (h : PH) : (kSl k).K h [] [.slice none 0 0] := ⟨none, 0, rfl, Nat.le_refl _, by simp, fun hp => absurd hp (by simp)⟩
structure Grant where
  rts : Int
  pre : ByteArray
  exa : Bool
  unt : Int
deriving DecidableEq
def zGrantV : Grant := ⟨0, ⟨#[]⟩, false, 0⟩
def kGrantF (x : Grant) : List FP := [(kI .i64).fp x.rts, kS.fp x.pre, kB.fp x.exa, (kI .i64).fp x.unt]
def kGrant : Kind Grant := kSt 4 kGrantF (fun _ => rfl)
theorem zGrant (h : PH) : RowF h (kGrantF zGrantV) (#[.int .i64 0, .string ⟨#[]⟩, .bool false, .int .i64 0] : Array Value).toList := (RowF.cons (c := [.int .i64 0]) rfl (RowF.cons (c := [.string ⟨#[]⟩]) rfl (RowF.cons (c := [.bool false]) rfl (RowF.cons (c := [.int .i64 0]) rfl RowF.nil))))
structure Token where
  ten : ByteArray
  id_ : Int
  grs : List Grant
  mac : List UInt8
deriving DecidableEq
def zTokenV : Token := ⟨⟨#[]⟩, 0, [], (List.replicate 32 0)⟩
def kTokenF (x : Token) : List FP := [kS.fp x.ten, (kI .i64).fp x.id_, (kSl kGrant).fp x.grs, (kArr 32 kU8).fp x.mac]
def kToken : Kind Token := kSt 35 kTokenF (fun _ => rfl)
theorem zToken (h : PH) : RowF h (kTokenF zTokenV) (#[.string ⟨#[]⟩, .int .i64 0, .slice none 0 0, .int .u8 0, .int .u8 0, .int .u8 0, .int .u8 0, .int .u8 0, .int .u8 0, .int .u8 0, .int .u8 0, .int .u8 0, .int .u8 0, .int .u8 0, .int .u8 0, .int .u8 0, .int .u8 0, .int .u8 0, .int .u8 0, .int .u8 0, .int .u8 0, .int .u8 0, .int .u8 0, .int .u8 0, .int .u8 0, .int .u8 0, .int .u8 0, .int .u8 0, .int .u8 0, .int .u8 0, .int .u8 0, .int .u8 0, .int .u8 0, .int .u8 0, .int .u8 0] : Array Value).toList := (RowF.cons (c := [.string ⟨#[]⟩]) rfl (RowF.cons (c := [.int .i64 0]) rfl (RowF.cons (c := [.slice none 0 0]) (znil _ h) (RowF.cons (c := [.int .u8 0, .int .u8 0, .int .u8 0, .int .u8 0, .int .u8 0, .int .u8 0, .int .u8 0, .int .u8 0, .int .u8 0, .int .u8 0, .int .u8 0, .int .u8 0, .int .u8 0, .int .u8 0, .int .u8 0, .int .u8 0, .int .u8 0, .int .u8 0, .int .u8 0, .int .u8 0, .int .u8 0, .int .u8 0, .int .u8 0, .int .u8 0, .int .u8 0, .int .u8 0, .int .u8 0, .int .u8 0, .int .u8 0, .int .u8 0, .int .u8 0, .int .u8 0]) (zarr h 32) RowF.nil))))
structure Command where
  kind : Int
  tok : Token
  str : ByteArray
  sub : ByteArray
  exp : Int
  bod : List (List UInt8)
  fro : Int
  cnt : Int
  gra : Grant
  cid : Int
deriving DecidableEq
def zCommandV : Command := ⟨0, zTokenV, ⟨#[]⟩, ⟨#[]⟩, 0, [], 0, 0, zGrantV, 0⟩
def kCommandF (x : Command) : List FP := [(kI .i64).fp x.kind, kToken.fp x.tok, kS.fp x.str, kS.fp x.sub, (kI .i64).fp x.exp, (kSl (kSl kU8)).fp x.bod, (kI .i64).fp x.fro, (kI .i64).fp x.cnt, kGrant.fp x.gra, (kI .i64).fp x.cid]
def kCommand : Kind Command := kSt 47 kCommandF (fun _ => rfl)
theorem zCommand (h : PH) : RowF h (kCommandF zCommandV) (#[.int .i64 0, .string ⟨#[]⟩, .int .i64 0, .slice none 0 0, .int .u8 0, .int .u8 0, .int .u8 0, .int .u8 0, .int .u8 0, .int .u8 0, .int .u8 0, .int .u8 0, .int .u8 0, .int .u8 0, .int .u8 0, .int .u8 0, .int .u8 0, .int .u8 0, .int .u8 0, .int .u8 0, .int .u8 0, .int .u8 0, .int .u8 0, .int .u8 0, .int .u8 0, .int .u8 0, .int .u8 0, .int .u8 0, .int .u8 0, .int .u8 0, .int .u8 0, .int .u8 0, .int .u8 0, .int .u8 0, .int .u8 0, .int .u8 0, .string ⟨#[]⟩, .string ⟨#[]⟩, .int .i64 0, .slice none 0 0, .int .i64 0, .int .i64 0, .int .i64 0, .string ⟨#[]⟩, .bool false, .int .i64 0, .int .i64 0] : Array Value).toList := (RowF.cons (c := [.int .i64 0]) rfl (RowF.cons (c := [.string ⟨#[]⟩, .int .i64 0, .slice none 0 0, .int .u8 0, .int .u8 0, .int .u8 0, .int .u8 0, .int .u8 0, .int .u8 0, .int .u8 0, .int .u8 0, .int .u8 0, .int .u8 0, .int .u8 0, .int .u8 0, .int .u8 0, .int .u8 0, .int .u8 0, .int .u8 0, .int .u8 0, .int .u8 0, .int .u8 0, .int .u8 0, .int .u8 0, .int .u8 0, .int .u8 0, .int .u8 0, .int .u8 0, .int .u8 0, .int .u8 0, .int .u8 0, .int .u8 0, .int .u8 0, .int .u8 0, .int .u8 0]) (zToken h) (RowF.cons (c := [.string ⟨#[]⟩]) rfl (RowF.cons (c := [.string ⟨#[]⟩]) rfl (RowF.cons (c := [.int .i64 0]) rfl (RowF.cons (c := [.slice none 0 0]) (znil _ h) (RowF.cons (c := [.int .i64 0]) rfl (RowF.cons (c := [.int .i64 0]) rfl (RowF.cons (c := [.int .i64 0, .string ⟨#[]⟩, .bool false, .int .i64 0]) (zGrant h) (RowF.cons (c := [.int .i64 0]) rfl RowF.nil))))))))))
structure Shown where
  str : ByteArray
  sub : ByteArray
  ver : Int
  pos : Int
  code : Int
  body : List UInt8
deriving DecidableEq
def zShownV : Shown := ⟨⟨#[]⟩, ⟨#[]⟩, 0, 0, 0, []⟩
def kShownF (x : Shown) : List FP := [kS.fp x.str, kS.fp x.sub, (kI .i64).fp x.ver, (kI .i64).fp x.pos, (kI .i64).fp x.code, (kSl kU8).fp x.body]
def kShown : Kind Shown := kSt 6 kShownF (fun _ => rfl)
theorem zShown (h : PH) : RowF h (kShownF zShownV) (#[.string ⟨#[]⟩, .string ⟨#[]⟩, .int .i64 0, .int .i64 0, .int .i64 0, .slice none 0 0] : Array Value).toList := (RowF.cons (c := [.string ⟨#[]⟩]) rfl (RowF.cons (c := [.string ⟨#[]⟩]) rfl (RowF.cons (c := [.int .i64 0]) rfl (RowF.cons (c := [.int .i64 0]) rfl (RowF.cons (c := [.int .i64 0]) rfl (RowF.cons (c := [.slice none 0 0]) (znil _ h) RowF.nil))))))
structure Entry where
  no : Int
  clock : Int
  kind : Int
  code : Int
  eid : Int
  str : ByteArray
  sub : ByteArray
  sum : List UInt8
deriving DecidableEq
def zEntryV : Entry := ⟨0, 0, 0, 0, 0, ⟨#[]⟩, ⟨#[]⟩, (List.replicate 32 0)⟩
def kEntryF (x : Entry) : List FP := [(kI .i64).fp x.no, (kI .i64).fp x.clock, (kI .i64).fp x.kind, (kI .i64).fp x.code, (kI .i64).fp x.eid, kS.fp x.str, kS.fp x.sub, (kArr 32 kU8).fp x.sum]
def kEntry : Kind Entry := kSt 39 kEntryF (fun _ => rfl)
theorem zEntry (h : PH) : RowF h (kEntryF zEntryV) (#[.int .i64 0, .int .i64 0, .int .i64 0, .int .i64 0, .int .i64 0, .string ⟨#[]⟩, .string ⟨#[]⟩, .int .u8 0, .int .u8 0, .int .u8 0, .int .u8 0, .int .u8 0, .int .u8 0, .int .u8 0, .int .u8 0, .int .u8 0, .int .u8 0, .int .u8 0, .int .u8 0, .int .u8 0, .int .u8 0, .int .u8 0, .int .u8 0, .int .u8 0, .int .u8 0, .int .u8 0, .int .u8 0, .int .u8 0, .int .u8 0, .int .u8 0, .int .u8 0, .int .u8 0, .int .u8 0, .int .u8 0, .int .u8 0, .int .u8 0, .int .u8 0, .int .u8 0, .int .u8 0] : Array Value).toList := (RowF.cons (c := [.int .i64 0]) rfl (RowF.cons (c := [.int .i64 0]) rfl (RowF.cons (c := [.int .i64 0]) rfl (RowF.cons (c := [.int .i64 0]) rfl (RowF.cons (c := [.int .i64 0]) rfl (RowF.cons (c := [.string ⟨#[]⟩]) rfl (RowF.cons (c := [.string ⟨#[]⟩]) rfl (RowF.cons (c := [.int .u8 0, .int .u8 0, .int .u8 0, .int .u8 0, .int .u8 0, .int .u8 0, .int .u8 0, .int .u8 0, .int .u8 0, .int .u8 0, .int .u8 0, .int .u8 0, .int .u8 0, .int .u8 0, .int .u8 0, .int .u8 0, .int .u8 0, .int .u8 0, .int .u8 0, .int .u8 0, .int .u8 0, .int .u8 0, .int .u8 0, .int .u8 0, .int .u8 0, .int .u8 0, .int .u8 0, .int .u8 0, .int .u8 0, .int .u8 0, .int .u8 0, .int .u8 0]) (zarr h 32) RowF.nil))))))))
structure Answer where
  code : Int
  num : Int
  shown : List Shown
  tok : Token
  ents : List Entry
deriving DecidableEq
def zAnswerV : Answer := ⟨0, 0, [], zTokenV, []⟩
def kAnswerF (x : Answer) : List FP := [(kI .i64).fp x.code, (kI .i64).fp x.num, (kSl kShown).fp x.shown, kToken.fp x.tok, (kSl kEntry).fp x.ents]
def kAnswer : Kind Answer := kSt 39 kAnswerF (fun _ => rfl)
theorem zAnswer (h : PH) : RowF h (kAnswerF zAnswerV) (#[.int .i64 0, .int .i64 0, .slice none 0 0, .string ⟨#[]⟩, .int .i64 0, .slice none 0 0, .int .u8 0, .int .u8 0, .int .u8 0, .int .u8 0, .int .u8 0, .int .u8 0, .int .u8 0, .int .u8 0, .int .u8 0, .int .u8 0, .int .u8 0, .int .u8 0, .int .u8 0, .int .u8 0, .int .u8 0, .int .u8 0, .int .u8 0, .int .u8 0, .int .u8 0, .int .u8 0, .int .u8 0, .int .u8 0, .int .u8 0, .int .u8 0, .int .u8 0, .int .u8 0, .int .u8 0, .int .u8 0, .int .u8 0, .int .u8 0, .int .u8 0, .int .u8 0, .slice none 0 0] : Array Value).toList := (RowF.cons (c := [.int .i64 0]) rfl (RowF.cons (c := [.int .i64 0]) rfl (RowF.cons (c := [.slice none 0 0]) (znil _ h) (RowF.cons (c := [.string ⟨#[]⟩, .int .i64 0, .slice none 0 0, .int .u8 0, .int .u8 0, .int .u8 0, .int .u8 0, .int .u8 0, .int .u8 0, .int .u8 0, .int .u8 0, .int .u8 0, .int .u8 0, .int .u8 0, .int .u8 0, .int .u8 0, .int .u8 0, .int .u8 0, .int .u8 0, .int .u8 0, .int .u8 0, .int .u8 0, .int .u8 0, .int .u8 0, .int .u8 0, .int .u8 0, .int .u8 0, .int .u8 0, .int .u8 0, .int .u8 0, .int .u8 0, .int .u8 0, .int .u8 0, .int .u8 0, .int .u8 0]) (zToken h) (RowF.cons (c := [.slice none 0 0]) (znil _ h) RowF.nil)))))
structure Rule where
  pre : ByteArray
  rts : Int
deriving DecidableEq
def zRuleV : Rule := ⟨⟨#[]⟩, 0⟩
def kRuleF (x : Rule) : List FP := [kS.fp x.pre, (kI .i64).fp x.rts]
def kRule : Kind Rule := kSt 2 kRuleF (fun _ => rfl)
theorem zRule (h : PH) : RowF h (kRuleF zRuleV) (#[.string ⟨#[]⟩, .int .i64 0] : Array Value).toList := (RowF.cons (c := [.string ⟨#[]⟩]) rfl (RowF.cons (c := [.int .i64 0]) rfl RowF.nil))
structure Quota where
  streams : Int
  events : Int
  bytes : Int
deriving DecidableEq
def zQuotaV : Quota := ⟨0, 0, 0⟩
def kQuotaF (x : Quota) : List FP := [(kI .i64).fp x.streams, (kI .i64).fp x.events, (kI .i64).fp x.bytes]
def kQuota : Kind Quota := kSt 3 kQuotaF (fun _ => rfl)
theorem zQuota (h : PH) : RowF h (kQuotaF zQuotaV) (#[.int .i64 0, .int .i64 0, .int .i64 0] : Array Value).toList := (RowF.cons (c := [.int .i64 0]) rfl (RowF.cons (c := [.int .i64 0]) rfl (RowF.cons (c := [.int .i64 0]) rfl RowF.nil)))
structure Tenant where
  name : ByteArray
  root : List UInt8
  rules : List Rule
  quota : Quota
deriving DecidableEq
def zTenantV : Tenant := ⟨⟨#[]⟩, (List.replicate 32 0), [], zQuotaV⟩
def kTenantF (x : Tenant) : List FP := [kS.fp x.name, (kArr 32 kU8).fp x.root, (kSl kRule).fp x.rules, kQuota.fp x.quota]
def kTenant : Kind Tenant := kSt 37 kTenantF (fun _ => rfl)
theorem zTenant (h : PH) : RowF h (kTenantF zTenantV) (#[.string ⟨#[]⟩, .int .u8 0, .int .u8 0, .int .u8 0, .int .u8 0, .int .u8 0, .int .u8 0, .int .u8 0, .int .u8 0, .int .u8 0, .int .u8 0, .int .u8 0, .int .u8 0, .int .u8 0, .int .u8 0, .int .u8 0, .int .u8 0, .int .u8 0, .int .u8 0, .int .u8 0, .int .u8 0, .int .u8 0, .int .u8 0, .int .u8 0, .int .u8 0, .int .u8 0, .int .u8 0, .int .u8 0, .int .u8 0, .int .u8 0, .int .u8 0, .int .u8 0, .int .u8 0, .slice none 0 0, .int .i64 0, .int .i64 0, .int .i64 0] : Array Value).toList := (RowF.cons (c := [.string ⟨#[]⟩]) rfl (RowF.cons (c := [.int .u8 0, .int .u8 0, .int .u8 0, .int .u8 0, .int .u8 0, .int .u8 0, .int .u8 0, .int .u8 0, .int .u8 0, .int .u8 0, .int .u8 0, .int .u8 0, .int .u8 0, .int .u8 0, .int .u8 0, .int .u8 0, .int .u8 0, .int .u8 0, .int .u8 0, .int .u8 0, .int .u8 0, .int .u8 0, .int .u8 0, .int .u8 0, .int .u8 0, .int .u8 0, .int .u8 0, .int .u8 0, .int .u8 0, .int .u8 0, .int .u8 0, .int .u8 0]) (zarr h 32) (RowF.cons (c := [.slice none 0 0]) (znil _ h) (RowF.cons (c := [.int .i64 0, .int .i64 0, .int .i64 0]) (zQuota h) RowF.nil))))

/-! small laws for the generator -/
theorem cut_all {α : Type} (l : List α) : (l.take l.length).drop 0 = l := by simp
theorem cut_lo0 {α : Type} (l : List α) (j : Nat) : (l.take j).drop 0 = l.take j := by simp
theorem cut_hi {α : Type} (l : List α) (i : Nat) : (l.take l.length).drop i = l.drop i := by simp
def u8w (n : Int) : UInt8 := UInt8.ofNat (n % 256).toNat
theorem u8w_nat (n : Int) : ((u8w n).toNat : Int) = n % 256 := by
  unfold u8w
  have h1 : 0 ≤ n % 256 := Int.emod_nonneg _ (by omega)
  have h2 : n % 256 < 256 := Int.emod_lt_of_pos _ (by omega)
  rw [UInt8.toNat_ofNat']
  omega
theorem u8w_of (b : UInt8) : u8w (b.toNat : Int) = b := by
  have := u8w_nat (b.toNat : Int)
  have hb := b.toNat_lt
  refine UInt8.toNat_inj.1 ?_
  omega
theorem wrap_u8 (n : Int) : IntKind.u8.wrap n = n % 256 := by simp [IntKind.wrap, IntKind.signed, IntKind.bits]
theorem u8w_bv (n : Int) : Ent (Rep.is (.int .u8 (IntKind.u8.wrap n))) (Rep.is (bv (u8w (IntKind.u8.wrap n)))) := fun h v e => by
  cases e
  show _ = Value.int .u8 _
  rw [u8w_nat, wrap_u8, Int.emod_emod_of_dvd _ (Int.dvd_refl _)]
theorem u8i_bv (n : Int) (h : 0 ≤ n ∧ n < 256) : Ent (Rep.is (.int .u8 n)) (Rep.is (bv (u8w n))) := fun _ v e => by
  cases e
  show _ = Value.int .u8 _
  rw [u8w_nat, Int.emod_eq_of_lt h.1 h.2]
theorem ent_u {a b : UInt8} (h : a = b) : Ent (Rep.is (bv a)) (Rep.is (bv b)) := by subst h; exact Ent.refl _
theorem ent_tup2 {R R' S S' : Rep} (a : Ent R R') (b : Ent S S') : Ent (tup [R, S]) (tup [R', S']) := fun h v ⟨vs, e, k⟩ => ⟨vs, e, by
  cases k with
  | cons h1 k => cases k with
    | cons h2 k => exact .cons (a _ _ h1) (.cons (b _ _ h2) k)⟩
theorem g_retC {C : Cx} {Γ : Nat → Rep} {l : List OI} {t : TypeId} {fn : Func} {f : FP} {b s : Nat} (hr : fn.results = #[.cell s t]) (hR : Ent (Γ s) (Rep.is (pb b 0))) (hm : blkI b f ∈ l) (ht : LdT C.P t f.agg f.n) (hx : Left C l := by first | exact List.nil_sublist _ | exact List.Sublist.refl _ | (repeat (first | exact List.Sublist.refl _ | exact List.nil_sublist _ | apply List.Sublist.cons_cons | apply List.Sublist.cons))) : E C .ret Γ l (bodyPost C.P fn (Post C.w0 C.h0 C.X0 C.X1 f.rep noI)) := by
  obtain ⟨d, h1, h2, h3⟩ := ht.get
  exact E.retC hr hR hm h1 h2 h3 hx
theorem g_retC1 {C : Cx} {Γ : Nat → Rep} {l : List OI} {t : TypeId} {fn : Func} {f : FP} {R : Rep} {b s r : Nat} (hr : fn.results = #[.cell s t, .tmp r]) (hR : Ent (Γ s) (Rep.is (pb b 0))) (hm : blkI b f ∈ l) (ht : LdT C.P t f.agg f.n) (hr1 : Ent (Γ r) R) (hx : Left C l := by first | exact List.nil_sublist _ | exact List.Sublist.refl _ | (repeat (first | exact List.Sublist.refl _ | exact List.nil_sublist _ | apply List.Sublist.cons_cons | apply List.Sublist.cons))) : E C .ret Γ l (bodyPost C.P fn (Post C.w0 C.h0 C.X0 C.X1 (tup [f.rep, R]) noI)) := by
  obtain ⟨d, h1, h2, h3⟩ := ht.get
  exact E.retC1 hr hR hr1 hm h1 h2 h3 hx
theorem nil_rv {α : Type} (k : Kind α) : Ent (Rep.is (.slice none 0 0)) (rv (.slice none 0 0) k []) := fun h v e => ⟨e, nil_sl k _ _ rfl⟩
theorem ent_r {α : Type} {v : Value} {k : Kind α} {a b : List α} (h : a = b) : Ent (rv v k a) (rv v k b) := by subst h; exact Ent.refl _
theorem E.front {C : Cx} {Γ : Nat → Rep} {l1 l2 : List OI} {I : OI} {e : Exit} {Q : Exit → Act → World → Prop} (k : E C e Γ (I :: (l1 ++ l2)) Q) : E C e Γ (l1 ++ I :: l2) Q := fun a w h s => k a w h (s.own' (s.own.perm List.perm_middle))
theorem J.len {C : Cx} {Γ : Nat → Rep} {l : List OI} {c : Code} {Q : Exit → Act → World → Prop} {α : Type} {k : Kind α} {xs : List α} {s : Nat} (hs : Ent (Γ s) ((kSl k).rep xs)) (hk : xs.length ≤ 9223372036854775807 → J C Γ l c Q) : J C Γ l c Q := fun a w h ss => by
  obtain ⟨_, _, _, _, h2, _⟩ := sl_form (hs _ _ (ss.sat s))
  exact hk h2 a w h ss
theorem E.len {C : Cx} {Γ : Nat → Rep} {l : List OI} {e : Exit} {Q : Exit → Act → World → Prop} {α : Type} {k : Kind α} {xs : List α} {s : Nat} (hs : Ent (Γ s) ((kSl k).rep xs)) (hk : xs.length ≤ 9223372036854775807 → E C e Γ l Q) : E C e Γ l Q := fun a w h ss => by
  obtain ⟨_, _, _, _, h2, _⟩ := sl_form (hs _ _ (ss.sat s))
  exact hk h2 a w h ss
/-! two lists held against each other -/
theorem same_len {α : Type} [DecidableEq α] {a b : List α} (h : ¬ (a.length : Int) = (b.length : Int)) : false = decide (a = b) := by
  have : ¬ a = b := fun e => h (by rw [e])
  simp [this]
theorem same_ne {α : Type} [DecidableEq α] {a b : List α} {k : Nat} {d : α} (h : ¬ a.getD k d = b.getD k d) : false = decide (a = b) := by
  have : ¬ a = b := fun e => h (by rw [e])
  simp [this]
theorem same_all {α : Type} [DecidableEq α] {a b : List α} {k : Nat} (h : k ≤ a.length ∧ a.take k = b.take k ∧ a.length = b.length) (hk : ¬ (k : Int) < (a.length : Int)) : true = decide (a = b) := by
  have e : k = a.length := by omega
  subst e
  have := h.2.1
  rw [List.take_length, h.2.2, List.take_length] at this
  simp [this]
theorem same_step {α : Type} {a b : List α} {k : Nat} {d : α} (h : k ≤ a.length ∧ a.take k = b.take k ∧ a.length = b.length) (hk : (k : Int) < (a.length : Int)) (he : a.getD k d = b.getD k d) : k + 1 ≤ a.length ∧ a.take (k + 1) = b.take (k + 1) ∧ a.length = b.length := by
  have h1 : k < a.length := by omega
  have h2 : k < b.length := by omega
  refine ⟨by omega, ?_, h.2.2⟩
  rw [List.take_succ_eq_append_getElem h1, List.take_succ_eq_append_getElem h2, h.2.1]
  simp only [List.getD, List.getElem?_eq_getElem h1, List.getElem?_eq_getElem h2, Option.getD_some] at he
  rw [he]
theorem u8_eq {a b : UInt8} : (a.toNat : Int) = (b.toNat : Int) ↔ a = b := ⟨fun h => UInt8.toNat_inj.1 (by omega), fun h => by rw [h]⟩
theorem take_snoc {α : Type} (l : List α) (k : Nat) (d : α) (h : k < l.length) : l.take k ++ [l.getD k d] = l.take (k + 1) := by
  rw [List.take_succ_eq_append_getElem h]; simp [List.getD, h]
theorem E.ret1Oe {C : Cx} {Γ : Nat → Rep} {l : List OI} {α : Type} {k : Kind α} {e : TypeId} {xs ys : List α} {fn : Func} {v : Value} {r : Nat} (hr : fn.results = #[.tmp r]) (hR : Ent (Γ r) (Rep.is v)) (he : xs = ys) (hx : Left C l := by first | exact List.nil_sublist _ | exact List.Sublist.refl _ | (repeat (first | exact List.Sublist.refl _ | exact List.nil_sublist _ | apply List.Sublist.cons_cons | apply List.Sublist.cons))) : E C .ret Γ (rowI v k e xs :: l) (bodyPost C.P fn (Post C.w0 C.h0 C.X0 C.X1 ((kSl k).rep ys) (rowOf k e ys))) := by
  subst he; exact E.ret1O hr hR hx
theorem g_retCe {C : Cx} {Γ : Nat → Rep} {l : List OI} {t : TypeId} {fn : Func} {α : Type} {k : Kind α} {x y : α} {b s : Nat} (hr : fn.results = #[.cell s t]) (hR : Ent (Γ s) (Rep.is (pb b 0))) (hm : blkI b (k.fp x) ∈ l) (ht : LdT C.P t k.agg k.sz) (he : x = y) (hx : Left C l := by first | exact List.nil_sublist _ | exact List.Sublist.refl _ | (repeat (first | exact List.Sublist.refl _ | exact List.nil_sublist _ | apply List.Sublist.cons_cons | apply List.Sublist.cons))) : E C .ret Γ l (bodyPost C.P fn (Post C.w0 C.h0 C.X0 C.X1 (k.rep y) noI)) := by
  subst he; exact g_retC hr hR hm ht hx
theorem g_retC1e {C : Cx} {Γ : Nat → Rep} {l : List OI} {t : TypeId} {fn : Func} {α : Type} {k : Kind α} {x y : α} {R : Rep} {b s r : Nat} (hr : fn.results = #[.cell s t, .tmp r]) (hR : Ent (Γ s) (Rep.is (pb b 0))) (hm : blkI b (k.fp x) ∈ l) (ht : LdT C.P t k.agg k.sz) (hr1 : Ent (Γ r) R) (he : x = y) (hx : Left C l := by first | exact List.nil_sublist _ | exact List.Sublist.refl _ | (repeat (first | exact List.Sublist.refl _ | exact List.nil_sublist _ | apply List.Sublist.cons_cons | apply List.Sublist.cons))) : E C .ret Γ l (bodyPost C.P fn (Post C.w0 C.h0 C.X0 C.X1 (tup [k.rep y, R]) noI)) := by
  subst he; exact g_retC1 hr hR hm ht hr1 hx
end Go.Proofs.YtdioiepkbolnlaaGreatDoor
