/- GL, part 11: one operation, evaluated; the model does what it says. -/
import Derived.Test.YtmeddhonbddckaaGreatDoorGl10
set_option linter.all false
namespace Go.GL
open Go.RowKit
/-- What is known of a program. -/
structure Env (P : Program) where
  tb : TypeId → TyI
  tok : TOk P tb
  flat : ∀ t fs, (tb t).k = .struct fs → (tb t).flat ≠ [] → ∃ d, d ≤ 10000 ∧ flatK P d t = some (tb t).flat ∧ P.eqGuardType P.depth t = false
  key : ∀ t, (tb t).key = true → KeyT P t (tb t).flat
  mixed : P.follows .mixedOrders = true

def nilEqV (k : TyK) (x y : V) : Option Bool :=
  match k, x, y with
  | .slice _, .data (.slice nl _ _), .data (.slice true _ _) => some nl
  | .map .., .map _, .nilmap => some false
  | .map .., .nilmap, .nilmap => some true
  | .ptr _, .ptr .., .nilptr => some false
  | .ptr _, .dptr _, .nilptr => some false
  | .ptr _, .nilptr, .nilptr => some true
  | _, _, _ => none
def binTop (i : TyI) (op : BinOp) (x y : V) : Option V :=
  match i.k with
  | .struct _ => if i.flat.isEmpty then none else aggEq i.flat op x y
  | .int _ | .str | .bool => match x with
    | .data (.bool _) => (match i.k with | .bool => binV op x y | _ => none)
    | _ => binV op x y
  | k => match nilEqV k x y, op with
    | some b, .eql => some (.data (.bool b))
    | some b, .neq => some (.data (.bool !b))
    | _, _ => none
def convTop (tb : TypeId → TyI) (H : List LObj) (src dst : TypeId) (x : V) : Option V :=
  match (tb src).k, (tb dst).k with
  | .str, .slice e => match (tb e).k, x with
    | .int .u8, .data (.str s) => if s.size ≤ 9223372036854775807 then some (.data (.slice false s.size (bytesD s))) else none
    | _, _ => none
  | .slice e, .str => match (tb e).k with
    | .int .u8 => (bytesToStrV H x).map fun s => .data (.str s)
    | _ => none
  | .int _, .int k => match x with
    | .data (.int _ n) => some (.data (.int k (k.wrap n)))
    | _ => none
  | .str, .str => match x with
    | .data (.str _) => some x
    | _ => none
  | _, _ => none
def slice00V (x : V) (lo hi : Option V) (m : V) : Option V :=
  match m with
  | .data (.int _ n) => if n = 0 then match lo with
      | some _ => none
      | none => match hi with
        | some (.data (.int _ n')) => if n' = 0 then match x with
            | .data (.slice nl _ _) => some (.mt nl)
            | _ => none
          else none
        | _ => none
    else none
  | _ => none
/-- Parts of rows. -/
def sliceSubV (H : List LObj) (size : Nat) (x : V) (lo hi mx : Option V) : Option V :=
  match x with
  | .sub r ver sz l0 n => match H[r]? with
    | some (.row _ sz' ver' _ els) => if ver = ver' ∧ sz = sz' ∧ sz = size then match mx with
        | none => match boundV hi n, boundV lo 0 with
          | some h, some l => if l ≤ h ∧ l0 + h ≤ els.length then some (.sub r ver sz (l0 + l) (h - l)) else none
          | _, _ => none
        | some m => match hi with
          | some y => match boundV (some m) 0, boundV (some y) 0, boundV lo 0 with
            | some k, some h, some l => if l ≤ h ∧ h ≤ k ∧ l0 + k ≤ els.length then some .undef else none
            | _, _, _ => none
          | none => none
      else none
    | _ => none
  | _ => none
def V.isSub : V → Bool
  | .sub .. => true
  | _ => false
def clearTop (tb : TypeId → TyI) (H : List LObj) (t : TypeId) (x : V) : Option (V × Eff) :=
  match (tb t).k with
  | .slice e => if (tb e).k.known then match toDs (tb e).zero, x with
      | some zs, .sub r ver sz lo n => match H[r]? with
        | some (.row T sz' ver' frz els) => if ver = ver' ∧ sz = sz' ∧ sz = (tb e).size ∧ frz ≤ lo then some (.tup [], .set r (.row T sz ver frz (els.take lo ++ List.replicate n zs ++ els.drop (lo + n)))) else none
        | _ => none
      | _, _ => none
    else none
  | _ => none
def sliceTop (tb : TypeId → TyI) (H : List LObj) (t : TypeId) (x : V) (lo hi mx : Option V) : Option (V × Eff) :=
  match (tb t).k with
  | .str => match mx with
    | some _ => none
    | none => match x with
      | .data (.str s) => (sliceStrV s lo hi).map fun r => (.data (.str r), .none)
      | _ => none
  | .slice e => if (tb e).k.known then if x.isSub then (sliceSubV H (tb e).size x lo hi mx).map fun r => (r, .none) else match mx with
      | some m => (slice00V x lo hi m).map fun r => (r, .none)
      | none => match x with
        | .data (.slice nl len els) => if els.all (fun e' => e'.length == (tb e).size) then (sliceDataV nl len els lo hi).map fun d => (.data d, .none) else none
        | .row r ver => match H[r]?, lo with
          | some (.row T sz ver' frz els), none => match boundV hi els.length with
            | some n => if ver = ver' ∧ n ≤ els.length ∧ frz ≤ n then some (.row r (ver + 1), .set r (.row T sz (ver + 1) frz (els.take n))) else none
            | none => none
          | some (.row _ sz ver' _ els), some _ => if ver = ver' then (sliceSubV H (tb e).size (.sub r ver sz 0 els.length) lo hi none).map fun v => (v, .none) else none
          | _, _ => none
        | _ => none
    else none
  | _ => none
def appendTop (tb : TypeId → TyI) (H : List LObj) (t : TypeId) (x y : V) : Option (V × Eff) :=
  match (tb t).k with
  | .slice e => if (tb e).k.known ∧ 0 < (tb e).size then match elsV H y with
      | some els => if els.all (fun e' => e'.length == (tb e).size) then match x with
          | .data (.slice true _ _) => match els with
            | [] => some (.mt true, .none)
            | _ :: _ => if els.length * (tb e).bytes ≤ 140737488355328 ∧ els.length ≤ 140737488355328 then some (.row H.length 0, .new (.row e (tb e).size 0 0 els)) else none
          | .mt nl => match els with
            | [] => some (.mt nl, .none)
            | _ :: _ => if els.length * (tb e).bytes ≤ 140737488355328 ∧ els.length ≤ 140737488355328 then some (.row H.length 0, .new (.row e (tb e).size 0 0 els)) else none
          | .sub r ver sz lo n => match H[r]? with
            | some (.row T sz' ver' frz els0) => if ver = ver' ∧ sz = sz' ∧ T = e ∧ sz = (tb e).size ∧ lo = 0 ∧ n + els.length ≤ els0.length ∧ frz ≤ n then some (.sub r ver sz 0 (n + els.length), .set r (.row T sz ver frz (els0.take n ++ els ++ els0.drop (n + els.length)))) else none
            | _ => none
          | .row r ver => match H[r]? with
            | some (.row T sz ver' frz els0) => if ver = ver' ∧ T = e ∧ sz = (tb e).size ∧ (els0.length + els.length) * (tb e).bytes ≤ 140737488355328 ∧ els0.length + els.length ≤ 140737488355328 then some (.row r (ver + 1), .set r (.row T sz (ver + 1) frz (els0 ++ els))) else none
            | _ => none
          | _ => none
        else none
      | none => none
    else none
  | _ => none
def makeTop (tb : TypeId → TyI) (H : List LObj) (t : TypeId) (l c : V) : Option (V × Eff) :=
  match (tb t).k, l, c with
  | .slice e, .data (.int _ n), .data (.int _ n') => match toDs (tb e).zero with
    | some zs => if (tb e).k.known ∧ 0 < (tb e).size ∧ 0 < (tb e).bytes ∧ n = n' ∧ 0 ≤ n ∧ n * (tb e).bytes ≤ 140737488355328 then some (.row H.length 1, .new (.row e (tb e).size 1 0 (List.replicate n.toNat zs))) else none
    | none => none
  | _, _, _ => none
def builtinTop (tb : TypeId → TyI) (H : List LObj) (b : Builtin) (ts : List TypeId) (xs : List V) : Option (V × Eff) :=
  match b, ts, xs with
  | .len, [t], [x] => if lenTy (tb t).k x then (lenV H x).map fun (n : Nat) => (V.data (.int .i64 (n : Int)), Eff.none) else none
  | .append, [t, t'], [x, y] => if t = t' then appendTop tb H t x y else none
  | .clear, [t], [x] => clearTop tb H t x
  | .max, _, [.data (.int k a), .data (.int _ b)] => some (.data (.int k (if b > a then b else a)), .none)
  | .min, _, [.data (.int k a), .data (.int _ b)] => some (.data (.int k (if b < a then b else a)), .none)
  | _, _, _ => none
def mapKsOk (H : List LObj) (m : V) (ks : List BK) : Bool :=
  match mapKs H m with
  | some js => decide (js = ks)
  | none => true
theorem mapKsOk_eq {H : List LObj} {m : V} {ks : List BK} (h : mapKsOk H m ks = true) : ∀ js, mapKs H m = some js → js = ks := by
  intro js hjs
  simp only [mapKsOk, hjs] at h
  simpa using h
def evalOp (tb : TypeId → TyI) (ρ : Operand → V) (H : List LObj) (o : Op) : Option (V × Eff) :=
  match o with
  | .move x | .assign x => some (ρ x, .none)
  | .pick c a b => (pickV (ρ c) (ρ a) (ρ b)).map fun r => (r, .none)
  | .alloc t => if (tb t).k.known then some (.ptr H.length 0, .new (.cells (tb t).zero)) else none
  | .box _ x => ((ρ x).cellsOf H).map fun vs => (.ptr H.length 0, .new (.cells vs))
  | .build t ps => if (tb t).k.known then (buildV (tb t).k H (tb t).zero (ps.toList.map fun p => (p.1, ρ p.2))).map fun r => (r, .none) else none
  | .buildSlice t n ps => match (tb t).k with
    | .slice e => if (tb e).k.known ∧ 0 < (tb e).size ∧ n * (tb e).size ≤ 16777216 then (buildSliceV H (tb e).size (tb e).zero n (ps.toList.map fun p => (p.1, ρ p.2))).map fun els => (if n = 0 then .mt false else .data (.slice false n els), .none) else none
    | _ => none
  | .load t a => if (tb t).k.known then (loadV (tb t).k.agg (tb t).size H (ρ a)).map fun r => (r, .none) else none
  | .store t a x => if (tb t).k.known then (storeV (tb t).size H (ρ a) (ρ x)).map fun e => (.undef, e) else none
  | .nilCheck x => (nilCheckV H (ρ x)).map fun r => (r, .none)
  | .binOp op t x y _ => (binTop (tb t) op (ρ x) (ρ y)).map fun r => (r, .none)
  | .unOp op _ x => (unV op (ρ x)).map fun r => (r, .none)
  | .convert src dst x => (convTop tb H src dst (ρ x)).map fun r => (r, .none)
  | .makeInterface t x => match (tb t).k with
    | .ptr _ => some (.iface t (ρ x), .none)
    | _ => none
  | .makeFunc fn first caps => match fn with
    | .func f => some (.fn f (first.toList.map ρ) (caps.toList.map ρ), .none)
    | _ => none
  | .makeMap t r => match (tb t).k, r with
    | .map kt _, none => some (.map H.length, .new (.map (tb kt).flat []))
    | _, _ => none
  | .makeSlice t l c => makeTop tb H t (ρ l) (ρ c)
  | .slice t x lo hi mx => sliceTop tb H t (ρ x) (lo.map ρ) (hi.map ρ) (mx.map ρ)
  | .fieldAddr t x f => if (ρ x).cur H && (tb t).k.known then (fieldAddrV (tb t).k (ρ x) f).map fun r => (r, .none) else none
  | .field t x f => if (tb t).k.known then (fieldV (tb t).k (ρ x) f).map fun r => (r, .none) else none
  | .indexAddr t x i => match (tb t).k with
    | .slice e => if (tb e).k.known then (indexAddrV H (tb e).size (ρ x) (ρ i)).map fun r => (r, .none) else none
    | _ => none
  | .index t x i => match (tb t).k with
    | .str => (indexV (ρ x) (ρ i)).map fun r => (r, .none)
    | _ => none
  | .lookup t m k ok => match (tb t).k with
    | .map kt et => if (tb kt).key && (tb et).k.known && keyChk (tb kt).flat (ρ k) && mapKsOk H (ρ m) (tb kt).flat then (lookupV H (tb et).zeroV (ρ m) (ρ k) ok).map fun r => (r, .none) else none
    | _ => none
  | .mapUpdate t m k x | .insert t m k x => match (tb t).k with
    | .map kt _ => if (tb kt).key && keyChk (tb kt).flat (ρ k) && mapKsOk H (ρ m) (tb kt).flat then (updateV H (ρ m) (ρ k) (ρ x)).map fun e => (.undef, e) else none
    | _ => none
  | .typeAssert x _ asserted ok => match (tb asserted).k with
    | .ptr _ => if ok then (assertV (ρ x) (tb asserted).zero asserted).map fun r => (r, .none) else none
    | _ => none
  | .extract t i => (extractV (ρ t) i).map fun r => (r, .none)
  | .call c => match c.callee with
    | .builtin b => builtinTop tb H b c.argTypes.toList (c.args.toList.map ρ)
    | _ => none
  | _ => none
section
variable {P : Program} {B : Base} {G : Ghost} {H : List LObj} {w : World} {a : Act}
theorem Out.val (h : HRel B G H w) {s : Sem Value} {x : V} {v : Value} (hr : s.run P w = .ok v w) (hv : VRel G x v) : Out P B G H w (do Pure.pure (Next.value (← s)) : Sem Next) x Eff.none :=
  Out.pure h (v := v) (by simp [hr]) hv
theorem psRel_of {ρ : Operand → V} (ha : ∀ x, VRel G (ρ x) (a.eval x)) : ∀ ps : List (Nat × Operand), PsRel G (ps.map fun p => (p.1, ρ p.2)) (ps.map fun p => (p.1, a.eval p.2))
  | [] => by simp [PsRel]
  | p :: ps => by
    simp only [List.map_cons, PsRel]
    exact ⟨_, _, rfl, ha p.2, psRel_of ha ps⟩
theorem vsRel_of {ρ : Operand → V} (ha : ∀ x, VRel G (ρ x) (a.eval x)) : ∀ xs : List Operand, VsRel G (xs.map ρ) (xs.map a.eval)
  | [] => by simp [VsRel]
  | x :: xs => by simp only [List.map_cons, VsRel]; exact ⟨_, _, rfl, ha x, vsRel_of ha xs⟩
theorem bsRel_of {ρ : Operand → V} (ha : ∀ x, VRel G (ρ x) (a.eval x)) (x : Option Operand) : BsRel G (x.map ρ) (x.map a.eval) := by
  cases x with
  | none => simp [BsRel]
  | some x => simp only [Option.map_some, BsRel]; exact ⟨_, rfl, ha x⟩
theorem snd_nilEq {k : TyK} {t : TypeId} (hk : k.Ok P t) {x y : V} {vx vy : Value} {b : Bool} (hx : VRel G x vx) (hy : VRel G y vy) (he : nilEqV k x y = some b) (ox oy : Operand) :
    (Op.equal t vx vy).run P w = .ok b w ∧ ∀ op, (eqGuard op t ox oy vx vy).run P w = .ok () w := by
  have up : ∀ (d : TypeDesc) (u v : Value), P.underlying t = some d → (∀ n, (Op.equalIn (n + 1) t u v).run P w = .ok b w) → (Op.equal t u v).run P w = .ok b w := fun d u v _ h => h 9999
  cases k <;> cases x <;> (try (simp [nilEqV] at he; done))
  · rename_i e d
    cases d <;> (try (simp [nilEqV] at he; done))
    rename_i nl len els
    cases y <;> (try (simp [nilEqV] at he; done))
    rename_i d
    cases d <;> (try (simp [nilEqV] at he; done))
    rename_i nl' len' els'
    cases nl' <;> simp [nilEqV] at he
    subst he
    simp only [VRel, DRel] at hx hy
    obtain ⟨a1, cap, sz, e1, _, _, _, h4, _⟩ := hx
    obtain ⟨a2, cap2, sz2, e2, _, _, _, h5, _⟩ := hy
    subst e1 e2
    have ha2 : a2 = none := by simpa using h5
    subst ha2
    simp only [TyK.Ok] at hk
    refine ⟨up _ _ _ hk (fun n => ?_), fun op => eqGuard_data op t ox oy _ _ (by simp) (by simp)⟩
    cases a1 with
    | none => simp at h4; subst h4; simp [Op.equalIn, run_underlying hk]
    | some ad => simp at h4; subst h4; simp [Op.equalIn, run_underlying hk]
  all_goals
    cases y <;> (try (simp [nilEqV] at he; done))
    simp [nilEqV] at he
    subst he
    simp only [VRel] at hx hy
    simp only [TyK.Ok] at hk
  · obtain ⟨_, rfl⟩ := hx
    subst hy
    refine ⟨up _ _ _ hk (fun n => ?_), fun op => eqGuard_data op t ox oy _ _ (by simp) (by simp)⟩
    simp [Op.equalIn, run_underlying hk]
  · subst hx hy
    refine ⟨up _ _ _ hk (fun n => ?_), fun op => eqGuard_data op t ox oy _ _ (by simp) (by simp)⟩
    simp [Op.equalIn, run_underlying hk]
  · obtain ⟨_, rfl⟩ := hx
    subst hy
    refine ⟨up _ _ _ hk (fun n => ?_), fun op => eqGuard_data op t ox oy _ _ (by simp) (by simp)⟩
    simp [Op.equalIn, run_underlying hk]
  · obtain ⟨ad, rfl, _⟩ := hx
    subst hy
    refine ⟨up _ _ _ hk (fun n => ?_), fun op => eqGuard_data op t ox oy _ _ (by simp) (by simp)⟩
    simp [Op.equalIn, run_underlying hk]
  · subst hx hy
    refine ⟨up _ _ _ hk (fun n => ?_), fun op => eqGuard_data op t ox oy _ _ (by simp) (by simp)⟩
    simp [Op.equalIn, run_underlying hk]
end
end Go.GL
