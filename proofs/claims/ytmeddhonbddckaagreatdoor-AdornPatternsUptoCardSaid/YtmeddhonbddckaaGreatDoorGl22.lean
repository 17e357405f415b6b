/- GL, part 22: regions by computation on states with symbols in them; calls by what they are told to give. -/
import Derived.Test.YtmeddhonbddckaaGreatDoorGl21
set_option linter.all false
namespace Go.GL
open Go.RowKit
/-- What a call is told to give: a function of data; a function that changes memory. -/
inductive Orc where
  | p (v : V)
  | e (v : V) (H : List LObj)
  | l (v : V) (args : List V)
inductive Obl where
  | p (g : FuncId) (args : List V) (v : V)
  | e (g : FuncId) (args : List V) (H : List LObj) (v : V) (H' : List LObj)
  | l (g : FuncId) (args : List V) (v : V)
  | eqVs (a b : List V)
  | eqV (a b : V)
  | eqH (a b : List LObj)
structure PSpec (P : Program) (f : FuncId) (args : List V) (v : V) : Prop where
  unders : V.unders 0 args
  val : v.under 0
  spec : Spec P f args [] fun x _ => x = v
def ESpec (P : Program) (f : FuncId) (args : List V) (H : List LObj) (v : V) (H' : List LObj) : Prop := Spec P f args H fun x H1 => x = v ∧ H1 = H'
def Obl.Holds (P : Program) : Obl → Prop
  | .p g args v => PSpec P g args v
  | .e g args H v H' => ESpec P g args H v H'
  | .l g args v => PSpec P g args v ∧ v.scalar = true
  | .eqVs a b => a = b
  | .eqV a b => a = b
  | .eqH a b => a = b
def Obls (P : Program) : List Obl → Prop
  | [] => True
  | [o] => o.Holds P
  | o :: r => o.Holds P ∧ Obls P r
theorem Obls.mem {P : Program} : ∀ {l : List Obl}, Obls P l → ∀ o, o ∈ l → o.Holds P
  | [o], h, x, hx => by simp at hx; subst hx; exact h
  | o :: o' :: r, h, x, hx => by
    rcases List.mem_cons.1 hx with rfl | hx
    · exact h.1
    · exact Obls.mem (l := o' :: r) h.2 x hx
structure SOp where
  dst : Option Tmp
  op : Op
  guard : Option (Option Tmp × Bool)
def slim (ops : List Oper) (o : Oper) : SOp := ⟨o.dst, o.op, o.guard.map fun g => ((ops[g.1]?).bind (·.dst), g.2)⟩
def slims (ops : List Oper) : List SOp := ops.map (slim ops)
def wantS (o : SOp) (env : List (Nat × V)) : Option Bool :=
  match o.guard with
  | none => some true
  | some (some d, want) => match eget env d with
    | .data (.bool b) => some (b == want)
    | .tup [] => some false
    | _ => none
  | some (none, _) => none
theorem wantS_eq (ops : List Oper) (o : Oper) (env : List (Nat × V)) : wantV ops o env = wantS (slim ops o) env := by
  unfold wantV wantS slim
  cases o.guard with
  | none => rfl
  | some g =>
    obtain ⟨j, want⟩ := g
    simp only [Option.map_some]
    cases (ops[j]?).bind (·.dst) <;> rfl
def callS (orc : List Orc) (g : FuncId) (args : List V) (H : List LObj) : Option (V × List LObj × List Orc × List Obl) :=
  match orc with
  | .p v :: r => match frzs H args with
    | (args', H1) => some (v, H1, r, [.p g args' v])
  | .e v H' :: r => some (v, H', r, [.e g args H v H'])
  | .l v args' :: r => some (v, H, r, [.l g args' v, .eqVs (frzs H args).1 args'])
  | [] => none
def stepS (tb : TypeId → TyI) (o : Op) (env : List (Nat × V)) (H : List LObj) (orc : List Orc) : Option (V × List LObj × List Orc × List Obl) :=
  match calleeOf o with
  | some (f, xs) => match evalE env f with
    | .fn g fs caps => callS orc g (fs ++ xs.toList.map (evalE env) ++ caps) H
    | _ => none
  | none => match evalF tb env H o with
    | some (v, H') => some (v, H', orc, [])
    | none => none
section
variable {P : Program}
theorem stepS_sound {E : Env P} {o : Oper} {env : List (Nat × V)} {H : List LObj} {orc orc' : List Orc} {v : V} {H' : List LObj} {ob : List Obl} (h : stepS E.tb o.op env H orc = some (v, H', orc', ob)) (hob : ∀ x, x ∈ ob → x.Holds P) : Does E o env H v H' := by
  unfold stepS at h
  unfold Does
  split at h
  · rename_i f xs hc
    rw [hc]
    simp only
    split at h
    · rename_i g fs caps hf
      rw [hf]
      simp only
      unfold callS at h
      split at h
      · split at h
        rename_i args' H1 hfz
        simp only [Option.some.injEq, Prod.mk.injEq] at h
        obtain ⟨rfl, rfl, rfl, rfl⟩ := h
        have := hob _ (List.mem_singleton.2 rfl)
        exact ⟨args', H1, .inr hfz, this.spec.hide this.unders this.val _⟩
      · simp only [Option.some.injEq, Prod.mk.injEq] at h
        obtain ⟨rfl, rfl, rfl, rfl⟩ := h
        have := hob _ (List.mem_singleton.2 rfl)
        exact ⟨_, _, .inl ⟨rfl, rfl⟩, this⟩
      · simp only [Option.some.injEq, Prod.mk.injEq] at h
        obtain ⟨rfl, rfl, rfl, rfl⟩ := h
        rename_i v0 args' _ 
        have h1 : PSpec P g args' v0 ∧ v0.scalar = true := hob (.l g args' v0) (by simp)
        have h2 : (frzs H (fs ++ xs.toList.map (evalE env) ++ caps)).1 = args' := hob (.eqVs _ _) (by simp)
        exact ⟨_, _, .inl ⟨rfl, rfl⟩, h1.1.spec.lend h1.1.unders h1.2 h2⟩
      · cases h
    · cases h
  · rename_i hc
    rw [hc]
    simp only
    split at h
    · rename_i v0 H0 he
      simp at h
      obtain ⟨rfl, rfl, _, _⟩ := h
      exact he
    · cases h
def opsS (tb : TypeId → TyI) : List SOp → List (Nat × V) → List LObj → List Orc → List Obl → Option (List (Nat × V) × List LObj × List Obl)
  | [], env, H, orc, ob => match orc with
    | [] => some (env, H, ob)
    | _ :: _ => none
  | o :: r, env, H, orc, ob => match wantS o env with
    | some true => match stepS tb o.op env H orc with
      | some (v, H', orc', ob') => opsS tb r (putE o.dst v env) H' orc' (ob' ++ ob)
      | none => none
    | some false => opsS tb r (putE o.dst (.tup []) env) H orc ob
    | none => none
theorem opsS_ob {tb : TypeId → TyI} : ∀ {l : List SOp} {env : List (Nat × V)} {H : List LObj} {orc : List Orc} {ob : List Obl} {env' : List (Nat × V)} {H' : List LObj} {ob' : List Obl}, opsS tb l env H orc ob = some (env', H', ob') → ∀ o, o ∈ ob → o ∈ ob'
  | [], env, H, orc, ob, env', H', ob', h, o, ho => by
    unfold opsS at h
    split at h
    · simp at h; obtain ⟨_, _, rfl⟩ := h; exact ho
    · cases h
  | x :: r, env, H, orc, ob, env', H', ob', h, o, ho => by
    unfold opsS at h
    split at h
    · split at h
      · exact opsS_ob h o (by simp [ho])
      · cases h
    · exact opsS_ob h o ho
    · cases h
theorem opsS_sound {E : Env P} {ops : List Oper} {K : St → Prop} : ∀ {l : List Oper} {env : List (Nat × V)} {H : List LObj} {orc : List Orc} {ob : List Obl} {env' : List (Nat × V)} {H' : List LObj} {ob' : List Obl}, opsS E.tb (l.map (slim ops)) env H orc ob = some (env', H', ob') → (∀ o, o ∈ ob' → o.Holds P) → K ⟨env', H'⟩ → Ops E ops l ⟨env, H⟩ K
  | [], env, H, orc, ob, env', H', ob', h, _, hk => by
    simp only [List.map_nil, opsS] at h
    split at h
    · simp at h; obtain ⟨rfl, rfl, _⟩ := h; exact hk
    · cases h
  | o :: r, env, H, orc, ob, env', H', ob', h, hob, hk => by
    simp only [List.map_cons, opsS] at h
    unfold Ops
    rw [wantS_eq]
    split at h
    · rename_i hw
      simp only [hw]
      split at h
      · rename_i v H1 orc1 ob1 hs
        exact (stepS_sound hs fun x hx => hob x (opsS_ob h x (by simp [hx]))).step (opsS_sound h hob hk)
      · cases h
    · rename_i hw
      simp only [hw]
      exact opsS_sound h hob hk
    · cases h
/-- What is known of temporaries that live on. -/
def keep (live : List Tmp) (env : List (Nat × V)) : List (Nat × V) := live.map fun t => (t, eget env t)
theorem eget_keep : ∀ (live : List Tmp) (env : List (Nat × V)) (i : Nat), eget (keep live env) i = .undef ∨ eget (keep live env) i = eget env i
  | [], env, i => .inl rfl
  | t :: r, env, i => by
    simp only [keep, List.map_cons, eget]
    by_cases h : i = t
    · subst h; simp
    · rw [if_neg h]; exact eget_keep r env i
theorem Good.keep {C : Cx P} {G : Ghost} {env : List (Nat × V)} {H : List LObj} {a : Act} {w : World} (h : Good C G ⟨env, H⟩ a w) (live : List Tmp) : Good C G ⟨GL.keep live env, H⟩ a w := by
  refine ⟨h.le, h.n, fun i => ?_, h.rel.size, h.rel.defers, h.rel.h⟩
  rcases eget_keep live env i with e | e <;> simp only [e]
  · simp [VRel]
  · exact h.rel.env i
theorem T.mono {C : Cx P} {c : Code} {st : St} {K K' : Exit → St → Prop} (h : T C c st K) (hk : ∀ e st, K e st → K' e st) : T C c st K' :=
  fun G a w hg => wp_mono (h G a w hg) fun e a' w' ⟨G', st', h1, h2⟩ => ⟨G', st', h1, hk _ _ h2⟩
theorem T.live {C : Cx P} {c : Code} {st : St} {K : Exit → St → Prop} (live : List Tmp) (h : T C c st fun e st' => K e ⟨keep live st'.env, st'.H⟩) : T C c st K :=
  fun G a w hg => wp_mono (h G a w hg) fun e a' w' ⟨G', st', h1, h2⟩ => ⟨G', _, h1.keep live, h2⟩
def regS (tb : TypeId → TyI) (live : List Tmp) (ops : List Oper) (env : List (Nat × V)) (H : List LObj) (orc : List Orc) : Option (St × List Obl) :=
  match opsS tb (slims ops) env H orc [] with
  | some (env', H', ob) => some (⟨keep live env', H'⟩, ob)
  | none => none
def dstsOk (nt : Nat) (ops : List Oper) : Bool := ops.all fun o => match o.dst with | some d => decide (d < nt) | none => true
theorem dstsOk_spec {nt : Nat} {ops : List Oper} (h : dstsOk nt ops = true) : ∀ o, o ∈ ops → ∀ d, o.dst = some d → d < nt := by
  intro o ho d hd
  have := List.all_eq_true.1 h o ho
  rw [hd] at this
  simpa using this
theorem T.reg {C : Cx P} {tb : TypeId → TyI} (hE : C.E.tb = tb) {nt : Nat} (hnt : C.nt = nt) {id : Nat} {ops : List Oper} (hd : dstsOk nt ops = true) (live : List Tmp) (orc : List Orc) {env : List (Nat × V)} {H : List LObj} {K : Exit → St → Prop} {R : St} {ob : List Obl}
    (h : regS tb live ops env H orc = some (R, ob)) (hob : Obls P ob) (hk : K .normal R) : T C (.region id ⟨ops⟩ false) ⟨env, H⟩ K := by
  subst hE hnt
  unfold regS at h
  split at h
  · rename_i env' H' ob' hs
    simp at h
    obtain ⟨rfl, rfl⟩ := h
    refine T.live live (T.region (dstsOk_spec hd) ?_)
    exact opsS_sound hs hob.mem hk
  · cases h
/-- A slice that is nil is a row that holds nothing. -/
theorem T.mkRow {C : Cx P} {c : Code} {env : List (Nat × V)} {H : List LObj} {K : Exit → St → Prop} (t : Tmp) (ty sz : Nat) (hsz : 0 < sz) {n : Nat} {els : List (List D)} (hx : eget env t = .data (.slice true n els)) (h : T C c ⟨(t, .row H.length 0) :: env, H ++ [.row ty sz 0 0 []]⟩ K) : T C c ⟨env, H⟩ K := by
  intro G a w hg
  have hv := hg.rel.env t
  simp only at hv
  rw [hx] at hv
  have hnil : a.tmps.getD t undef = .slice none 0 0 := by
    simp only [VRel, DRel] at hv
    obtain ⟨a1, cap, sz, e1, h1, h2, h3, h4, h5, _⟩ := hv
    have hc := h5 trivial
    have ha : a1 = none := by simpa using h4
    have hl : n = 0 := by omega
    subst hc ha hl
    exact e1
  have hH := hg.rel.h
  have hn := hH.n
  simp only at hn
  obtain ⟨hG, hR⟩ := hH.new (w' := w) ⟨rfl, rfl, rfl, Nat.le_refl _, fun _ _ _ => rfl⟩ (.row ty sz 0 0 []) w.heap.size (.slice none 0 0) 0 (Nat.le_refl _) (by
    simp only [ORel, if_true]
    exact ⟨trivial, ⟨Nat.le_refl _, fun _ _ => trivial⟩, hsz, by simp, [], by simp [World.ownsRow], by simp [DsRel]⟩) (by
    intro g hgg
    simp [LObj.blk, Value.ownBlock] at hgg)
  refine h _ a w ⟨hg.le.step hg.n hG, Nat.le_trans hg.n hG.n, fun i => ?_, hg.rel.size, hg.rel.defers, hR⟩
  simp only [eget]
  by_cases hi : i = t
  · subst hi
    rw [if_pos rfl, hnil]
    simp only [VRel]
    exact ⟨by rw [hn]; exact Nat.lt_succ_self _, by simp [hn], by simp [hn]⟩
  · rw [if_neg hi]
    exact (hg.rel.env i).mono hG
/-- An object that nobody asks for any more. -/
theorem T.kill {C : Cx P} {c : Code} {env : List (Nat × V)} {H : List LObj} {K : Exit → St → Prop} (o : Nat) (h : T C c ⟨env, H.set o .dead⟩ K) : T C c ⟨env, H⟩ K := by
  intro G a w hg
  have hH := hg.rel.h
  have old : ∀ {p : Nat} {y : LObj}, (H.set o .dead)[p]? = some y → H[p]? = some y ∨ y = .dead := by
    intro p y hp
    rw [List.getElem?_set] at hp
    split at hp
    · split at hp
      · simp at hp; exact .inr hp.symm
      · cases hp
    · exact .inl hp
  refine h G a w ⟨hg.le, hg.n, hg.rel.env, hg.rel.size, hg.rel.defers, ?_⟩
  refine ⟨by simpa using hH.n, ?_, ?_, ?_, ?_, hH.holds, hH.F0, hH.Fnew, hH.fr⟩
  · intro p y hp
    rcases old hp with h1 | rfl
    · exact hH.objs p y h1
    · simp [ORel]
  · intro p y b hp hb
    rcases old hp with h1 | rfl
    · exact hH.own p y b h1 hb
    · simp [LObj.blk] at hb
  · intro p q y z b hp hq hb hc
    rcases old hp with h1 | rfl
    · rcases old hq with h2 | rfl
      · exact hH.inj p q y z b h1 h2 hb hc
      · simp [LObj.blk] at hc
    · simp [LObj.blk] at hb
  · intro p y b ad u hp hb hu had
    rcases old hp with h1 | rfl
    · exact hH.free p y b ad u h1 hb hu had
    · simp [LObj.blk] at hb
/-- A row is looked at as a part of itself; a row's head becomes the row. -/
theorem T.view {C : Cx P} {c : Code} {env : List (Nat × V)} {H : List LObj} {K : Exit → St → Prop} (t : Tmp) {r ver : Nat} (hx : eget env t = .row r ver) {ty sz fz : Nat} {els : List (List D)} (hr : H[r]? = some (.row ty sz ver fz els))
    (h : T C c ⟨(t, .sub r ver sz 0 els.length) :: env, H⟩ K) : T C c ⟨env, H⟩ K := by
  intro G a w hg
  have hv := hg.rel.env t
  simp only at hv
  rw [hx] at hv
  refine h G a w ⟨hg.le, hg.n, fun i => ?_, hg.rel.size, hg.rel.defers, hg.rel.h⟩
  simp only [eget]
  by_cases hi : i = t
  · subst hi
    rw [if_pos rfl]
    exact sub_of_row hg.rel.h hr hv
  · rw [if_neg hi]
    exact hg.rel.env i
theorem T.cut {C : Cx P} {c : Code} {env : List (Nat × V)} {H : List LObj} {K : Exit → St → Prop} (t : Tmp) {r ver sz n : Nat} (hx : eget env t = .sub r ver sz 0 n) {ty fz : Nat} {els : List (List D)} (hr : H[r]? = some (.row ty sz ver fz els)) (hf : fz ≤ n)
    (h : T C c ⟨(t, .row r (ver + 1)) :: env, H.set r (.row ty sz (ver + 1) fz (els.take n))⟩ K) : T C c ⟨env, H⟩ K := by
  intro G a w hg
  have hv := hg.rel.env t
  simp only at hv
  rw [hx] at hv
  obtain ⟨G', hle, hn, hH, hv'⟩ := hg.rel.h.cutRow hr hv hf
  refine h G' a w ⟨hg.le.step hg.n hle, Nat.le_trans hg.n hle.n, fun i => ?_, hg.rel.size, hg.rel.defers, hH⟩
  simp only [eget]
  by_cases hi : i = t
  · subst hi
    rw [if_pos rfl]
    exact hv'
  · rw [if_neg hi]
    exact (hg.rel.env i).mono hle
/-- A region comes to R. -/
def RegOk (P : Program) (tb : TypeId → TyI) (live : List Tmp) (ops : List Oper) (st : St) (R : St) : Prop := ∃ orc ob, regS tb live ops st.env st.H orc = some (R, ob) ∧ Obls P ob
theorem T.regK {C : Cx P} {tb : TypeId → TyI} (hE : C.E.tb = tb) {nt : Nat} (hnt : C.nt = nt) {id : Nat} {ops : List Oper} (hd : dstsOk nt ops = true) (live : List Tmp) {st : St} {K : Exit → St → Prop} (R : St) (h : RegOk P tb live ops st R) (hk : K .normal R) : T C (.region id ⟨ops⟩ false) st K := by
  obtain ⟨orc, ob, h1, h2⟩ := h
  obtain ⟨env, H⟩ := st
  exact T.reg hE hnt hd live orc h1 h2 hk
/-- A temporary's row becomes data. -/
theorem T.frz {C : Cx P} {c : Code} {env : List (Nat × V)} {H : List LObj} {K : Exit → St → Prop} (t : Tmp) {x : V} {H' : List LObj} (hx : GL.frz H (eget env t) = (x, H')) (h : T C c ⟨(t, x) :: env, H'⟩ K) : T C c ⟨env, H⟩ K := by
  intro G a w hg
  obtain ⟨G', hf, hr⟩ := frz_sound hg.rel.h (hg.rel.env t)
  rw [hx] at hf hr
  refine h G' a w ⟨hg.le.step hg.n hf.le, Nat.le_trans hg.n hf.le.n, fun i => ?_, hg.rel.size, hg.rel.defers, hf.h⟩
  simp only [eget]
  by_cases hi : i = t
  · subst hi
    simpa using hr
  · rw [if_neg hi]
    exact (hg.rel.env i).mono hf.le
/-- A row that was put together is handed on as data; nobody writes it any more. -/
theorem T.take {C : Cx P} {c : Code} {env : List (Nat × V)} {H : List LObj} {K : Exit → St → Prop} (t : Tmp) {r ver : Nat} (hx : eget env t = .row r ver) {ty sz fz : Nat} {els : List (List D)} (hr : H[r]? = some (.row ty sz ver fz els)) (h0 : els = [] → ver = 0)
    (h : T C c ⟨(t, .data (.slice els.isEmpty els.length els)) :: env, H.set r .dead⟩ K) : T C c ⟨env, H⟩ K := by
  cases els with
  | nil =>
    refine T.frz t (x := .data (.slice true 0 [])) (H' := H) ?_ (T.kill r h)
    rw [hx]
    unfold GL.frz
    rw [hr]
    simp [h0 rfl]
  | cons e es =>
    refine T.frz t (x := .data (.slice false (es.length + 1) (e :: es))) (H' := H.set r (.row ty sz ver (es.length + 1) (e :: es))) ?_ (T.kill r ?_)
    · rw [hx]
      unfold GL.frz
      rw [hr]
      simp
    · rw [List.set_set]
      exact h
/-! ### drawn order -/
/-- One operation at older heaps: the same. -/
def backS (tb : TypeId → TyI) (o : Op) (env : List (Nat × V)) (orc : List Orc) (v : V) : List (Option (List LObj)) → Option (List Obl)
  | [] => some []
  | none :: hs => backS tb o env orc v hs
  | some H :: hs => match stepS tb o env H orc, backS tb o env orc v hs with
    | some (u, H', _, ob), some ob' => some (.eqV u v :: .eqH H' H :: (ob ++ ob'))
    | _, _ => none
def planS (tb : TypeId → TyI) (ops : List SOp) : List PE → List (Nat × V) → List LObj → List (Option (List LObj)) → List Orc → List Obl → Option (List (Nat × V) × List LObj × List Obl)
  | [], env, H, _, orc, ob => match orc with
    | [] => some (env, H, ob)
    | _ :: _ => none
  | e :: r, env, H, hs, orc, ob => match ops[e.i]? with
    | none => none
    | some o => match wantS o env with
      | none => none
      | some false => planS tb ops r (putE o.dst (.tup []) env) H (none :: hs) orc ob
      | some true => match stepS tb o.op env H orc with
        | none => none
        | some (v, H', orc', ob') => match e.eff with
          | true => planS tb ops r (putE o.dst v env) H' (some H :: hs) orc' (ob' ++ ob)
          | false => match backS tb o.op env orc v (hs.take e.back) with
            | none => none
            | some ob2 => planS tb ops r (putE o.dst v env) H (none :: hs) orc' (.eqH H' H :: (ob' ++ (ob2 ++ ob)))
/-- The heaps behind the present one. -/
def olds : List LObj → List (Option (List LObj)) → List (List LObj)
  | _, [] => []
  | H, none :: hs => H :: olds H hs
  | _, some H :: hs => H :: olds H hs
theorem backS_sound {E : Env P} {o : Oper} {env : List (Nat × V)} {orc : List Orc} {v : V} : ∀ (hs : List (Option (List LObj))) (k : Nat) (H : List LObj) (ob : List Obl), Does E o env H v H → backS E.tb o.op env orc v (hs.take k) = some ob → (∀ x, x ∈ ob → x.Holds P) → ∀ Hb, Hb ∈ (olds H hs).take k → Does E o env Hb v Hb
  | [], k, H, ob, _, _, _, Hb, hm => by simp [olds] at hm
  | _, 0, H, ob, _, _, _, Hb, hm => by simp at hm
  | none :: hs, k + 1, H, ob, hd, hb, hob, Hb, hm => by
    simp only [olds, List.take_succ_cons, List.mem_cons] at hm
    simp only [List.take_succ_cons, backS] at hb
    rcases hm with rfl | hm
    · exact hd
    · exact backS_sound hs k H ob hd hb hob Hb hm
  | some H0 :: hs, k + 1, H, ob, hd, hb, hob, Hb, hm => by
    simp only [olds, List.take_succ_cons, List.mem_cons] at hm
    simp only [List.take_succ_cons, backS] at hb
    split at hb
    · rename_i u H' orc' ob1 ob2 h1 h2
      simp only [Option.some.injEq] at hb
      subst hb
      have e1 : u = v := hob (.eqV u v) (by simp)
      have e2 : H' = H0 := hob (.eqH H' H0) (by simp)
      subst e1 e2
      have hd0 := stepS_sound h1 fun x hx => hob x (by simp [hx])
      rcases hm with rfl | hm
      · exact hd0
      · exact backS_sound hs k _ ob2 hd0 h2 (fun x hx => hob x (by simp [hx])) Hb hm
    · cases hb
theorem planS_ob {tb : TypeId → TyI} {ops : List SOp} : ∀ {l : List PE} {env : List (Nat × V)} {H : List LObj} {hs : List (Option (List LObj))} {orc : List Orc} {ob : List Obl} {env' : List (Nat × V)} {H' : List LObj} {ob' : List Obl}, planS tb ops l env H hs orc ob = some (env', H', ob') → ∀ o, o ∈ ob → o ∈ ob'
  | [], env, H, hs, orc, ob, env', H', ob', h, o, ho => by
    unfold planS at h
    split at h
    · simp at h; obtain ⟨_, _, rfl⟩ := h; exact ho
    · cases h
  | x :: r, env, H, hs, orc, ob, env', H', ob', h, o, ho => by
    unfold planS at h
    split at h
    · cases h
    · split at h
      · cases h
      · exact planS_ob h o ho
      · split at h
        · cases h
        · split at h
          · exact planS_ob h o (by simp [ho])
          · split at h
            · cases h
            · exact planS_ob h o (by simp [ho])
theorem planS_sound {E : Env P} {ops : Array Oper} {K : St → Prop} : ∀ {l : List PE} {env : List (Nat × V)} {H : List LObj} {hs : List (Option (List LObj))} {orc : List Orc} {ob : List Obl} {env' : List (Nat × V)} {H' : List LObj} {ob' : List Obl}, planS E.tb (slims ops.toList) l env H hs orc ob = some (env', H', ob') → (∀ o, o ∈ ob' → o.Holds P) → K ⟨env', H'⟩ → DOps E ops l env (H :: olds H hs) K
  | [], env, H, hs, orc, ob, env', H', ob', h, _, hk => by
    unfold planS at h
    split at h
    · simp at h; obtain ⟨rfl, rfl, _⟩ := h; exact hk
    · cases h
  | e :: r, env, H, hs, orc, ob, env', H', ob', h, hob, hk => by
    unfold planS at h
    unfold DOps
    have eo : (slims ops.toList)[e.i]? = (ops[e.i]?).map (slim ops.toList) := by simp [slims]
    rw [eo] at h
    cases ho : ops[e.i]? with
    | none => rw [ho] at h; simp at h
    | some o =>
      rw [ho] at h
      simp only [Option.map_some] at h ⊢
      rw [wantS_eq]
      split at h
      · cases h
      · rename_i hw
        simp only [hw]
        exact planS_sound (hs := none :: hs) h hob hk
      · rename_i hw
        simp only [hw]
        split at h
        · cases h
        · rename_i v H1 orc1 ob1 hs1
          split at h
          · rename_i he
            refine ⟨v, H1, stepS_sound hs1 fun x hx => hob x (planS_ob h x (by simp [hx])), by simp [he], ?_⟩
            exact planS_sound (hs := some H :: hs) h hob hk
          · rename_i he
            split at h
            · cases h
            · rename_i ob2 hb
              have hd := stepS_sound hs1 fun x hx => hob x (planS_ob h x (by simp [hx]))
              have e1 : H1 = H := hob (.eqH H1 H) (planS_ob h _ (by simp))
              subst e1
              refine ⟨v, H1, hd, fun _ => ⟨rfl, ?_⟩, ?_⟩
              · exact backS_sound hs e.back H1 ob2 hd hb fun x hx => hob x (planS_ob h x (by simp [hx]))
              · exact planS_sound (hs := none :: hs) h hob hk
def regD (tb : TypeId → TyI) (plan : List PE) (live : List Tmp) (ops : List Oper) (env : List (Nat × V)) (H : List LObj) (orc : List Orc) : Option (St × List Obl) :=
  match planS tb (slims ops) plan env H [] orc [] with
  | some (env', H', ob) => some (⟨keep live env', H'⟩, ob)
  | none => none
theorem T.regD {C : Cx P} {tb : TypeId → TyI} (hE : C.E.tb = tb) {nt : Nat} (hnt : C.nt = nt) {id : Nat} {ops : List Oper} (hd : dstsOk nt ops = true) (plan : List PE) (hp : planOk ⟨ops⟩ plan (ancsL ⟨ops⟩ ops.length) = true) (live : List Tmp) (orc : List Orc) {env : List (Nat × V)} {H : List LObj} {K : Exit → St → Prop} {R : St} {ob : List Obl}
    (h : GL.regD tb plan live ops env H orc = some (R, ob)) (hob : Obls P ob) (hk : K .normal R) : T C (.region id ⟨ops⟩ true) ⟨env, H⟩ K := by
  subst hE hnt
  unfold GL.regD at h
  split at h
  · rename_i env' H' ob' hs
    simp only [Option.some.injEq, Prod.mk.injEq] at h
    obtain ⟨rfl, rfl⟩ := h
    refine T.live live (T.drawn plan _ hp (dstsOk_spec hd) ?_)
    exact planS_sound (hs := []) hs hob.mem hk
  · cases h
def RegDOk (P : Program) (tb : TypeId → TyI) (plan : List PE) (live : List Tmp) (ops : List Oper) (st : St) (R : St) : Prop := ∃ orc ob, GL.regD tb plan live ops st.env st.H orc = some (R, ob) ∧ Obls P ob
theorem T.regDK {C : Cx P} {tb : TypeId → TyI} (hE : C.E.tb = tb) {nt : Nat} (hnt : C.nt = nt) {id : Nat} {ops : List Oper} (hd : dstsOk nt ops = true) (plan : List PE) (hp : planOk ⟨ops⟩ plan (ancsL ⟨ops⟩ ops.length) = true) (live : List Tmp) {st : St} {K : Exit → St → Prop} (R : St) (h : RegDOk P tb plan live ops st R) (hk : K .normal R) : T C (.region id ⟨ops⟩ true) st K := by
  obtain ⟨orc, ob, h1, h2⟩ := h
  obtain ⟨env, H⟩ := st
  exact T.regD hE hnt hd plan hp live orc h1 h2 hk
/-! ### functions -/
/-- What a function's body leaves. -/
def Fin (tb : TypeId → TyI) (rs : List ResultVar) (v : V) (e : Exit) (st : St) : Prop := (e = .normal ∨ e = .ret) ∧ ∃ vs, resVs tb st.H st.env rs = some vs ∧ (frz st.H (packV vs)).1 = v
def FinE (tb : TypeId → TyI) (rs : List ResultVar) (v : V) (H : List LObj) (e : Exit) (st : St) : Prop := (e = .normal ∨ e = .ret) ∧ (∃ vs, resVs tb st.H st.env rs = some vs ∧ packV vs = v) ∧ st.H = H
structure FnAt (P : Program) (f : FuncId) (nt : Nat) (rs : List ResultVar) (c : Code) : Prop where
  ex : ∃ fn, P.funcs[f]? = some fn ∧ (fn.name == "runtime.NumGoroutine") = false ∧ fn.body = some c ∧ fn.ntmps = nt ∧ fn.results.toList = rs
theorem pspec_of (E : Env P) {tb : TypeId → TyI} (hE : E.tb = tb) {f : FuncId} {nt : Nat} {rs : List ResultVar} {c : Code} (hf : FnAt P f nt rs c) {args : List V} {v : V} (ha : args.length ≤ nt) (hu : V.unders 0 args) (hv : v.under 0)
    (h : ∀ C : Cx P, C.E.tb = tb → C.nt = nt → C.G0.n = 0 → T C c ⟨argEnv args, []⟩ (Fin tb rs v)) : PSpec P f args v := by
  obtain ⟨fn, h1, h2, h3, rfl, rfl⟩ := hf.ex
  subst hE
  have key : Spec P f args [] fun x H => (frz H x).1 = v := by
    refine spec_of E h1 h2 h3 ha fun C hCE hCn hCG => ?_
    refine (h C (by rw [hCE]) hCn hCG).mono ?_
    rintro e st ⟨he, vs, hvs, hp⟩
    exact ⟨he, vs, hvs, hp⟩
  refine ⟨hu, hv, key.1, fun B kn G w vals hH hargs => (key.2 B kn G w vals hH hargs).mono ?_⟩
  rintro e w' ⟨G1, vv, x, H1, rfl, rfl, hle, hH', hvv⟩
  obtain ⟨G2, hf, hr⟩ := frz_sound hH' hvv
  exact ⟨G2, vv, _, _, rfl, rfl, hle.trans hf.le, hf.h, hr⟩
theorem espec_of (E : Env P) {tb : TypeId → TyI} (hE : E.tb = tb) {f : FuncId} {nt : Nat} {rs : List ResultVar} {c : Code} (hf : FnAt P f nt rs c) {args : List V} {H : List LObj} {v : V} {H' : List LObj} (ha : args.length ≤ nt)
    (h : ∀ C : Cx P, C.E.tb = tb → C.nt = nt → C.G0.n = H.length → T C c ⟨argEnv args, H⟩ (FinE tb rs v H')) : ESpec P f args H v H' := by
  obtain ⟨fn, h1, h2, h3, rfl, rfl⟩ := hf.ex
  refine spec_of E h1 h2 h3 ha fun C hCE hCn hCG => ?_
  subst hE
  refine (h C (by rw [hCE]) hCn hCG).mono ?_
  rintro e st ⟨he, ⟨vs, hvs, hp⟩, hH⟩
  exact ⟨he, vs, hvs, hp, hH⟩
end
end Go.GL
