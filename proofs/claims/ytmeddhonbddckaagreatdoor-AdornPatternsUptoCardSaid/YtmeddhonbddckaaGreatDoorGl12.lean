/- GL, part 12: the model does what the evaluated operation says. -/
import Derived.Test.YtmeddhonbddckaaGreatDoorGl11
set_option linter.all false
namespace Go.GL
open Go.RowKit
section
variable {P : Program} {B : Base} {G : Ghost} {H : List LObj} {w : World} {a : Act}

theorem snd_binTop {E : Env P} {op : BinOp} {t : TypeId} {x y r : V} {vx vy : Value} (ox oy : Operand) (hx : VRel G x vx) (hy : VRel G y vy) (he : binTop (E.tb t) op x y = some r) :
    ∃ v, (do eqGuard op t ox oy vx vy; binOp op t vx vy : Sem Value).run P w = .ok v w ∧ VRel G r v := by
  have basic : ∀ {r}, binV op x y = some r → (∀ b, x = .data (.bool b) → P.underlying t = some .bool) → ∃ v, (do eqGuard op t ox oy vx vy; binOp op t vx vy : Sem Value).run P w = .ok v w ∧ VRel G r v := fun h hb => snd_bin t ox oy hx hy h hb
  have nile : ∀ {k : TyK} {r}, k.Ok P t → (match nilEqV k x y, op with | some b, .eql => some (V.data (.bool b)) | some b, .neq => some (V.data (.bool !b)) | _, _ => none) = some r → ∃ v, (do eqGuard op t ox oy vx vy; binOp op t vx vy : Sem Value).run P w = .ok v w ∧ VRel G r v := by
    intro k r hk h
    cases hn : nilEqV k x y with
    | none => rw [hn] at h; simp at h
    | some b =>
      rw [hn] at h
      obtain ⟨h1, h2⟩ := snd_nilEq (w := w) hk hx hy hn ox oy
      have nostr : (∀ s, vx ≠ .string s) ∧ (∀ k n, vx ≠ .int k n) ∧ (∀ k n, vx ≠ .float k n) ∧ (∀ k n m, vx ≠ .complex k n m) := by
        cases k <;> cases x <;> (try (simp [nilEqV] at hn; done)) <;> simp only [VRel] at hx
        · rename_i d
          cases d <;> (try (simp [nilEqV] at hn; done))
          simp only [DRel] at hx
          obtain ⟨a1, cap, sz, e1, _⟩ := hx
          subst e1
          simp
        · obtain ⟨_, rfl⟩ := hx; simp
        · subst hx; simp
        · obtain ⟨_, rfl⟩ := hx; simp
        · obtain ⟨ad, rfl, _⟩ := hx; simp
        · subst hx; simp
      have hb1 : (binOp .eql t vx vy) = (do pure (.bool (← Op.equal t vx vy)) : Sem Value) := by
        cases vx <;> first | rfl | (exfalso; exact nostr.1 _ rfl) | (exfalso; exact nostr.2.1 _ _ rfl) | (exfalso; exact nostr.2.2.1 _ _ rfl) | (exfalso; exact nostr.2.2.2 _ _ _ rfl)
      have hb2 : (binOp .neq t vx vy) = (do pure (.bool (!(← Op.equal t vx vy))) : Sem Value) := by
        cases vx <;> first | rfl | (exfalso; exact nostr.1 _ rfl) | (exfalso; exact nostr.2.1 _ _ rfl) | (exfalso; exact nostr.2.2.1 _ _ rfl) | (exfalso; exact nostr.2.2.2 _ _ _ rfl)
      cases op <;> simp at h
      · subst h
        refine ⟨.bool b, ?_, by simp [VRel, DRel]⟩
        simp only [Sem.run_bind, h2, Result.andThen_ok, hb1]
        simp [h1]
      · subst h
        refine ⟨.bool (!b), ?_, by simp [VRel, DRel]⟩
        simp only [Sem.run_bind, h2, Result.andThen_ok, hb2]
        simp [h1]
  cases hk : (E.tb t).k with
  | other => simp [binTop, hk, nilEqV] at he
  | struct fs =>
    have hok := E.tok t (by rw [hk]; rfl)
    simp only [binTop, hk] at he
    split at he
    · cases he
    · rename_i hf
      have hne : (E.tb t).flat ≠ [] := by intro h; rw [h] at hf; simp at hf
      obtain ⟨d, hd, hfl, hg⟩ := E.flat t fs hk hne
      have hk' := hok.k
      rw [hk] at hk'
      simp only [TyK.Ok] at hk'
      obtain ⟨fields, hu, _⟩ := hk'
      exact snd_aggEq hd hu hfl hg ox oy hx hy he
  | bool =>
    have hok := E.tok t (by rw [hk]; rfl)
    have hk' := hok.k
    rw [hk] at hk'
    simp only [binTop, hk] at he
    refine basic (r := r) ?_ (fun _ _ => hk')
    cases x <;> (try exact he)
    rename_i d
    cases d <;> exact he
  | int k =>
    simp only [binTop, hk] at he
    by_cases hb : ∃ b, x = .data (.bool b)
    · obtain ⟨b, rfl⟩ := hb
      cases he
    · refine basic (r := r) ?_ (fun b e => absurd ⟨b, e⟩ hb)
      cases x <;> (try exact he)
      rename_i d
      cases d <;> first | exact he | (exact absurd ⟨_, rfl⟩ hb)
  | str =>
    simp only [binTop, hk] at he
    by_cases hb : ∃ b, x = .data (.bool b)
    · obtain ⟨b, rfl⟩ := hb
      cases he
    · refine basic (r := r) ?_ (fun b e => absurd ⟨b, e⟩ hb)
      cases x <;> (try exact he)
      rename_i d
      cases d <;> first | exact he | (exact absurd ⟨_, rfl⟩ hb)
  | slice e =>
    have hok := E.tok t (by rw [hk]; rfl)
    have hk' := hok.k
    rw [hk] at hk'
    simp only [binTop, hk] at he
    exact nile hk' he
  | map k e =>
    have hok := E.tok t (by rw [hk]; rfl)
    have hk' := hok.k
    rw [hk] at hk'
    simp only [binTop, hk] at he
    exact nile hk' he
  | ptr e =>
    have hok := E.tok t (by rw [hk]; rfl)
    have hk' := hok.k
    rw [hk] at hk'
    simp only [binTop, hk] at he
    exact nile hk' he
  | iface => simp [binTop, hk, nilEqV] at he
  | func => simp [binTop, hk, nilEqV] at he

theorem snd_convTop {E : Env P} {src dst : TypeId} {x r : V} {vx : Value} (hH : HRel B G H w) (hx : VRel G x vx) (he : convTop E.tb H src dst x = some r) :
    Out P B G H w (do pure (Next.value (← convert src dst vx)) : Sem Next) r Eff.none := by
  have ok : ∀ t k, (E.tb t).k = k → k.known = true → k.Ok P t := fun t k h hk => by
    have := (E.tok t (by rw [h]; exact hk)).k
    rwa [h] at this
  cases hs : (E.tb src).k <;> cases hd : (E.tb dst).k <;> simp only [convTop, hs, hd] at he <;> (try (cases he; done))
  · rename_i k k'
    cases x <;> (try simp only at he) <;> (try (cases he; done))
    rename_i d
    cases d <;> (try simp only at he) <;> (try (cases he; done))
    rename_i k'' n
    simp at he; subst he
    have h1 := ok src _ hs rfl
    have h2 := ok dst _ hd rfl
    simp only [TyK.Ok] at h1 h2
    simp only [VRel, DRel] at hx
    subst hx
    exact Out.val hH (v := .int k' (k'.wrap n)) (by simp [convert, run_underlying h1, run_underlying h2, Conv.intToInt]) (by simp only [VRel, DRel])
  · cases x <;> (try simp only at he) <;> (try (cases he; done))
    rename_i d
    cases d <;> (try simp only at he) <;> (try (cases he; done))
    rename_i s
    simp at he; subst he
    have h1 := ok src _ hs rfl
    have h2 := ok dst _ hd rfl
    simp only [TyK.Ok] at h1 h2
    simp only [VRel, DRel] at hx
    subst hx
    exact Out.val hH (v := .string s) (by simp [convert, run_underlying h1, run_underlying h2]) (by simp only [VRel, DRel])
  · rename_i e
    have h1 := ok src _ hs rfl
    have h2 := ok dst _ hd rfl
    simp only [TyK.Ok] at h1 h2
    split at he
    · rename_i s hk
      have h3 := ok e _ hk rfl
      simp only [TyK.Ok] at h3
      split at he
      · rename_i hsz
        simp at he; subst he
        simp only [VRel, DRel] at hx
        subst hx
        exact snd_convBytes h1 h2 h3 hsz hH
      · cases he
    · cases he
  · rename_i e
    have h1 := ok src _ hs rfl
    have h2 := ok dst _ hd rfl
    simp only [TyK.Ok] at h1 h2
    split at he
    · rename_i hk
      have h3 := ok e _ hk rfl
      simp only [TyK.Ok] at h3
      rw [Option.map_eq_some_iff] at he
      obtain ⟨s, hb, rfl⟩ := he
      exact Out.val hH (snd_bytesToStr h1 h3 h2 hH hx hb) (by simp only [VRel, DRel])
    · cases he

theorem snd_sliceTop {E : Env P} {t : TypeId} {x r : V} {e : Eff} {vx : Value} {lo hi mx : Option V} {vlo vhi vmx : Option Value} (hH : HRel B G H w) (hx : VRel G x vx) (hlo : BsRel G lo vlo) (hhi : BsRel G hi vhi) (hmx : BsRel G mx vmx) (he : sliceTop E.tb H t x lo hi mx = some (r, e)) :
    Out P B G H w (do pure (Next.value (← Instr.sliceAt t vx vlo vhi vmx)) : Sem Next) r e := by
  have ok : ∀ t k, (E.tb t).k = k → k.known = true → k.Ok P t := fun t k h hk => by
    have := (E.tok t (by rw [h]; exact hk)).k
    rwa [h] at this
  cases hs : (E.tb t).k <;> simp only [sliceTop, hs] at he <;> (try (cases he; done))
  · -- a text
    cases mx with
    | some _ => simp at he
    | none =>
      have hmx' : vmx = none := hmx
      subst hmx'
      cases x <;> (try simp only at he) <;> (try (cases he; done))
      rename_i d
      cases d <;> (try simp only at he) <;> (try (cases he; done))
      rename_i s
      rw [Option.map_eq_some_iff] at he
      obtain ⟨r', h1, h2⟩ := he
      cases h2
      simp only [VRel, DRel] at hx; subst hx
      exact Out.val hH (snd_sliceStr (ok t _ hs rfl) hlo hhi h1) (by simp only [VRel, DRel])
  · rename_i el
    have ht := ok t _ hs rfl
    simp only [TyK.Ok] at ht
    split at he
    · rename_i hkn
      have hel := E.tok el hkn
      split at he
      · rw [Option.map_eq_some_iff] at he
        obtain ⟨r', h1, h2⟩ := he
        cases h2
        unfold sliceSubV at h1
        split at h1
        · rename_i r0 ver sz l0 n
          split at h1
          · rename_i T sz' ver' frz els ho
            split at h1
            · rename_i hc
              obtain ⟨rfl, rfl, hsz⟩ := hc
              split at h1
              · have hmx' : vmx = none := hmx
                subst hmx'
                split at h1
                · rename_i h l eh el'
                  split at h1
                  · rename_i hc2
                    cases h1
                    obtain ⟨v, hv, hr⟩ := snd_sliceSub (P := P) (w := w) ht hel hH ho hsz hx hlo hhi eh el' hc2.1 hc2.2
                    exact Out.val hH hv hr
                  · cases h1
                · cases h1
              · rename_i m
                obtain ⟨um, rfl, hum⟩ := hmx
                split at h1
                · rename_i y
                  obtain ⟨u', rfl, hu'⟩ := hhi
                  split at h1
                  · rename_i k h l em eh el'
                    split at h1
                    · rename_i hc2
                      cases h1
                      obtain ⟨v, hv⟩ := snd_slice3Sub (P := P) (w := w) ht hel hH ho hx hlo hu' hum em eh el' hc2.1 hc2.2.1 hc2.2.2
                      exact Out.val hH hv (by simp [VRel])
                    · cases h1
                  · cases h1
                · cases h1
            · cases h1
          · cases h1
        · cases h1
      rename_i hnsub
      clear hnsub
      cases mx with
      | none =>
        have hmx' : vmx = none := hmx
        subst hmx'
        cases x <;> (try simp only at he) <;> (try (cases he; done))
        · rename_i d
          cases d <;> (try simp only at he) <;> (try (cases he; done))
          rename_i nl len els
          split at he
          · rename_i hall
            rw [Option.map_eq_some_iff] at he
            obtain ⟨d, h1, h2⟩ := he
            cases h2
            simp only [VRel] at hx
            obtain ⟨v, hv, hr⟩ := snd_sliceData (P := P) (w := w) ht hel (fun e he => by simpa using List.all_eq_true.1 hall e he) hx hlo hhi h1
            exact Out.val hH hv (by simpa [VRel] using hr)
          · cases he
        · rename_i r' ver
          cases ho : H[r']? with
          | none => rw [ho] at he; simp at he
          | some z =>
            rw [ho] at he
            cases z <;> (try (simp at he; done))
            rename_i T sz ver' frz els
            cases lo with
            | some xlo =>
              simp only at he
              split at he
              · rename_i hver
                subst hver
                rw [Option.map_eq_some_iff] at he
                obtain ⟨r1, h1, h2⟩ := he
                cases h2
                have hx' := sub_of_row hH ho hx
                simp only [sliceSubV, ho] at h1
                split at h1
                · rename_i hc
                  split at h1
                  · rename_i h l eh el'
                    split at h1
                    · rename_i hc2
                      cases h1
                      obtain ⟨v, hv, hr⟩ := snd_sliceSub (P := P) (w := w) ht hel hH ho hc.2.2 hx' hlo hhi eh el' hc2.1 hc2.2
                      exact Out.val hH hv hr
                    · cases h1
                  · cases h1
                · cases h1
              · cases he
            | none =>
              have hlo' : vlo = none := hlo
              subst hlo'
              simp only at he
              cases hb : boundV hi els.length with
              | none => rw [hb] at he; cases he
              | some n =>
                rw [hb] at he
                simp only at he
                split at he
                · rename_i hc
                  obtain ⟨rfl, h1, h2⟩ := hc
                  cases he
                  exact snd_sliceRow ht hel hH ho hx hhi hb h1 h2
                · cases he
      | some m =>
        simp only at he
        rw [Option.map_eq_some_iff] at he
        obtain ⟨r', h1, h2⟩ := he
        cases h2
        obtain ⟨u, rfl, hu⟩ := hmx
        cases m <;> simp only [slice00V] at h1 <;> (try (cases h1; done))
        rename_i d
        cases d <;> (try simp only at h1) <;> (try (cases h1; done))
        rename_i k n
        split at h1
        · rename_i hn
          subst hn
          cases lo with
          | some _ => cases h1
          | none =>
            have hlo' : vlo = none := hlo
            subst hlo'
            cases hi with
            | none => cases h1
            | some y =>
              obtain ⟨u', rfl, hu'⟩ := hhi
              cases y <;> (try simp only at h1) <;> (try (cases h1; done))
              rename_i d
              cases d <;> (try simp only at h1) <;> (try (cases h1; done))
              rename_i k' n'
              split at h1
              · rename_i hn'
                subst hn'
                cases x <;> (try simp only at h1) <;> (try (cases h1; done))
                rename_i d
                cases d <;> (try simp only at h1) <;> (try (cases h1; done))
                simp at h1; subst h1
                simp only [VRel, DRel] at hu hu'
                subst hu hu'
                simp only [VRel] at hx
                obtain ⟨v, hv, hr⟩ := snd_slice00 (P := P) (w := w) (k := k') (k' := k) ht hel hx
                exact Out.val hH hv hr
              · cases h1
        · cases h1
    · cases he

theorem snd_appendTop {E : Env P} {t ty : TypeId} {x y r : V} {e : Eff} {vx vy : Value} (hH : HRel B G H w) (hx : VRel G x vx) (hy : VRel G y vy) (he : appendTop E.tb H t x y = some (r, e)) :
    Out P B G H w (do pure (Next.value (← Builtin.append_ #[t, t] ty #[vx, vy])) : Sem Next) r e := by
  cases hs : (E.tb t).k <;> simp only [appendTop, hs] at he <;> (try (cases he; done))
  rename_i el
  have ht : P.underlying t = some (.slice el) := by
    have := (E.tok t (by rw [hs]; rfl)).k
    rwa [hs] at this
  split at he
  · rename_i hk
    have hel := E.tok el hk.1
    cases hels : elsV H y with
    | none => rw [hels] at he; cases he
    | some els =>
      rw [hels] at he
      simp only at he
      split at he
      · rename_i hall
        have hall' : ∀ e, e ∈ els → e.length = (E.tb el).size := fun e he => by simpa using List.all_eq_true.1 hall e he
        cases x <;> (try simp only at he) <;> (try (cases he; done))
        · rename_i d
          cases d <;> (try simp only at he) <;> (try (cases he; done))
          rename_i nl len els'
          cases nl <;> (try simp only at he) <;> (try (cases he; done))
          have hnil : vx = .slice none 0 0 := by
            simp only [VRel, DRel] at hx
            obtain ⟨a1, cap, sz, e1, h1, h2, h3, h4, h5, _⟩ := hx
            have hc := h5 trivial
            have ha : a1 = none := by simpa using h4
            have hl : len = 0 := by omega
            subst hc ha hl
            exact e1
          cases els with
          | nil =>
            simp at he
            obtain ⟨rfl, rfl⟩ := he
            exact snd_appendMt0 ht hel hH (by simp only [VRel]; exact ⟨none, hnil, rfl⟩) hy hels
          | cons e0 er =>
            simp only at he
            split at he
            · rename_i hb
              cases he
              exact snd_appendNil ht hel hk.2 hH ⟨none, hnil⟩ hy hels hall' hb.1 hb.2 (by simp)
            · cases he
        · rename_i r' ver sz lo n
          cases ho : H[r']? with
          | none => rw [ho] at he; cases he
          | some z =>
            rw [ho] at he
            cases z <;> (try simp only at he) <;> (try (cases he; done))
            rename_i T sz' ver' frz els0
            split at he
            · rename_i hc
              obtain ⟨rfl, rfl, rfl, hsz, rfl, h1, h2⟩ := hc
              cases he
              obtain ⟨A2, c2, news, hy', hd, hn, hA⟩ := source hH hy hels
              exact snd_appendSub (y := y) ht hel hH ho hsz hx hy' hd hn hA hall' h1 h2
            · cases he
        · rename_i nl
          cases els with
          | cons e0 er =>
            simp only at he
            split at he
            · rename_i hb
              cases he
              simp only [VRel] at hx
              obtain ⟨a, ha, _⟩ := hx
              exact snd_appendNil ht hel hk.2 hH ⟨a, ha⟩ hy hels hall' hb.1 hb.2 (by simp)
            · cases he
          | nil =>
            simp at he
            obtain ⟨rfl, rfl⟩ := he
            exact snd_appendMt0 ht hel hH hx hy hels
        · rename_i r' ver
          cases ho : H[r']? with
          | none => rw [ho] at he; cases he
          | some z =>
            rw [ho] at he
            cases z <;> (try simp only at he) <;> (try (cases he; done))
            rename_i T sz ver' frz els0
            split at he
            · rename_i hc
              obtain ⟨rfl, rfl, rfl, h1, h2⟩ := hc
              cases he
              exact snd_appendRow ht hel hH ho hx hy hels hall' h1 h2
            · cases he
      · cases he
  · cases he
theorem snd_builtinTop {E : Env P} {b : Builtin} {ts : Array TypeId} {ty : TypeId} {xs : List V} {vs : Array Value} {consts : Array Bool} {r : V} {e : Eff} (hH : HRel B G H w) (hx : VsRel G xs vs.toList) (he : builtinTop E.tb H b ts.toList xs = some (r, e)) :
    Out P B G H w (builtin b ts ty consts vs) r e := by
  have one : ∀ {x : V}, VsRel G [x] vs.toList → ∃ v, vs = #[v] ∧ VRel G x v := by
    intro x h
    simp only [VsRel] at h
    obtain ⟨v, rr, e1, h1, h2⟩ := h
    subst h2
    exact ⟨v, Array.toList_inj.1 (by rw [e1]), h1⟩
  have two : ∀ {x y : V}, VsRel G [x, y] vs.toList → ∃ v u, vs = #[v, u] ∧ VRel G x v ∧ VRel G y u := by
    intro x y h
    simp only [VsRel] at h
    obtain ⟨v, rr, e1, h1, u, r2, e2, h2, h3⟩ := h
    subst h3 e2
    exact ⟨v, u, Array.toList_inj.1 (by rw [e1]), h1, h2⟩
  unfold builtinTop at he
  split at he
  · rename_i t x hts
    split at he
    · rename_i hty
      rw [Option.map_eq_some_iff] at he
      obtain ⟨n, hn, h2⟩ := he
      cases h2
      obtain ⟨v, rfl, hv⟩ := one hx
      have htsa : ts = #[t] := Array.toList_inj.1 (by rw [hts])
      subst htsa
      have hk : (E.tb t).k.known = true := by
        cases hkk : (E.tb t).k <;> first | rfl | (rw [hkk] at hty; simp [lenTy] at hty)
      have hrun := snd_len (ty := ty) (E.tok t hk).k hH hv hty hn
      exact Out.val hH (s := Builtin.len_ #[t] ty #[v]) hrun (by simp only [VRel, DRel])
    · cases he
  · rename_i t t' x y hts
    split at he
    · rename_i htt
      subst htt
      obtain ⟨v, u, rfl, hv, hu⟩ := two hx
      have htsa : ts = #[t, t] := Array.toList_inj.1 (by rw [hts])
      subst htsa
      exact snd_appendTop hH hv hu he
    · cases he
  · rename_i t x hts
    obtain ⟨v, rfl, hv⟩ := one hx
    have htsa : ts = #[t] := Array.toList_inj.1 (by rw [hts])
    subst htsa
    cases hs : (E.tb t).k <;> simp only [clearTop, hs] at he <;> (try (cases he; done))
    rename_i el
    have ht : P.underlying t = some (.slice el) := by
      have := (E.tok t (by rw [hs]; rfl)).k
      rwa [hs] at this
    split at he
    · rename_i hk
      have hel := E.tok el hk
      split at he
      · rename_i zs r' ver sz lo n hz
        split at he
        · rename_i T sz' ver' frz els ho
          split at he
          · rename_i hc
            obtain ⟨rfl, rfl, hsz, hf⟩ := hc
            cases he
            exact snd_clearSub (ty := ty) ht hel hz hH ho hsz hv hf
          · cases he
        · cases he
      · cases he
    · cases he
  · rename_i k a1 k' b1
    cases he
    obtain ⟨v, u, rfl, hv, hu⟩ := two hx
    simp only [VRel, DRel] at hv hu
    subst hv hu
    exact Out.val hH (s := Builtin.max_ ts ty #[.int k a1, .int k' b1]) (v := .int k (if b1 > a1 then b1 else a1)) (by simp [Builtin.max_, Builtin.max2]) (by simp only [VRel, DRel])
  · rename_i k a1 k' b1
    cases he
    obtain ⟨v, u, rfl, hv, hu⟩ := two hx
    simp only [VRel, DRel] at hv hu
    subst hv hu
    exact Out.val hH (s := Builtin.min_ ts ty #[.int k a1, .int k' b1]) (v := .int k (if b1 < a1 then b1 else a1)) (by simp [Builtin.min_, Builtin.min2]) (by simp only [VRel, DRel])
  · cases he
end
end Go.GL
