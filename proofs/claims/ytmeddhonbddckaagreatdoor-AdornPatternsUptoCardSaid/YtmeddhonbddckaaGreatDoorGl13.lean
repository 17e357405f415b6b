/- GL, part 13: every operation that is evaluated is sound. -/
import Derived.Test.YtmeddhonbddckaaGreatDoorGl12
set_option linter.all false
namespace Go.GL
open Go.RowKit
section
variable {P : Program} {B : Base} {G : Ghost} {H : List LObj} {w : World} {a : Act}

set_option maxHeartbeats 1000000 in
theorem evalOp_sound (E : Env P) {ρ : Operand → V} (hρ : ∀ x, VRel G (ρ x) (a.eval x)) (hH : HRel B G H w) (o : Oper) {r : V} {e : Eff} (he : evalOp E.tb ρ H o.op = some (r, e)) :
    Out P B G H w (execOp a.eval o) r e := by
  have mapE : ∀ {α : Type} {m : Option α} {f : α → V × Eff}, m.map f = some (r, e) → ∃ x, m = some x ∧ f x = (r, e) := fun h => Option.map_eq_some_iff.1 h
  have hps : ∀ ps : Array (Nat × Operand), (ps.map fun (i, x) => (i, a.eval x)) = ps.map fun p => (p.1, a.eval p.2) := fun ps => by
    congr
  unfold execOp
  cases hop : o.op <;> rw [hop] at he <;> simp only [evalOp] at he <;> (try (cases he; done)) <;> simp only
  case move x => cases he; exact Out.pure hH rfl (hρ x)
  case assign x => cases he; exact Out.pure hH rfl (hρ x)
  case pick c x y =>
    obtain ⟨r', h1, h2⟩ := mapE he
    cases h2
    obtain ⟨v, hv, hr⟩ := snd_pick (P := P) (w := w) (hρ c) (hρ x) (hρ y) h1
    exact Out.pure hH hv hr
  case alloc t =>
    split at he
    · rename_i hk
      cases he
      exact snd_alloc (E.tok t hk) hH
    · cases he
  case box t x =>
    obtain ⟨r', h1, h2⟩ := mapE he
    cases h2
    exact snd_box hH (hρ x) h1
  case build t ps =>
    split at he
    · rename_i hk
      obtain ⟨r', h1, h2⟩ := mapE he
      cases h2
      rw [hps]
      obtain ⟨v, hv, hr⟩ := snd_build (P := P) (w := w) (vs := ps.map fun p => (p.1, a.eval p.2)) (E.tok t hk) hH (by rw [Array.toList_map]; exact psRel_of hρ ps.toList) h1
      exact Out.val hH hv hr
    · cases he
  case buildSlice t n ps =>
    cases hs : (E.tb t).k <;> rw [hs] at he <;> simp only at he <;> (try (cases he; done))
    rename_i el
    split at he
    · rename_i hk
      obtain ⟨els, h1, h2⟩ := mapE he
      cases h2
      have ht : P.underlying t = some (.slice el) := by
        have := (E.tok t (by rw [hs]; rfl)).k
        rwa [hs] at this
      rw [hps]
      have k2 : PsRel G (ps.toList.map fun p => (p.1, ρ p.2)) (ps.map fun p => (p.1, a.eval p.2)).toList := by rw [Array.toList_map]; exact psRel_of hρ ps.toList
      have k3 := E.tok el hk.1
      have k4 := hk.2.2
      have k5 := hk.2.1
      have k6 := @snd_buildSlice P B G H w t el (E.tb el) n (ps.toList.map fun p => (p.1, ρ p.2)) (ps.map fun p => (p.1, a.eval p.2)) els ht k3 k5 hH k2
      exact k6 k4 h1
    · cases he
  case load t x =>
    split at he
    · rename_i hk
      obtain ⟨r', h1, h2⟩ := mapE he
      cases h2
      obtain ⟨v, hv, hr⟩ := snd_load (P := P) (E.tok t hk) hk hH (hρ x) h1
      exact Out.val hH hv hr
    · cases he
  case store t p x =>
    split at he
    · rename_i hk
      obtain ⟨r', h1, h2⟩ := mapE he
      cases h2
      exact snd_store (E.tok t hk) hH (hρ p) (hρ x) h1
    · cases he
  case nilCheck x =>
    obtain ⟨r', h1, h2⟩ := mapE he
    cases h2
    obtain ⟨h3, h4⟩ := snd_nilCheck (P := P) (a := a) (o := o) hop rfl hH (hρ x) h1
    unfold execOp at h3
    rw [hop] at h3
    exact Out.pure hH h3 h4
  case binOp op t x y yt =>
    obtain ⟨r', h1, h2⟩ := mapE he
    cases h2
    obtain ⟨v, hv, hr⟩ := snd_binTop (P := P) (w := w) x y (hρ x) (hρ y) h1
    exact Out.val hH hv hr
  case unOp op t x =>
    obtain ⟨r', h1, h2⟩ := mapE he
    cases h2
    obtain ⟨v, hv, hr⟩ := snd_un (P := P) (w := w) (hρ x) h1
    exact Out.val hH hv hr
  case convert src dst x =>
    obtain ⟨r', h1, h2⟩ := mapE he
    cases h2
    exact snd_convTop hH (hρ x) h1
  case makeInterface t x =>
    cases hs : (E.tb t).k <;> rw [hs] at he <;> simp only at he <;> (try (cases he; done))
    cases he
    have ht := (E.tok t (by rw [hs]; rfl)).k
    rw [hs] at ht
    obtain ⟨v, hv, hr⟩ := snd_makeInterface (P := P) (w := w) ht (by simp) (hρ x)
    exact Out.val hH hv hr
  case makeFunc fn first caps =>
    cases fn <;> simp only at he <;> (try (cases he; done))
    rename_i f
    · cases he
      refine Out.val hH (s := Instr.makeFunc (.func f) (first.map a.eval) (caps.map a.eval)) (v := .func (.func f) (first.map a.eval) (caps.map a.eval)) (by simp [Instr.makeFunc]) ?_
      simp only [VRel]
      exact ⟨_, _, rfl, by rw [Array.toList_map]; exact vsRel_of hρ first.toList, by rw [Array.toList_map]; exact vsRel_of hρ caps.toList⟩
  case makeMap t res =>
    cases hs : (E.tb t).k <;> rw [hs] at he <;> cases res <;> simp only at he <;> (try (cases he; done))
    cases he
    exact snd_makeMap _ hH
  case makeSlice t l c =>
    cases hs : (E.tb t).k <;> simp only [makeTop, hs] at he <;> (try (cases he; done))
    rename_i el
    have ht : P.underlying t = some (.slice el) := by
      have := (E.tok t (by rw [hs]; rfl)).k
      rwa [hs] at this
    split at he
    · rename_i el' k n k' n' hk0 hl hc
      cases hk0
      cases hzs : toDs (E.tb el).zero with
      | none => rw [hzs] at he; cases he
      | some zs =>
        rw [hzs] at he
        simp only at he
        split at he
        · rename_i hcc
          obtain ⟨h1, h2, h3, rfl, h5, h6⟩ := hcc
          cases he
          have e1 := hρ l
          have e2 := hρ c
          rw [hl] at e1
          rw [hc] at e2
          simp only [VRel, DRel] at e1 e2
          rw [e1, e2]
          exact snd_makeSlice ht (E.tok el h1) h2 h3 hzs hH h5 h6
        · cases he
    · cases he
  case slice t x lo hi mx => exact snd_sliceTop hH (hρ x) (bsRel_of hρ lo) (bsRel_of hρ hi) (bsRel_of hρ mx) he
  case fieldAddr t x f =>
    split at he
    · rename_i hc
      rw [Bool.and_eq_true] at hc
      obtain ⟨r', h1, h2⟩ := mapE he
      cases h2
      obtain ⟨v, hv, hr⟩ := snd_fieldAddr (P := P) (w := w) (E.tok t hc.2).k (hρ x) hc.1 hH h1
      exact Out.val hH hv hr
    · cases he
  case field t x f =>
    split at he
    · rename_i hk
      obtain ⟨r', h1, h2⟩ := mapE he
      cases h2
      obtain ⟨v, hv, hr⟩ := snd_field (P := P) (w := w) (E.tok t hk).k (hρ x) h1
      exact Out.val hH hv hr
    · cases he
  case indexAddr t x i =>
    cases hs : (E.tb t).k <;> rw [hs] at he <;> simp only at he <;> (try (cases he; done))
    rename_i el
    have ht : P.underlying t = some (.slice el) := by
      have := (E.tok t (by rw [hs]; rfl)).k
      rwa [hs] at this
    split at he
    · rename_i hk
      obtain ⟨r', h1, h2⟩ := mapE he
      cases h2
      obtain ⟨v, hv, hr⟩ := snd_indexAddr (P := P) ht (E.tok el hk) hH (hρ x) (hρ i) h1
      exact Out.val hH hv hr
    · cases he
  case index t x i =>
    cases hs : (E.tb t).k <;> rw [hs] at he <;> simp only at he <;> (try (cases he; done))
    have ht : P.underlying t = some .string := by
      have := (E.tok t (by rw [hs]; rfl)).k
      rwa [hs] at this
    obtain ⟨r', h1, h2⟩ := mapE he
    cases h2
    obtain ⟨v, hv, hr⟩ := snd_index (P := P) (w := w) ht (hρ x) (hρ i) h1
    exact Out.val hH hv hr
  case lookup t m k ok =>
    cases hs : (E.tb t).k <;> rw [hs] at he <;> simp only at he <;> (try (cases he; done))
    rename_i kt et
    have ht : P.underlying t = some (.map kt et) := by
      have := (E.tok t (by rw [hs]; rfl)).k
      rwa [hs] at this
    split at he
    · rename_i hc
      simp only [Bool.and_eq_true] at hc
      obtain ⟨⟨⟨h1, h2⟩, h3⟩, h4⟩ := hc
      obtain ⟨r', h5, h6⟩ := mapE he
      cases h6
      obtain ⟨v, hv, hr⟩ := snd_lookup (P := P) ht (E.key kt h1) (E.tok et h2) hH (hρ m) (hρ k) h3 (mapKsOk_eq h4) h5
      exact Out.val hH hv hr
    · cases he
  case mapUpdate t m k x =>
    cases hs : (E.tb t).k <;> rw [hs] at he <;> simp only at he <;> (try (cases he; done))
    rename_i kt et
    have ht : P.underlying t = some (.map kt et) := by
      have := (E.tok t (by rw [hs]; rfl)).k
      rwa [hs] at this
    split at he
    · rename_i hc
      simp only [Bool.and_eq_true] at hc
      obtain ⟨⟨h1, h3⟩, h4⟩ := hc
      obtain ⟨r', h5, h6⟩ := mapE he
      cases h6
      exact snd_update (P := P) ht (E.key kt h1) hH (hρ m) (hρ k) (hρ x) h3 (mapKsOk_eq h4) h5
    · cases he
  case insert t m k x =>
    cases hs : (E.tb t).k <;> rw [hs] at he <;> simp only at he <;> (try (cases he; done))
    rename_i kt et
    have ht : P.underlying t = some (.map kt et) := by
      have := (E.tok t (by rw [hs]; rfl)).k
      rwa [hs] at this
    split at he
    · rename_i hc
      simp only [Bool.and_eq_true] at hc
      obtain ⟨⟨h1, h3⟩, h4⟩ := hc
      obtain ⟨r', h5, h6⟩ := mapE he
      cases h6
      exact snd_update (P := P) ht (E.key kt h1) hH (hρ m) (hρ k) (hρ x) h3 (mapKsOk_eq h4) h5
    · cases he
  case typeAssert x xt asserted ok =>
    cases hs : (E.tb asserted).k <;> rw [hs] at he <;> simp only at he <;> (try (cases he; done))
    split at he
    · rename_i hok
      subst hok
      obtain ⟨r', h1, h2⟩ := mapE he
      cases h2
      obtain ⟨v, hv, hr⟩ := snd_assert (P := P) (w := w) (xt := xt) (E.tok asserted (by rw [hs]; rfl)) hs (hρ x) h1
      exact Out.val hH hv hr
    · cases he
  case extract t i =>
    obtain ⟨r', h1, h2⟩ := mapE he
    cases h2
    obtain ⟨v, hv, hr⟩ := snd_extract (P := P) (w := w) (hρ t) h1
    exact Out.val hH hv hr
  case call c =>
    cases hc : c.callee <;> rw [hc] at he <;> simp only at he <;> (try (cases he; done))
    rename_i b
    have := snd_builtinTop (E := E) (b := b) (ts := c.argTypes) (ty := o.type) (xs := c.args.toList.map ρ) (vs := c.args.map a.eval) (consts := c.args.map fun | .const _ => true | _ => false) hH (by rw [Array.toList_map]; exact vsRel_of hρ c.args.toList) he
    obtain ⟨G', n, v, w', h1, h2, h3, h4, h5⟩ := this
    refine ⟨G', n, v, w', ?_, h2, h3, h4, h5⟩
    simp only [resolve, hc, Sem.run_bind, Sem.run_pure, Result.andThen_ok, invoke]
    exact h1
end
end Go.GL
