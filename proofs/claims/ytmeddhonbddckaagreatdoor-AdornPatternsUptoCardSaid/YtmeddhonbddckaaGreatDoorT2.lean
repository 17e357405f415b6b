/- the seat's keys, its Env, its functions. -/
import Derived.Test.YtmeddhonbddckaaGreatDoorT1
import Derived.DeepKeys4
set_option linter.all false
namespace Go.Proofs.Tryz
open Go Go.GL Go.WideMaps
theorem under9 : prog.underlying 9 = some .string := by kernel_rfl
theorem law9 : KeyLaw prog 9 := string_law under9
theorem keyT9 : KeyT prog 9 [.str] where
  law := law9
  lits v h := by
    rcases h with ⟨k, hk, h⟩ | ⟨h, _⟩
    · simp at hk
      subst hk
      obtain ⟨s, rfl, hs⟩ := h
      refine ⟨.string s.data.toList, ?_⟩
      unfold keyOf
      rw [under9]
      unfold mapKey
      rw [under9]
      simp [hs]
    · simp at h
theorem under27 : prog.underlying 27 = some (.struct #[{ name := "Pred", type := 9, offset := 0, embedded := false, tag := "", pkgPath := "", byteOffset := 0 }, { name := "Pattern", type := 9, offset := 1, embedded := false, tag := "", pkgPath := "", byteOffset := 16 }]) := by kernel_rfl
theorem laid : laidOutB prog = true := by kernel_rfl
theorem law27 : KeyLaw prog 27 := deep_law_laid laid (m := 3) (by omega) (of_decide_eq_true (by kernel_rfl)) (by kernel_rfl) (by rw [under27])
theorem lits9 (d : Nat) (s : ByteArray) (h : s.size ≤ maxLen) : prog.keyLits (d + 1) 9 [.string s] = some [.string s.data.toList] := by
  unfold Program.keyLits
  rw [under9]
  simp [h]
theorem lits27 (d : Nat) (s1 s2 : ByteArray) (h1 : s1.size ≤ maxLen) (h2 : s2.size ≤ maxLen) : prog.keyLits (d + 2) 27 [.string s1, .string s2] = some [.string s1.data.toList, .string s2.data.toList] := by
  have hc : prog.cellsOf 27 = 2 := by kernel_rfl
  have hc9 : prog.cellsOf 9 = 1 := by kernel_rfl
  unfold Program.keyLits
  rw [under27]
  simp [hc, hc9, lits9, h1, h2]
theorem keyT27 : KeyT prog 27 [.str, .str] where
  law := law27
  lits v h := by
    rcases h with ⟨k, hk, h⟩ | ⟨_, cs, rfl, h⟩
    · simp at hk
    · simp only [KsOk, BK.Ok] at h
      obtain ⟨v1, r1, e1, ⟨s1, rfl, h1⟩, v2, r2, e2, ⟨s2, rfl, h2⟩, e3⟩ := h
      subst e2 e3
      have ecs : cs = #[.string s1, .string s2] := by
        apply Array.ext'
        rw [e1]
      subst ecs
      have hkt : prog.keyType 27 = true := by kernel_rfl
      have hc : prog.cellsOf 27 = 2 := by kernel_rfl
      have hc9 : prog.cellsOf 9 = 1 := by kernel_rfl
      have hn : prog.types.size = 253 := by kernel_rfl
      refine ⟨.string (keyBytes [.string s1.data.toList, .string s2.data.toList]), ?_⟩
      unfold keyOf
      rw [under27]
      have hl := lits27 252 s1 s2 h1 h2
      simp only [hkt, Value.formed, under27, hc, hn]
      simp
      exact ⟨_, hl, rfl⟩
theorem keys_ok : ∀ t, t ∈ tbKeys → KeyT prog t (tbOf prog tbKeys t).flat := by
  intro t ht
  simp [tbKeys] at ht
  rcases ht with rfl | rfl
  · have : (tbOf prog tbKeys 9).flat = [.str] := by kernel_rfl
    rw [this]; exact keyT9
  · have : (tbOf prog tbKeys 27).flat = [.str, .str] := by kernel_rfl
    rw [this]; exact keyT27
noncomputable def E : Env prog := envOf tb_rows keys_ok mixed
theorem E_tb : E.tb = tbL tbRows := rfl
end Go.Proofs.Tryz
