/- For every file name, the program's Folder and the document's Folder give the same text: both cut the name at its last slash. -/
import Derived.Test.YtdddbjaggfaofaaPModulesFoldersx1
namespace Go.Proofs.Ytdddbjaggfaofaa.Pure
open Go.RowKit Go.Proofs.Ytdddbjaggfaofaa.PModulesFolders Go.Proofs.YtdddbjaggfaofaaW.PrintWords Go.Proofs.YtdddbjaggfaofaaW.PrintLast

theorem folders_step (s : ByteArray) (hs : s.size ≤ 140737488351232) (d : Nat) : ∀ (k : Nat) (i : Int), i + 1 = d → i < s.size → d < k →
    ∃ r, bytealg_LastIndexByteString.l0 k s 47 i = some r ∧
      ((r = -1 ∧ monikerref7_Folder.l0 k s i = some ⟨#[]⟩) ∨ (0 ≤ r ∧ r < s.size ∧ monikerref7_Folder.l0 k s i = some (s.extract 0 r.toNat))) := by
  induction d with
  | zero =>
    intro k i hi _ hk
    obtain ⟨k, rfl⟩ : ∃ m, k = m + 1 := ⟨k - 1, by omega⟩
    refine ⟨-1, ?_, .inl ⟨rfl, ?_⟩⟩
    · simp only [bytealg_LastIndexByteString.l0]; rw [if_neg (by omega)]
    · simp only [monikerref7_Folder.l0]; rw [if_neg (by omega)]
  | succ d ih =>
    intro k i hi hlt hk
    obtain ⟨k, rfl⟩ : ∃ m, k = m + 1 := ⟨k - 1, by omega⟩
    have hw : wrap64 (i - 1) = i - 1 := by unfold wrap64; omega
    by_cases hb : bt s i = 47
    · refine ⟨i, ?_, .inr ⟨by omega, hlt, ?_⟩⟩
      · simp only [bytealg_LastIndexByteString.l0]; rw [if_pos (by omega), if_pos (by omega), if_pos hlt, if_pos hb]
      · simp only [monikerref7_Folder.l0]; rw [if_pos (by omega), if_pos (by omega), if_pos hlt, if_pos hb, if_pos (by omega)]
    · obtain ⟨r, h1, h2⟩ := ih k (i - 1) (by omega) (by omega) (by omega)
      refine ⟨r, ?_, ?_⟩
      · simp only [bytealg_LastIndexByteString.l0]; rw [if_pos (by omega), if_pos (by omega), if_pos hlt, if_neg hb, hw]; exact h1
      · have e : monikerref7_Folder.l0 (k + 1) s i = monikerref7_Folder.l0 k s (i - 1) := by
          simp only [monikerref7_Folder.l0]; rw [if_pos (by omega), if_pos (by omega), if_pos hlt, if_neg hb, hw]
        rw [e]; exact h2

/-- The statement over the printed functions. -/
theorem ModulesFolders : monikerlaw7_ModulesFolders.Pure := by
  intro s hs
  obtain ⟨r, h1, h2⟩ := folders_step s hs s.size (s.size + 1) (s.size - 1) (by omega) (by omega) (by omega)
  have hw : wrap64 ((s.size : Int) - 1) = s.size - 1 := by unfold wrap64; omega
  refine ⟨s.size + 1, ?_⟩
  unfold monikerlaw7_ModulesFolders.f modules_Folder.f strings_LastIndexByte.f bytealg_LastIndexByteString.f monikerref7_Folder.f
  rw [hw, h1]
  simp only [Option.bind_some]
  rcases h2 with ⟨rfl, h2⟩ | ⟨h0, h3, h2⟩
  · rw [h2, if_pos (by omega)]; simp
  · rw [h2, if_neg (by omega), if_pos h0, if_pos (by omega)]; simp

end Go.Proofs.Ytdddbjaggfaofaa.Pure
