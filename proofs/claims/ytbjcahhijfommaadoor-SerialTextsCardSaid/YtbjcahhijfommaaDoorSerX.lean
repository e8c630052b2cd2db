/- The law of texts. -/
import Derived.Test.YtbjcahhijfommaaDoorSwk
import Derived.Test.YtbjcahhijfommaaDoorRescS
import Derived.Test.YtbjcahhijfommaaDoorPlace
import Derived.WalkLawsBesides
import Derived.WalkSpells
namespace Go.Proofs.YtbjcahhijfommaaDoor.Wk
open Go Go.RowKit Go.Proofs.YtbjcahhijfommaaDoor.Tr
set_option linter.unusedVariables false
set_option maxRecDepth 100000
def rawA : Array Value := #[.string ⟨#[115, 116, 121, 108, 101]⟩, .string ⟨#[115, 99, 114, 105, 112, 116]⟩, .string ⟨#[120, 109, 112]⟩, .string ⟨#[105, 102, 114, 97, 109, 101]⟩, .string ⟨#[110, 111, 101, 109, 98, 101, 100]⟩, .string ⟨#[110, 111, 102, 114, 97, 109, 101, 115]⟩]
theorem raw_ix (k : Nat) (hk : (k : Int) < 6) : ∃ raw : ByteArray, (∀ w : World, (Instr.index 31 (.agg rawA) (.int .i64 k)).run Tryd.prog w = .ok (.string raw) w) ∧ voidB raw = false ∧ rawB raw = true ∧ raw.size ≤ 10 := by
  have h : k = 0 ∨ k = 1 ∨ k = 2 ∨ k = 3 ∨ k = 4 ∨ k = 5 := by omega
  rcases h with rfl | rfl | rfl | rfl | rfl | rfl
  · exact ⟨⟨#[115, 116, 121, 108, 101]⟩, fun w => by kernel_rfl, by decide +kernel, by decide +kernel, by decide⟩
  · exact ⟨⟨#[115, 99, 114, 105, 112, 116]⟩, fun w => by kernel_rfl, by decide +kernel, by decide +kernel, by decide⟩
  · exact ⟨⟨#[120, 109, 112]⟩, fun w => by kernel_rfl, by decide +kernel, by decide +kernel, by decide⟩
  · exact ⟨⟨#[105, 102, 114, 97, 109, 101]⟩, fun w => by kernel_rfl, by decide +kernel, by decide +kernel, by decide⟩
  · exact ⟨⟨#[110, 111, 101, 109, 98, 101, 100]⟩, fun w => by kernel_rfl, by decide +kernel, by decide +kernel, by decide⟩
  · exact ⟨⟨#[110, 111, 102, 114, 97, 109, 101, 115]⟩, fun w => by kernel_rfl, by decide +kernel, by decide +kernel, by decide⟩
def txT (k : Int) (s : ByteArray) : Nd := .mk k ⟨#[]⟩ s [] []
def elT (n s : ByteArray) : Nd := .mk 2 n ⟨#[]⟩ [] [txT 3 s]
theorem el_say {n s : ByteArray} (hv : voidB n = false) : sayT false (elT n s) = [60] ++ n.data.toList ++ [62] ++ ((if rawB n then s.data.toList else (Gr.escB false s).data.toList) ++ ([60, 47] ++ n.data.toList ++ [62])) := by
  unfold elT txT
  simp [sayT, sayL, sayAs, hv]
theorem title_say (s : ByteArray) : (⟨(sayT false (elT ⟨#[116, 105, 116, 108, 101]⟩ s)).toArray⟩ : ByteArray) = ⟨#[60, 116, 105, 116, 108, 101, 62]⟩ ++ Gr.escB false s ++ ⟨#[60, 47, 116, 105, 116, 108, 101, 62]⟩ := by
  refine (Ch.of_list ?_).symm
  rw [el_say (by decide +kernel), if_neg (by decide +kernel), Ch.app_list, Ch.app_list]
  simp
theorem raw_say {n : ByteArray} (s : ByteArray) (hv : voidB n = false) (hr : rawB n = true) : (⟨(sayT false (elT n s)).toArray⟩ : ByteArray) = (⟨#[60]⟩ : ByteArray) ++ n ++ ⟨#[62]⟩ ++ s ++ ⟨#[60, 47]⟩ ++ n ++ ⟨#[62]⟩ := by
  refine (Ch.of_list ?_).symm
  rw [el_say hv, if_pos hr]
  simp only [Ch.app_list]
  simp
theorem comment_say (s : ByteArray) : (⟨(sayT false (txT 4 s)).toArray⟩ : ByteArray) = (⟨#[60, 33, 45, 45]⟩ : ByteArray) ++ s ++ ⟨#[45, 45, 62]⟩ := by
  refine (Ch.of_list ?_).symm
  unfold txT
  simp only [Ch.app_list]
  simp [sayT]
def dtX : Nd := .mk 5 ⟨#[120]⟩ ⟨#[]⟩ [] []
theorem dt_say : (⟨(sayT false dtX).toArray⟩ : ByteArray) = ⟨#[60, 33, 68, 79, 67, 84, 89, 80, 69, 32, 120, 62]⟩ := by kernel_rfl
theorem el_cnt (n s : ByteArray) : cntT (elT n s) ≤ 1000000 := by simp [elT, txT, cntT, cntL]
theorem tx_cnt (k : Int) (s : ByteArray) : cntT (txT k s) ≤ 1000000 := by simp [txT, cntT, cntL]
theorem el_fit {n s : ByteArray} (hn : n.size ≤ 6000) (hs : s.size ≤ 6000) : fitT (elT n s) := by
  unfold elT txT fitT fitL fitT fitL
  refine ⟨by simp, hn, by decide, by simp, ⟨by simp, by decide, hs, by simp, trivial⟩, trivial⟩
theorem tx_fit {k : Int} {s : ByteArray} (hs : s.size ≤ 6000) : fitT (txT k s) := by
  unfold txT fitT
  exact ⟨by simp, by decide, hs, by simp, by unfold fitL; trivial⟩
theorem dt_fit : fitT dtX := by unfold dtX fitT; exact ⟨by simp, by decide, by decide, by simp, by unfold fitL; trivial⟩
set_option maxHeartbeats 8000000 in
theorem serialTexts (s : ByteArray) (which : Int) (hs : s.size ≤ maxLen) (hw : (Lit.int .i64 which).wf = true) (w : World) (hT : SpTab w) :
    Calls Tryd.prog 4 #[.string s, .int .i64 which] w fun e w' => e = .returned (.bool true) ∧ Below w.heap.size w w' := by
  have HTB : Hid (∀ W', Below w.heap.size w W' → SpTab W') := Lib.hid fun W' hh => hT.below hh hT.lt
  by_cases hlen : s.size ≤ 1000
  · have h1 : ¬ (1000 < (s.size : Int)) := by omega
    clear hT hs
    go_enter Tryd.func4, Tryd.ntmps4
    go_wp2_with fail
    refine (Ct.place_calls which 6 (by decide) (by decide) _).mono ?_
    rintro e w2 ⟨⟨k, hk, rfl⟩, rfl⟩
    obtain ⟨raw, hix, hr1, hr2, hr3⟩ := raw_ix k hk
    unfold rawA at hix
    have HT1 : Hid (∀ (W : World) (b : Nat), Below w.heap.size w W → W.heap[b]? = some (.cells #[.int .i64 3, .string ⟨#[]⟩, .string s, .slice none 0 0, .slice none 0 0] 25 (0, 0)) →
        Calls Tryd.prog 10 #[.agg #[.int .i64 2, .string ⟨#[116, 105, 116, 108, 101]⟩, .string ⟨#[]⟩, .slice none 0 0, .slice (some ⟨b, 0, none⟩) 1 1]] W fun e w' => e = .returned (.string ((⟨#[60, 116, 105, 116, 108, 101, 62]⟩ : ByteArray) ++ Gr.escB false s ++ ⟨#[60, 47, 116, 105, 116, 108, 101, 62]⟩)) ∧ Below W.heap.size W w') := Lib.hid fun W b hb hl => by
      have := textB (elT ⟨#[116, 105, 116, 108, 101]⟩ s) (el_fit (by decide) (by omega)) (el_cnt _ _) _ _ _ _ _ w W (HTB.out _ (Below.refl _ _)) hb (isTree_one (by decide) (by decide) (by decide) (lt_of_block hl) (isTree_leaf (by decide) (by decide) (Nat.le_trans hlen (by decide))) hl)
      rwa [title_say] at this
    have HT2 : Hid (∀ (W : World) (b : Nat), Below w.heap.size w W → W.heap[b]? = some (.cells #[.int .i64 3, .string ⟨#[]⟩, .string s, .slice none 0 0, .slice none 0 0] 25 (0, 0)) →
        Calls Tryd.prog 10 #[.agg #[.int .i64 2, .string raw, .string ⟨#[]⟩, .slice none 0 0, .slice (some ⟨b, 0, none⟩) 1 1]] W fun e w' => e = .returned (.string ((⟨#[60]⟩ : ByteArray) ++ raw ++ ⟨#[62]⟩ ++ s ++ ⟨#[60, 47]⟩ ++ raw ++ ⟨#[62]⟩)) ∧ Below W.heap.size W w') := Lib.hid fun W b hb hl => by
      have := textB (elT raw s) (el_fit (by omega) (by omega)) (el_cnt _ _) _ _ _ _ _ w W (HTB.out _ (Below.refl _ _)) hb (isTree_one (by decide) (Nat.le_trans hr3 (by decide)) (by decide) (lt_of_block hl) (isTree_leaf (by decide) (by decide) (Nat.le_trans hlen (by decide))) hl)
      rwa [raw_say s hr1 hr2] at this
    have HT3 : Hid (∀ (W : World), Below w.heap.size w W →
        Calls Tryd.prog 10 #[.agg #[.int .i64 4, .string ⟨#[]⟩, .string s, .slice none 0 0, .slice none 0 0]] W fun e w' => e = .returned (.string ((⟨#[60, 33, 45, 45]⟩ : ByteArray) ++ s ++ ⟨#[45, 45, 62]⟩)) ∧ Below W.heap.size W w') := Lib.hid fun W hb => by
      have := textB (txT 4 s) (tx_fit (by omega)) (tx_cnt _ _) _ _ _ _ _ w W (HTB.out _ (Below.refl _ _)) hb (isTree_leaf (by decide) (by decide) (Nat.le_trans hlen (by decide)))
      rwa [comment_say] at this
    have HT4 : Hid (∀ (W : World), Below w.heap.size w W →
        Calls Tryd.prog 10 #[.agg #[.int .i64 5, .string ⟨#[120]⟩, .string ⟨#[]⟩, .slice none 0 0, .slice none 0 0]] W fun e w' => e = .returned (.string ⟨#[60, 33, 68, 79, 67, 84, 89, 80, 69, 32, 120, 62]⟩) ∧ Below W.heap.size W w') := Lib.hid fun W hb => by
      have := textB dtX dt_fit (by decide) _ _ _ _ _ w W (HTB.out _ (Below.refl _ _)) hb (isTree_leaf (by decide) (by decide) (by decide))
      rwa [dt_say] at this
    have HES : Hid (∀ W : World, Calls Tryd.prog 13 #[.string s, .bool false] W fun e w' => e = .returned (.string (Gr.escB false s)) ∧ W = w') := Lib.hid fun W => Ch.rescape_calls s (by omega) false W
    have hes : (Gr.escB false s).size ≤ 6000 := by
      have := esc_len false s
      have h2 : (Gr.escB false s).data.toList.length = (Gr.escB false s).size := rfl
      omega
    generalize Gr.escB false s = es at *
    clear hr1 hr2
    have HB1 : Hid (Below w.heap.size w ((w.alloc (.cells #[.int .i64 3, .string ⟨#[]⟩, .string s, .slice none 0 0, .slice none 0 0] 25)).alloc (.cells #[.int .i64 3, .string ⟨#[]⟩, .string s, .slice none 0 0, .slice none 0 0] 25))) :=
      Lib.hid (((Below.refl _ w).alloc (Nat.le_refl _) _).alloc (by simp) _)
    have HL1 : Hid (((w.alloc (.cells #[.int .i64 3, .string ⟨#[]⟩, .string s, .slice none 0 0, .slice none 0 0] 25)).alloc (.cells #[.int .i64 3, .string ⟨#[]⟩, .string s, .slice none 0 0, .slice none 0 0] 25)).heap[w.heap.size]? = _) :=
      Lib.hid (alloc_old (alloc_new w _) _)
    have HL2 : Hid (((w.alloc (.cells #[.int .i64 3, .string ⟨#[]⟩, .string s, .slice none 0 0, .slice none 0 0] 25)).alloc (.cells #[.int .i64 3, .string ⟨#[]⟩, .string s, .slice none 0 0, .slice none 0 0] 25)).heap[w.heap.size + 1]? = some (.cells #[.int .i64 3, .string ⟨#[]⟩, .string s, .slice none 0 0, .slice none 0 0] 25 (0, 0))) :=
      Lib.hid (by
        have := alloc_new (w.alloc (.cells #[.int .i64 3, .string ⟨#[]⟩, .string s, .slice none 0 0, .slice none 0 0] 25)) (.cells #[.int .i64 3, .string ⟨#[]⟩, .string s, .slice none 0 0, .slice none 0 0] 25)
        rwa [World.size_alloc] at this)
    go_wp2_with fail
    refine (HT1.out _ _ HB1.out HL2.out).mono ?_
    rintro e w3 ⟨rfl, hb3⟩
    have HB3 : Hid (Below w.heap.size w w3) := Lib.hid (HB1.out.trans (hb3.mono HB1.out.size))
    have HL3 : Hid (w3.heap[w.heap.size]? = some (.cells #[.int .i64 3, .string ⟨#[]⟩, .string s, .slice none 0 0, .slice none 0 0] 25 (0, 0))) := Lib.hid ((hb3.block _ (lt_of_block HL1.out)).trans HL1.out)
    clear hb3 HT1 HB1 HL1 HL2
    have c0 : w3.cell? ⟨w.heap.size, 0, none⟩ = some (.int .i64 3) := by rw [block_cell HL3.out]; rfl
    have c1 : w3.cell? ⟨w.heap.size, 1, none⟩ = some (.string ⟨#[]⟩) := by rw [block_cell HL3.out]; rfl
    have c2 : w3.cell? ⟨w.heap.size, 2, none⟩ = some (.string s) := by rw [block_cell HL3.out]; rfl
    have c3 : w3.cell? ⟨w.heap.size, 3, none⟩ = some (.slice none 0 0) := by rw [block_cell HL3.out]; rfl
    have c4 : w3.cell? ⟨w.heap.size, 4, none⟩ = some (.slice none 0 0) := by rw [block_cell HL3.out]; rfl
    have HB4 : Hid (Below w.heap.size w (w3.alloc (.cells #[.int .i64 3, .string ⟨#[]⟩, .string s, .slice none 0 0, .slice none 0 0] 25))) := Lib.hid (HB3.out.alloc HB3.out.size _)
    go_wp2_with fail
    refine (HT2.out _ _ HB4.out (alloc_new w3 _)).mono ?_
    rintro e w5 ⟨rfl, hb5⟩
    have HB5 : Hid (Below w.heap.size w w5) := Lib.hid (HB4.out.trans (hb5.mono HB4.out.size))
    clear hb5 HT2 HB4 HL3 c0 c1 c2 c3 c4
    go_wp2_with fail
    refine (HT3.out _ HB5.out).mono ?_
    rintro e w6 ⟨rfl, hb6⟩
    have HB6 : Hid (Below w.heap.size w w6) := Lib.hid (HB5.out.trans (hb6.mono HB5.out.size))
    clear hb6 HT3 HB5
    go_wp2_with fail
    refine (HES.out _).mono ?_
    rintro e w7 ⟨rfl, rfl⟩
    go_wp2_with fail
    refine (HT4.out _ HB6.out).mono ?_
    rintro e w8 ⟨rfl, hb8⟩
    have HB8 : Hid (Below w.heap.size w w8) := Lib.hid (HB6.out.trans (hb8.mono HB6.out.size))
    clear hb8 HT4 HB6
    go_wp2_with fail
    refine (awake16 _ (HTB.out _ HB8.out)).mono ?_
    rintro e w9 ⟨rfl, hb9⟩
    have HB9 : Hid (Below w.heap.size w w9) := Lib.hid (HB8.out.trans (hb9.mono HB8.out.size))
    clear hb9
    go_wp2_with fail
    go_ret
    exact ⟨rfl, HB9.out⟩
  · have h1 : 1000 < (s.size : Int) := by omega
    clear hT
    go_enter Tryd.func4, Tryd.ntmps4
    go_wp2_with fail
    refine (awake16 _ (HTB.out _ (Below.refl _ _))).mono ?_
    rintro e w4 ⟨rfl, hb4⟩
    go_wp2_with fail
    go_ret
    exact ⟨rfl, hb4⟩
end Go.Proofs.YtbjcahhijfommaaDoor.Wk
