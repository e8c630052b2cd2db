/- The document's Text: the same number. -/
import Derived.Test.YtcacgbdnegmfnaaRof
import Derived.Lib.ConvBytes
namespace Go.Proofs.Ytcacgbdnegmfnaa.Ha
open Go Go.RowKit Go.Proofs.Ytcacgbdnegmfnaa.Pl Go.Proofs.Ytcacgbdnegmfnaa.Tr
set_option linter.unusedVariables false
theorem partB_tail (f : Nat → Int) (m : Nat) (h : ∀ i, m ≤ i → f i = 0) : ∀ d, partB f (m + d) = partB f m
  | 0 => rfl
  | d + 1 => by
    show partB f (m + d) + f (m + d) * 2 ^ (8 * (m + d)) = partB f m
    rw [h _ (by omega), partB_tail f m h d, Int.zero_mul, Int.add_zero]
theorem getD_byte (s : ByteArray) (a e j : Nat) (he : e ≤ s.size) (hj : j < e - a) : ((((s.extract a e).data.toList.getD j 0).toNat : Nat) : Int) = byteAt s (a + j) := by
  unfold byteAt
  have h : (s.extract a e).data.toList[j]? = s.data.toList[a + j]? := by
    have hs : s.size = s.data.size := rfl
    rw [Array.getElem?_toList, Array.getElem?_toList, ByteArray.data_extract, Array.getElem?_extract]
    rw [if_pos (by omega)]
  rw [List.getD_eq_getElem?_getD, h]
  have hl : a + j < s.data.toList.length := by rw [← Lib.size_eq]; omega
  rw [List.getElem?_eq_getElem hl]; rfl
theorem part_num (s : ByteArray) (a m : Nat) (hm : m ≤ 8) (h : m = 8 ∨ s.size ≤ a + m) : partB (fun i => byteAt s (a + i)) m = un (num8 s a) := by
  have h8 : partB (fun i => byteAt s (a + i)) 8 = partB (fun i => byteAt s (a + i)) m := by
    rcases h with rfl | h
    · rfl
    · have := partB_tail (fun i => byteAt s (a + i)) m (fun i hi => by
        show byteAt s (a + i) = 0
        unfold byteAt
        rw [List.getElem?_eq_none (by rw [← Lib.size_eq]; omega)]) (8 - m)
      rwa [show m + (8 - m) = 8 by omega] at this
  rw [← h8, partB_8, ← num8_un]; rfl
set_option maxHeartbeats 1000000 in
set_option maxRecDepth 100000 in
theorem rtext_calls (s : ByteArray) (hs : s.size ≤ 4611686018427387904) (w : World) :
    Calls Try.prog 32 #[.string s] w fun e w' => e = .returned (.int .u64 (un (textH s))) ∧ Below w.heap.size w w' := by
  have hws : IntKind.u64.wrap (s.size : Int) = un (textK s 0) := wrap_un _
  go_enter Try.func32, Try.ntmps32
  go_wp2_with fail
  go_loopw [3, 4] (fun h i wr => ∃ k : Nat, h = .int .u64 (un (textK s k)) ∧ i = .int .i64 ((8 * k : Nat) : Int) ∧ 8 * k < s.size + 8 ∧ Below w.heap.size w wr) (fun _ i _ => s.size + 8 - (intOf i).toNat)
  case atStart => exact ⟨0, rfl, rfl, by omega, Below.refl _ _⟩
  case round =>
    obtain ⟨k, rfl, rfl, hk, hb⟩ := hrel
    have HB := Lib.hid hb
    clear hb
    rcases Nat.lt_or_ge (8 * k) s.size with hl | hl
    · generalize hat : 8 * k = at_ at *
      have hl2 : (at_ : Int) < (s.size : Int) := by omega
      have hcv := fun x => Lib.run_convert_string_bytes (P := Try.prog) wr 9 79 5 x Try.underlying9 Try.underlying79 Try.underlying5
      have fin : ∀ e_ m : Nat, m = e_ - at_ → e_ ≤ s.size → e_ - at_ ≤ 8 → (e_ - at_ = 8 ∨ s.size ≤ at_ + (e_ - at_)) → ∀ c, Calls Try.prog 57 #[.slice (some ⟨wr.heap.size, 0, none⟩) m c] (Lib.bytesWorld wr 5 (s.extract at_ e_)) fun e w' => e = .returned (.int .u64 (un (num8 s at_))) ∧ Below w.heap.size w w' := by
        intro e_ m hm he h8 hor c
        subst hm
        have hsz : (s.extract at_ e_).size = e_ - at_ := by rw [ByteArray.size_extract]; omega
        refine (rof_calls (fun i => byteAt s (at_ + i)) (fun i => byteAt_le s _) (e_ - at_) h8 _ c _ fun i hi => ⟨_, rfl, ?_⟩).mono ?_
        · rw [Lib.bytesWorld_cell _ _ _ _ (by omega), getD_byte s at_ e_ i he hi]
        · rintro e w' ⟨rfl, rfl⟩
          exact ⟨by rw [part_num s at_ _ h8 hor], ⟨HB.out.os, HB.out.tape, HB.out.output, by rw [Lib.bytesWorld_size]; have := HB.out.size; omega, fun k hk => (Lib.bytesWorld_at_old _ _ _ k (by have := HB.out.size; omega)).trans (HB.out.block k hk)⟩⟩
      have HFIN := Lib.hid fin
      have HTK : Hid (mix (textK s k) (num8 s at_) = textK s (k + 1)) := Lib.hid (by rw [← hat]; rfl)
      clear fin
      rcases Nat.lt_or_ge s.size (at_ + 8) with hle | hle
      · have h3 : (s.size : Int) < (at_ : Int) + 8 := by omega
        go_wp2_with fail
        refine (HFIN.out s.size _ rfl (Nat.le_refl _) (by omega) (.inr (by omega)) _).mono ?_
        rintro e w5 ⟨rfl, hb5⟩
        have HB5 := Lib.hid hb5
        clear hb5
        go_wp2_with fail
        refine (Ct.rmix_calls _ _ w5).mono ?_
        rintro e _ ⟨rfl, rfl⟩
        rw [HTK.out]
        go_wp2_with fail
        go_roundw
        case rel => exact ⟨k + 1, rfl, by go_num, by omega, HB5.out⟩
        case measure => simp [intOf]; omega
      · have h2 : ((at_ : Int) + 8).toNat = at_ + 8 := by omega
        have h3 : (at_ : Int) + 8 ≤ (s.size : Int) := by omega
        go_wp2_with fail
        refine (HFIN.out (at_ + 8) 8 (by omega) hle (by omega) (.inl (by omega)) _).mono ?_
        rintro e w5 ⟨rfl, hb5⟩
        have HB5 := Lib.hid hb5
        clear hb5
        go_wp2_with fail
        refine (Ct.rmix_calls _ _ w5).mono ?_
        rintro e _ ⟨rfl, rfl⟩
        rw [HTK.out]
        go_wp2_with fail
        go_roundw
        case rel => exact ⟨k + 1, rfl, by go_num, by omega, HB5.out⟩
        case measure => simp [intOf]; omega
    · have hke : (s.size + 7) / 8 = k := by omega
      have hl2 : (s.size : Int) ≤ ((8 * k : Nat) : Int) := by omega
      go_wp2_with fail
      go_ret
      exact ⟨by unfold textH; rw [hke]; rfl, HB.out⟩
end Go.Proofs.Ytcacgbdnegmfnaa.Ha
