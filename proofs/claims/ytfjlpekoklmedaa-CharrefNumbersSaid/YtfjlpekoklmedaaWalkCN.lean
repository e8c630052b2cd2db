/- CharrefNumbers, walked. -/
import Derived.Test.YtfjlpekoklmedaaNum2
import Derived.Test.YtfjlpekoklmedaaPlace
namespace Go.Proofs.Ytfjlpekoklmedaa.Wk
open Go Go.RowKit Go.Proofs.Ytfjlpekoklmedaa.Ch Go.Proofs.Ytfjlpekoklmedaa.Gr Go.Proofs.Ytfjlpekoklmedaa.Ct Go.Proofs.Ytfjlpekoklmedaa.Sr
set_option linter.unusedVariables false
set_option maxRecDepth 100000

theorem cut_d (v : Nat) : ((⟨#[48, 49, 50, 51, 52, 53, 54, 55, 56, 57]⟩ : ByteArray).extract (v % 10) (v % 10 + 1)).data.toList = [dch (v % 10)] := by
  have h : ∀ k : Fin 10, ((⟨#[48, 49, 50, 51, 52, 53, 54, 55, 56, 57]⟩ : ByteArray).extract k.val (k.val + 1)).data.toList = [dch k.val] := by decide
  exact h ⟨v % 10, Nat.mod_lt _ (by decide)⟩
theorem cut_h (v : Nat) : ((⟨#[48, 49, 50, 51, 52, 53, 54, 55, 56, 57, 97, 98, 99, 100, 101, 102]⟩ : ByteArray).extract (v % 16) (v % 16 + 1)).data.toList = [hch (v % 16)] := by
  have h : ∀ k : Fin 16, ((⟨#[48, 49, 50, 51, 52, 53, 54, 55, 56, 57, 97, 98, 99, 100, 101, 102]⟩ : ByteArray).extract k.val (k.val + 1)).data.toList = [hch k.val] := by decide
  exact h ⟨v % 16, Nat.mod_lt _ (by decide)⟩
theorem cut_u (v : Nat) : ((⟨#[48, 49, 50, 51, 52, 53, 54, 55, 56, 57, 65, 66, 67, 68, 69, 70]⟩ : ByteArray).extract (v % 16) (v % 16 + 1)).data.toList = [uch (v % 16)] := by
  have h : ∀ k : Fin 16, ((⟨#[48, 49, 50, 51, 52, 53, 54, 55, 56, 57, 65, 66, 67, 68, 69, 70]⟩ : ByteArray).extract k.val (k.val + 1)).data.toList = [uch k.val] := by decide
  exact h ⟨v % 16, Nat.mod_lt _ (by decide)⟩
theorem cut_z (j : Nat) (hj : j < 10) : ((⟨#[48, 48, 48, 48, 48, 48, 48, 48, 48]⟩ : ByteArray).extract 0 j).data.toList = List.replicate j 48 := by
  have h : ∀ k : Fin 10, ((⟨#[48, 48, 48, 48, 48, 48, 48, 48, 48]⟩ : ByteArray).extract 0 k.val).data.toList = List.replicate k.val 48 := by decide
  exact h ⟨j, hj⟩
theorem list_empty (d : ByteArray) : d.toList.isEmpty = true ↔ d.data.toList = [] := by rw [ByteArray.toList_eq, List.isEmpty_iff]
def strE (v : Value) : Nat := match v with
  | .string d => if d.size = 0 then 1 else 0
  | _ => 0
theorem strE_le (d : ByteArray) : strE (.string d) ≤ 1 := by
  show (if d.size = 0 then 1 else 0) ≤ 1
  split <;> omega
theorem strE_app (c d : ByteArray) (h : c.size ≠ 0) : strE (.string (c ++ d)) = 0 := if_neg (by rw [ByteArray.size_append]; omega)
theorem size_of1 {c : ByteArray} {x : UInt8} (h : c.data.toList = [x]) : c.size = 1 := by
  show c.data.toList.length = 1
  rw [h]; rfl
theorem ne_nil {d : ByteArray} (h : d.data.toList ≠ []) : d.toList.isEmpty = false := by
  rw [← Bool.not_eq_true, list_empty]; exact h
set_option maxHeartbeats 4000000 in
theorem charrefNumbers (n zeros : Int) (w0 : (Lit.int .i64 n).wf = true) (w1 : (Lit.int .i64 zeros).wf = true) (w : World) :
    Calls Try.prog 7 #[.int .i64 n, .int .i64 zeros] w fun e w' => e = .returned (.bool true) ∧ Below w.heap.size w w' := by
  clear w0 w1
  go_enter Try.func7, Try.ntmps7
  go_wp2_with fail
  refine (place_calls _ 1179648 (by decide) (by decide) _).mono ?_
  rintro e w1 ⟨⟨k, hk, rfl⟩, rfl⟩
  have HK : Hid (k < 1179648) := Lib.hid (by omega)
  clear hk
  go_wp2_with fail
  refine (place_calls _ 10 (by decide) (by decide) _).mono ?_
  rintro e w2 ⟨⟨j, hj, rfl⟩, rfl⟩
  have hj2 : j < 10 := by omega
  go_wp2_with fail
  generalize hZ : (⟨#[48, 48, 48, 48, 48, 48, 48, 48, 48]⟩ : ByteArray).extract 0 j = z
  have hzl := cut_z j hj2
  rw [hZ] at hzl
  have HZ := Lib.hid hzl
  have hzs : z.size ≤ 9 := by
    show z.data.toList.length ≤ 9
    rw [hzl, List.length_replicate]; omega
  clear hZ hzl hj
  go_loop [7, 10] (fun t7 t10 => ∃ (m v : Nat) (d : ByteArray), t7 = .string d ∧ t10 = .int .i64 v ∧ d.size ≤ 7 ∧ Hid (DigZ 10 dch k m v d)) (fun t7 t10 => (intOf t10).toNat + strE t7)
  case atStart => exact ⟨7, k, _, rfl, rfl, by decide, Lib.hid (digZ_start _ _ _ (by have := HK.out; omega))⟩
  case round =>
    obtain ⟨m, v, d, rfl, rfl, hds, HD⟩ := hrel
    by_cases hv0 : 0 < v
    · obtain ⟨m', rfl⟩ := digZ_some HD.out (.inl hv0)
      have HST := Lib.hid (digZ_step (by decide) HD.out (.inl hv0) (cut_d v))
      have HC1 := Lib.hid (size_of1 (cut_d v))
      have hz : ((⟨#[48, 49, 50, 51, 52, 53, 54, 55, 56, 57]⟩ : ByteArray).extract (v % 10) (v % 10 + 1)).size + d.size ≤ maxLen := by rw [HC1.out]; unfold maxLen; omega
      have hsz := HD.out.sz
      have hvb : v < 10000000 := Nat.lt_of_lt_of_le HD.out.lt (Nat.pow_le_pow_right (n := 10) (by decide) (show m' + 1 ≤ 7 by omega))
      have hvb2 : (v : Int) < 10000000 := by omega
      clear hvb
      go_wp2_with fail
      refine ⟨⟨m', v / 10, _, rfl, slot_int (by omega), ?_, Lib.hid HST.out⟩, ?_⟩
      · rw [ByteArray.size_append, HC1.out]; omega
      · rw [strE_app _ _ (by rw [HC1.out]; decide)]
        simp [intOf]; omega
    · obtain rfl : v = 0 := by omega
      by_cases hd0 : d.data.toList = []
      · obtain ⟨m', rfl⟩ := digZ_some HD.out (.inr hd0)
        have HST := Lib.hid (digZ_step (by decide) HD.out (.inr hd0) (cut_d 0))
        have HC1 := Lib.hid (size_of1 (cut_d 0))
        obtain rfl : d = ⟨#[]⟩ := bytes_eq.1 hd0
        go_wp2_with fail
        exact ⟨⟨m', 0, _, rfl, rfl, by decide, Lib.hid HST.out⟩, by decide⟩
      · have hne := ne_nil hd0
        have HDD := Lib.hid (digZ_done HD.out hd0)
        clear hd0 HD
        go_wp2_with fail
        go_loop [8, 9, 11] (fun t8 t9 t11 => ∃ (m v : Nat) (h u : ByteArray), t8 = .string h ∧ t9 = .string u ∧ t11 = .int .i64 v ∧ h.size ≤ 7 ∧ u.size ≤ 7 ∧ Hid (DigZ 16 hch k m v h ∧ DigZ 16 uch k m v u ∧ (h.data.toList = [] ↔ u.data.toList = []))) (fun t8 _ t11 => (intOf t11).toNat + strE t8)
        case atStart => exact ⟨7, k, _, _, rfl, rfl, rfl, by decide, by decide, Lib.hid ⟨digZ_start _ _ _ (by have := HK.out; omega), digZ_start _ _ _ (by have := HK.out; omega), Iff.rfl⟩⟩
        case round =>
          obtain ⟨m, v, h, u, rfl, rfl, rfl, hhs, hus, HH⟩ := hrel
          by_cases hv0 : 0 < v
          · obtain ⟨m', rfl⟩ := digZ_some HH.out.1 (.inl hv0)
            have HST := Lib.hid (digZ_step (by decide) HH.out.1 (.inl hv0) (cut_h v))
            have HST2 := Lib.hid (digZ_step (by decide) HH.out.2.1 (.inl hv0) (cut_u v))
            have HC1 := Lib.hid (size_of1 (cut_h v))
            have HC2 := Lib.hid (size_of1 (cut_u v))
            have hz : ((⟨#[48, 49, 50, 51, 52, 53, 54, 55, 56, 57, 97, 98, 99, 100, 101, 102]⟩ : ByteArray).extract (v % 16) (v % 16 + 1)).size + h.size ≤ maxLen := by rw [HC1.out]; unfold maxLen; omega
            have hz2 : ((⟨#[48, 49, 50, 51, 52, 53, 54, 55, 56, 57, 65, 66, 67, 68, 69, 70]⟩ : ByteArray).extract (v % 16) (v % 16 + 1)).size + u.size ≤ maxLen := by rw [HC2.out]; unfold maxLen; omega
            have hsz := HH.out.1.sz
            have hsz2 := HH.out.2.1.sz
            have hvb : v < 268435456 := Nat.lt_of_lt_of_le HH.out.1.lt (Nat.pow_le_pow_right (n := 16) (by decide) (show m' + 1 ≤ 7 by omega))
            have hvb2 : (v : Int) < 268435456 := by omega
            clear hvb
            go_wp2_with fail
            refine ⟨⟨m', v / 16, _, _, rfl, rfl, slot_int (by omega), ?_, ?_, Lib.hid ⟨HST.out, HST2.out, ?_⟩⟩, ?_⟩
            · rw [ByteArray.size_append, HC1.out]; omega
            · rw [ByteArray.size_append, HC2.out]; omega
            · rw [app_list, app_list, cut_h, cut_u]; simp
            · rw [strE_app _ _ (by rw [HC1.out]; decide)]
              simp [intOf]; omega
          · obtain rfl : v = 0 := by omega
            by_cases hd0 : h.data.toList = []
            · have hu0 := HH.out.2.2.1 hd0
              obtain ⟨m', rfl⟩ := digZ_some HH.out.1 (.inr hd0)
              have HST := Lib.hid (digZ_step (by decide) HH.out.1 (.inr hd0) (cut_h 0))
              have HST2 := Lib.hid (digZ_step (by decide) HH.out.2.1 (.inr hu0) (cut_u 0))
              obtain rfl : h = ⟨#[]⟩ := bytes_eq.1 hd0
              obtain rfl : u = ⟨#[]⟩ := bytes_eq.1 hu0
              go_wp2_with fail
              exact ⟨⟨m', 0, _, _, rfl, rfl, rfl, by decide, by decide, Lib.hid ⟨HST.out, HST2.out, by decide⟩⟩, by decide⟩
            · have hnh := ne_nil hd0
              have hnu : u.toList.isEmpty = false := ne_nil (fun e => hd0 (HH.out.2.2.2 e))
              have HDH := Lib.hid (digZ_done HH.out.1 hd0)
              have HDU := Lib.hid (digZ_done HH.out.2.1 (fun e => hd0 (HH.out.2.2.2 e)))
              have N1 := Lib.hid (num_dec z d k j HK.out HZ.out HDD.out)
              have N2 := Lib.hid (num_hex z h k j HK.out HZ.out HDH.out)
              have N3 := Lib.hid (num_upper u k HK.out HDU.out)
              have hpos := enc_pos (code (min (k : Int) 1114112))
              have z2 : (⟨#[38, 35]⟩ : ByteArray).size + z.size ≤ maxLen := by show 2 + z.size ≤ 9223372036854775807; omega
              have R1 := Lib.hid (ref_as _ ref_all _ (by rw [ByteArray.size_append, ByteArray.size_append, ByteArray.size_append]; show 2 + z.size + d.size + 1 ≤ _; omega) 0 (by omega) false _ _ N1.out)
              have R2 := Lib.hid (ref_as _ ref_all _ (by rw [ByteArray.size_append, ByteArray.size_append, ByteArray.size_append]; show 3 + z.size + h.size + 1 ≤ _; omega) 0 (by omega) true _ _ N2.out)
              have R3 := Lib.hid (ref_as _ ref_all _ (by rw [ByteArray.size_append]; show 3 + u.size ≤ _; omega) 0 (by omega) false _ _ N3.out)
              have hse : signOf k = Utf8.encode (code (min (k : Int) 1114112)) := rfl
              rw [← hse] at hpos
              generalize signOf k = E at R1 R2 R3 hpos
              have hEn : E.toList.isEmpty = false := ne_nil (fun e => hpos (by show E.data.toList.length = 0; rw [e]; rfl))
              clear hd0 HH hse hpos N1 N2 N3
              go_wp2_with fail
              refine (R1.out _).mono ?_
              rintro e w3 ⟨rfl, hb⟩
              have HB1 := Lib.hid hb
              clear hb R1
              go_wp2_with fail
              refine (R2.out _).mono ?_
              rintro e w4 ⟨rfl, hb⟩
              have HB2 := Lib.hid (HB1.out.trans (hb.mono HB1.out.size))
              clear hb R2
              go_wp2_with fail
              refine (R3.out _).mono ?_
              rintro e w5 ⟨rfl, hb⟩
              have HB3 := Lib.hid (HB2.out.trans (hb.mono HB2.out.size))
              clear hb R3
              go_wp2_with fail
              refine (cawake_calls _).mono ?_
              rintro e w7 ⟨rfl, hb⟩
              have HB7 := Lib.hid (HB3.out.trans (hb.mono HB3.out.size))
              clear hb
              go_wp2_with fail
              go_ret
              exact ⟨rfl, HB7.out⟩
end Go.Proofs.Ytfjlpekoklmedaa.Wk
