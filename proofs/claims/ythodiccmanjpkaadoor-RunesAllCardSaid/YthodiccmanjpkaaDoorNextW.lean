/- The document's Next: the model's own decoding. -/
import Derived.Test.YthodiccmanjpkaaDoorPlainR
import Derived.Test.YthodiccmanjpkaaDoorProg
import Derived.WalkKit
import Derived.BigCall
import Derived.Lib.Hide
import Derived.Below
import Derived.BigQuiet
import Derived.Outline
import Derived.Handy
import Derived.Deep.QuietTactic
namespace Go.Proofs.YthodiccmanjpkaaDoor.Ru
open Go Go.RowKit Go.Lib
set_option linter.unusedVariables false

/-- What Next hands back. -/
def nextV (s : ByteArray) (i : Nat) : Int × Int := if (Utf8.decode s i).1 = 65533 ∧ (Utf8.decode s i).2 = 1 then (0, 0) else (((Utf8.decode s i).1 : Int), ((Utf8.decode s i).2 : Int))
def nb (s : ByteArray) (i : Nat) : Nat := (s.data.toList.getD i 0).toNat
theorem nb_lt (s : ByteArray) (i : Nat) : nb s i < 256 := (s.data.toList.getD i 0).toNat_lt
theorem nb_get (s : ByteArray) (i : Nat) (h : i < s.size) : s[i].toNat = nb s i := by
  unfold nb; rw [Lib.getD_get!', show s.get! i = s[i] from get_at s i h]
theorem nextV_N (s : ByteArray) (i : Nat) (r : Nat × Nat) (h : decodeN (s.size - i) (nb s i) (nb s (i + 1)) (nb s (i + 2)) (nb s (i + 3)) = r) : nextV s i = if r.1 = 65533 ∧ r.2 = 1 then (0, 0) else ((r.1 : Int), (r.2 : Int)) := by
  subst h
  unfold nextV nb
  rw [decode_N, Lib.size_eq]
theorem next_1 (s : ByteArray) (i : Nat) (h : nb s i < 128) : nextV s i = ((nb s i : Int), 1) := by
  rw [nextV_N s i (nb s i, 1) (by unfold decodeN; rw [if_pos h]), if_neg (by dsimp only; omega)]; rfl
/-- A first byte that begins none. -/
theorem next_odd (s : ByteArray) (i : Nat) (h : (128 ≤ nb s i ∧ nb s i < 192) ∨ 248 ≤ nb s i) : nextV s i = (0, 0) := by
  have := nb_lt s i
  rw [nextV_N s i (65533, 1) (by unfold decodeN; rw [if_neg (by omega), if_neg (by omega), if_neg (by omega), if_neg (by omega)])]; rfl
/-- A byte that goes on. -/
def okc (s : ByteArray) (j : Nat) : Prop := j < s.size ∧ 128 ≤ nb s j ∧ nb s j ≤ 191
def accV (s : ByteArray) (i : Nat) (v : Int) : Nat → Int
  | 0 => v
  | k + 1 => 64 * accV s i v k + (nb s (i + (k + 1)) : Int) - 128
theorem accV_succ (s : ByteArray) (i : Nat) (v : Int) (k : Nat) (hk : 1 ≤ k) : accV s i v k = 64 * accV s i v (k - 1) + (nb s (i + k) : Int) - 128 := by
  obtain ⟨j, rfl⟩ : ∃ j, k = j + 1 := ⟨k - 1, by omega⟩
  rfl
attribute [irreducible] nextV
def finV (least v n : Int) : Int × Int := if v < least ∨ 1114111 < v ∨ (55296 ≤ v ∧ v ≤ 57343) then (0, 0) else (v, n)
theorem fin_no (least v n : Int) (h : v < least ∨ 1114111 < v ∨ (55296 ≤ v ∧ v ≤ 57343)) : finV least v n = (0, 0) := if_pos h
theorem fin_yes (least v n : Int) (h : ¬ (v < least ∨ 1114111 < v ∨ (55296 ≤ v ∧ v ≤ 57343))) : finV least v n = (v, n) := if_neg h
theorem next_bad2 (s : ByteArray) (i j : Nat) (h0 : 192 ≤ nb s i) (h1 : nb s i < 224) (hj : 1 ≤ j) (hn : j < 2) (h : ¬ okc s (i + j)) : nextV s i = (0, 0) := by
  unfold okc at h
  have := nb_lt s (i + j)
  rw [nextV_N s i (65533, 1) ?_]
  · rfl
  unfold decodeN
  rcases (show j = 1 by omega) with rfl
  · rw [if_neg (by omega), if_neg (by omega), if_neg (by omega), if_neg (by omega)]
theorem next_fin2 (s : ByteArray) (i : Nat) (h0 : 192 ≤ nb s i) (h1 : nb s i < 224) (k1 : okc s (i + 1)) : nextV s i = finV 128 (accV s i ((nb s i : Int) - 192) 1) 2 := by
  unfold okc at k1
  have b1 := nb_lt s (i + 1)
  have e : accV s i ((nb s i : Int) - 192) 1 = ((nb s i % 32 * 64 + nb s (i + 1) % 64 : Nat) : Int) := by
    simp only [accV, Nat.zero_add]
    omega
  rw [e]
  unfold finV
  by_cases hf : ((nb s i % 32 * 64 + nb s (i + 1) % 64 : Nat) : Int) < 128 ∨ 1114111 < ((nb s i % 32 * 64 + nb s (i + 1) % 64 : Nat) : Int) ∨ (55296 ≤ ((nb s i % 32 * 64 + nb s (i + 1) % 64 : Nat) : Int) ∧ ((nb s i % 32 * 64 + nb s (i + 1) % 64 : Nat) : Int) ≤ 57343)
  · rw [if_pos hf, nextV_N s i (65533, 1) ?_]
    · rfl
    unfold decodeN
    rw [if_neg (by omega), if_pos (by omega), if_neg (by omega)]
  · rw [if_neg hf, nextV_N s i (nb s i % 32 * 64 + nb s (i + 1) % 64, 2) ?_, if_neg (by dsimp only; omega)]
    · rfl
    unfold decodeN
    rw [if_neg (by omega), if_pos (by omega), if_pos (by omega)]
theorem next_bad3 (s : ByteArray) (i j : Nat) (h0 : 224 ≤ nb s i) (h1 : nb s i < 240) (hj : 1 ≤ j) (hn : j < 3) (h : ¬ okc s (i + j)) : nextV s i = (0, 0) := by
  unfold okc at h
  have := nb_lt s (i + j)
  rw [nextV_N s i (65533, 1) ?_]
  · rfl
  unfold decodeN
  rcases (show j = 1 ∨ j = 2 by omega) with rfl | rfl
  · rw [if_neg (by omega), if_neg (by omega), if_neg (by omega), if_neg (by omega)]
  · rw [if_neg (by omega), if_neg (by omega), if_neg (by omega), if_neg (by omega)]
theorem next_fin3 (s : ByteArray) (i : Nat) (h0 : 224 ≤ nb s i) (h1 : nb s i < 240) (k1 : okc s (i + 1)) (k2 : okc s (i + 2)) : nextV s i = finV 2048 (accV s i ((nb s i : Int) - 224) 2) 3 := by
  unfold okc at k1
  have b1 := nb_lt s (i + 1)
  unfold okc at k2
  have b2 := nb_lt s (i + 2)
  have e : accV s i ((nb s i : Int) - 224) 2 = ((nb s i % 16 * 4096 + nb s (i + 1) % 64 * 64 + nb s (i + 2) % 64 : Nat) : Int) := by
    simp only [accV, Nat.zero_add, Nat.reduceAdd]
    omega
  rw [e]
  unfold finV
  by_cases hf : ((nb s i % 16 * 4096 + nb s (i + 1) % 64 * 64 + nb s (i + 2) % 64 : Nat) : Int) < 2048 ∨ 1114111 < ((nb s i % 16 * 4096 + nb s (i + 1) % 64 * 64 + nb s (i + 2) % 64 : Nat) : Int) ∨ (55296 ≤ ((nb s i % 16 * 4096 + nb s (i + 1) % 64 * 64 + nb s (i + 2) % 64 : Nat) : Int) ∧ ((nb s i % 16 * 4096 + nb s (i + 1) % 64 * 64 + nb s (i + 2) % 64 : Nat) : Int) ≤ 57343)
  · rw [if_pos hf, nextV_N s i (65533, 1) ?_]
    · rfl
    unfold decodeN
    rw [if_neg (by omega), if_neg (by omega), if_pos (by omega), if_neg (by omega)]
  · rw [if_neg hf, nextV_N s i (nb s i % 16 * 4096 + nb s (i + 1) % 64 * 64 + nb s (i + 2) % 64, 3) ?_, if_neg (by dsimp only; omega)]
    · rfl
    unfold decodeN
    rw [if_neg (by omega), if_neg (by omega), if_pos (by omega), if_pos (by omega)]
theorem next_bad4 (s : ByteArray) (i j : Nat) (h0 : 240 ≤ nb s i) (h1 : nb s i < 248) (hj : 1 ≤ j) (hn : j < 4) (h : ¬ okc s (i + j)) : nextV s i = (0, 0) := by
  unfold okc at h
  have := nb_lt s (i + j)
  rw [nextV_N s i (65533, 1) ?_]
  · rfl
  unfold decodeN
  rcases (show j = 1 ∨ j = 2 ∨ j = 3 by omega) with rfl | rfl | rfl
  · rw [if_neg (by omega), if_neg (by omega), if_neg (by omega), if_neg (by omega)]
  · rw [if_neg (by omega), if_neg (by omega), if_neg (by omega), if_neg (by omega)]
  · rw [if_neg (by omega), if_neg (by omega), if_neg (by omega), if_neg (by omega)]
theorem next_fin4 (s : ByteArray) (i : Nat) (h0 : 240 ≤ nb s i) (h1 : nb s i < 248) (k1 : okc s (i + 1)) (k2 : okc s (i + 2)) (k3 : okc s (i + 3)) : nextV s i = finV 65536 (accV s i ((nb s i : Int) - 240) 3) 4 := by
  unfold okc at k1
  have b1 := nb_lt s (i + 1)
  unfold okc at k2
  have b2 := nb_lt s (i + 2)
  unfold okc at k3
  have b3 := nb_lt s (i + 3)
  have e : accV s i ((nb s i : Int) - 240) 3 = ((nb s i % 8 * 262144 + nb s (i + 1) % 64 * 4096 + nb s (i + 2) % 64 * 64 + nb s (i + 3) % 64 : Nat) : Int) := by
    simp only [accV, Nat.zero_add, Nat.reduceAdd]
    omega
  rw [e]
  unfold finV
  by_cases hf : ((nb s i % 8 * 262144 + nb s (i + 1) % 64 * 4096 + nb s (i + 2) % 64 * 64 + nb s (i + 3) % 64 : Nat) : Int) < 65536 ∨ 1114111 < ((nb s i % 8 * 262144 + nb s (i + 1) % 64 * 4096 + nb s (i + 2) % 64 * 64 + nb s (i + 3) % 64 : Nat) : Int) ∨ (55296 ≤ ((nb s i % 8 * 262144 + nb s (i + 1) % 64 * 4096 + nb s (i + 2) % 64 * 64 + nb s (i + 3) % 64 : Nat) : Int) ∧ ((nb s i % 8 * 262144 + nb s (i + 1) % 64 * 4096 + nb s (i + 2) % 64 * 64 + nb s (i + 3) % 64 : Nat) : Int) ≤ 57343)
  · rw [if_pos hf, nextV_N s i (65533, 1) ?_]
    · rfl
    unfold decodeN
    rw [if_neg (by omega), if_neg (by omega), if_neg (by omega), if_pos (by omega), if_neg (by omega)]
  · rw [if_neg hf, nextV_N s i (nb s i % 8 * 262144 + nb s (i + 1) % 64 * 4096 + nb s (i + 2) % 64 * 64 + nb s (i + 3) % 64, 4) ?_, if_neg (by dsimp only; omega)]
    · rfl
    unfold decodeN
    rw [if_neg (by omega), if_neg (by omega), if_neg (by omega), if_pos (by omega), if_pos (by omega)]

def NextEnd (s : ByteArray) (i : Nat) (w : World) (e : Ending) (w' : World) : Prop := e = .returned (.tuple #[.int .i32 (nextV s i).1, .int .i64 (nextV s i).2]) ∧ w = w'
theorem nextEnd {s : ByteArray} {i : Nat} {w : World} {a b : Int} (h : nextV s i = (a, b)) : NextEnd s i w (.returned (.tuple #[.int .i32 a, .int .i64 b])) w := by unfold NextEnd; rw [h]; exact ⟨rfl, rfl⟩
set_option maxHeartbeats 4000000 in
set_option maxRecDepth 100000 in
theorem next_c1 (s : ByteArray) (i : Nat) (w : World) (hs : s.size ≤ 140737488355328) (hi : i < s.size) (hb : nb s i < 128) :
    Calls Tryd.prog 27 #[.string s, .int .i64 i] w (NextEnd s i w) := by

  have H := Lib.hid (next_1 s i hb)
  have HB := Lib.hid (nb_get s i hi)
  have hb1 : (s[i].toNat : Int) < 128 := by rw [HB.out]; omega
  have l0 : (s[i].toNat : Int) < 256 := by omega
  go_enter Tryd.func27, Tryd.ntmps27
  go_wp2
  go_ret2
  exact nextEnd (by rw [H.out, HB.out])
set_option maxHeartbeats 4000000 in
set_option maxRecDepth 100000 in
theorem next_c0 (s : ByteArray) (i : Nat) (w : World) (hs : s.size ≤ 140737488355328) (hi : i < s.size) (hb : (128 ≤ nb s i ∧ nb s i < 192) ∨ 248 ≤ nb s i) :
    Calls Tryd.prog 27 #[.string s, .int .i64 i] w (NextEnd s i w) := by

  have H := Lib.hid (next_odd s i hb)
  have HB := Lib.hid (nb_get s i hi)
  have hl := nb_lt s i
  have l0 : (s[i].toNat : Int) < 256 := by rw [HB.out]; omega
  rcases hb with hb | hb
  · have d0 : decide ((s[i].toNat : Int) < 128) = false := by rw [HB.out]; simp; omega
    have d1 : decide ((192 : Int) ≤ (s[i].toNat : Int)) = false := by rw [HB.out]; simp; omega
    have d2 : decide ((224 : Int) ≤ (s[i].toNat : Int)) = false := by rw [HB.out]; simp; omega
    have d3 : decide ((240 : Int) ≤ (s[i].toNat : Int)) = false := by rw [HB.out]; simp; omega
    go_enter Tryd.func27, Tryd.ntmps27
    go_wp2
    go_rounds 1
    go_ret2
    exact nextEnd H.out
  · have d0 : decide ((s[i].toNat : Int) < 128) = false := by rw [HB.out]; simp; omega
    have d1 : decide ((192 : Int) ≤ (s[i].toNat : Int)) = true := by rw [HB.out]; simp; omega
    have d2 : decide ((224 : Int) ≤ (s[i].toNat : Int)) = true := by rw [HB.out]; simp; omega
    have d3 : decide ((240 : Int) ≤ (s[i].toNat : Int)) = true := by rw [HB.out]; simp; omega
    have f1 : decide ((s[i].toNat : Int) < 224) = false := by rw [HB.out]; simp; omega
    have f2 : decide ((s[i].toNat : Int) < 240) = false := by rw [HB.out]; simp; omega
    have f3 : decide ((s[i].toNat : Int) < 248) = false := by rw [HB.out]; simp; omega
    go_enter Tryd.func27, Tryd.ntmps27
    go_wp2
    go_rounds 1
    go_ret2
    exact nextEnd H.out

theorem acc_bd2 (s : ByteArray) (i : Nat) (v : Int) (h0 : 0 ≤ v) (h1 : v ≤ 31) : ∀ k, k ≤ 1 → (∀ j, 1 ≤ j → j ≤ k → okc s (i + j)) → 0 ≤ accV s i v k ∧ accV s i v k ≤ 2097151 := by
  intro k hk hok
  unfold okc at hok
  rcases (show k = 0 ∨ k = 1 by omega) with rfl | rfl
  · show 0 ≤ v ∧ v ≤ 2097151
    omega
  · have k1 := hok 1 (by omega) (by omega)
    show 0 ≤ 64 * (v) + (nb s (i + 1) : Int) - 128 ∧ 64 * (v) + (nb s (i + 1) : Int) - 128 ≤ 2097151
    omega
set_option maxHeartbeats 4000000 in
set_option maxRecDepth 100000 in
theorem next_c2 (s : ByteArray) (i : Nat) (w : World) (hs : s.size ≤ 140737488355328) (hi : i < s.size) (b0 : 192 ≤ nb s i) (b1 : nb s i < 224) :
    Calls Tryd.prog 27 #[.string s, .int .i64 i] w (NextEnd s i w) := by

  have HB := Lib.hid (nb_get s i hi)
  have l0 : (s[i].toNat : Int) < 256 := by rw [HB.out]; have := nb_lt s i; omega
  have d0 : decide ((s[i].toNat : Int) < 128) = false := by rw [HB.out]; simp; omega
  have g192 : decide ((192 : Int) ≤ (s[i].toNat : Int)) = true := by rw [HB.out]; simp; omega
  have f224 : decide ((s[i].toNat : Int) < 224) = true := by rw [HB.out]; simp; omega
  have g224 : decide ((224 : Int) ≤ (s[i].toNat : Int)) = false := by rw [HB.out]; simp; omega
  have g240 : decide ((240 : Int) ≤ (s[i].toNat : Int)) = false := by rw [HB.out]; simp; omega
  have e0 : (s[i].toNat : Int) - 192 = accV s i ((nb s i : Int) - 192) 0 := by rw [HB.out]; rfl
  have E0 := Lib.hid e0
  clear e0
  go_enter Tryd.func27, Tryd.ntmps27
  go_wp2
  go_loop [8, 10] (fun v j => ∃ k : Nat, 1 ≤ k ∧ k ≤ 2 ∧ j = .int .i64 k ∧ v = .int .i64 (accV s i ((nb s i : Int) - 192) (k - 1)) ∧ Hid (∀ j, 1 ≤ j → j < k → okc s (i + j))) (fun _ j => 2 - (intOf j).toNat)
  case atStart => exact ⟨1, by omega, by omega, rfl, by rw [E0.out], Lib.hid (fun j a b => absurd b (by omega))⟩
  case round =>
    obtain ⟨k, hk1, hk2, rfl, rfl, HOK⟩ := hrel
    have hbd := acc_bd2 s i ((nb s i : Int) - 192) (by omega) (by omega) (k - 1) (by omega) (fun j a b => HOK.out j a (by omega))
    by_cases hlt : k < 2
    · by_cases h1 : i + k < s.size
      · have h1' : (i : Int) + (k : Int) < (s.size : Int) := by omega
        have HK := Lib.hid (nb_get s (i + k) h1)
        have hbk := nb_lt s (i + k)
        have l1 : (s[i + k].toNat : Int) < 256 := by rw [HK.out]; omega
        by_cases h2 : 128 ≤ nb s (i + k)
        · have t1 : decide ((s[i + k].toNat : Int) < 128) = false := by rw [HK.out]; simp; omega
          by_cases h3 : nb s (i + k) ≤ 191
          · have t2 : decide ((191 : Int) < (s[i + k].toNat : Int)) = false := by rw [HK.out]; simp; omega
            have HE := Lib.hid (accV_succ s i ((nb s i : Int) - 192) k hk1)
            generalize hacc : accV s i ((nb s i : Int) - 192) (k - 1) = A at hbd HE ⊢
            have HA := Lib.hid hacc
            clear hacc
            go_wp2_with fail
            go_round
            case rel =>
              refine ⟨k + 1, by omega, by omega, by go_num, ?_, Lib.hid fun j a b => ?_⟩
              · rw [Nat.add_sub_cancel, HE.out, HK.out]
              · rcases Nat.lt_or_ge j k with hl | hl
                · exact HOK.out j a hl
                · obtain rfl : j = k := by omega
                  exact ⟨h1, h2, h3⟩
            case measure => simp [intOf]; omega
          · have t2 : decide ((191 : Int) < (s[i + k].toNat : Int)) = true := by rw [HK.out]; simp; omega
            have H := Lib.hid (next_bad2 s i k b0 b1 hk1 hlt (fun h => h3 h.2.2))
            go_wp2_with fail
            go_ret2
            exact nextEnd H.out
        · have t1 : decide ((s[i + k].toNat : Int) < 128) = true := by rw [HK.out]; simp; omega
          have H := Lib.hid (next_bad2 s i k b0 b1 hk1 hlt (fun h => h2 h.2.1))
          go_wp2_with fail
          go_ret2
          exact nextEnd H.out
      · have h1' : (s.size : Int) ≤ (i : Int) + (k : Int) := by omega
        have H := Lib.hid (next_bad2 s i k b0 b1 hk1 hlt (fun h => h1 h.1))
        go_wp2_with fail
        go_ret2
        exact nextEnd H.out
    · obtain rfl : k = 2 := by omega
      have hok := HOK.out
      have H := Lib.hid (next_fin2 s i b0 b1 (hok 1 (by omega) (by omega)))
      clear hok
      generalize hacc : accV s i ((nb s i : Int) - 192) (2 - 1) = A at hbd ⊢
      have HA := Lib.hid (show accV s i ((nb s i : Int) - 192) 1 = A from hacc)
      clear hacc
      have F0 := Lib.hid (fin_no 128 A 2)
      have F1 := Lib.hid (fin_yes 128 A 2)
      by_cases c0 : A < 128
      · go_wp2_with fail
        go_ret2
        exact nextEnd (by rw [H.out, HA.out]; exact F0.out (by omega))
      have q0 : decide (A < 128) = false := by simpa using c0
      by_cases c1 : 1114111 < A
      · go_wp2_with fail
        go_ret2
        exact nextEnd (by rw [H.out, HA.out]; exact F0.out (by omega))
      have q1 : decide (1114111 < A) = false := by simpa using c1
      by_cases c2 : 55296 ≤ A
      · by_cases c3 : A ≤ 57343
        · go_wp2_with fail
          go_ret2
          exact nextEnd (by rw [H.out, HA.out]; exact F0.out (by omega))
        have q3 : decide (A ≤ 57343) = false := by simpa using c3
        go_wp2_with fail
        go_ret2
        exact nextEnd (by rw [H.out, HA.out]; exact F1.out (by omega))
      have q2 : decide (55296 ≤ A) = false := by simpa using c2
      go_wp2_with fail
      go_ret2
      exact nextEnd (by rw [H.out, HA.out]; exact F1.out (by omega))

theorem acc_bd3 (s : ByteArray) (i : Nat) (v : Int) (h0 : 0 ≤ v) (h1 : v ≤ 15) : ∀ k, k ≤ 2 → (∀ j, 1 ≤ j → j ≤ k → okc s (i + j)) → 0 ≤ accV s i v k ∧ accV s i v k ≤ 2097151 := by
  intro k hk hok
  unfold okc at hok
  rcases (show k = 0 ∨ k = 1 ∨ k = 2 by omega) with rfl | rfl | rfl
  · show 0 ≤ v ∧ v ≤ 2097151
    omega
  · have k1 := hok 1 (by omega) (by omega)
    show 0 ≤ 64 * (v) + (nb s (i + 1) : Int) - 128 ∧ 64 * (v) + (nb s (i + 1) : Int) - 128 ≤ 2097151
    omega
  · have k1 := hok 1 (by omega) (by omega)
    have k2 := hok 2 (by omega) (by omega)
    show 0 ≤ 64 * (64 * (v) + (nb s (i + 1) : Int) - 128) + (nb s (i + 2) : Int) - 128 ∧ 64 * (64 * (v) + (nb s (i + 1) : Int) - 128) + (nb s (i + 2) : Int) - 128 ≤ 2097151
    omega
set_option maxHeartbeats 4000000 in
set_option maxRecDepth 100000 in
theorem next_c3 (s : ByteArray) (i : Nat) (w : World) (hs : s.size ≤ 140737488355328) (hi : i < s.size) (b0 : 224 ≤ nb s i) (b1 : nb s i < 240) :
    Calls Tryd.prog 27 #[.string s, .int .i64 i] w (NextEnd s i w) := by

  have HB := Lib.hid (nb_get s i hi)
  have l0 : (s[i].toNat : Int) < 256 := by rw [HB.out]; have := nb_lt s i; omega
  have d0 : decide ((s[i].toNat : Int) < 128) = false := by rw [HB.out]; simp; omega
  have g192 : decide ((192 : Int) ≤ (s[i].toNat : Int)) = true := by rw [HB.out]; simp; omega
  have f224 : decide ((s[i].toNat : Int) < 224) = false := by rw [HB.out]; simp; omega
  have g224 : decide ((224 : Int) ≤ (s[i].toNat : Int)) = true := by rw [HB.out]; simp; omega
  have f240 : decide ((s[i].toNat : Int) < 240) = true := by rw [HB.out]; simp; omega
  have g240 : decide ((240 : Int) ≤ (s[i].toNat : Int)) = false := by rw [HB.out]; simp; omega
  have e0 : (s[i].toNat : Int) - 224 = accV s i ((nb s i : Int) - 224) 0 := by rw [HB.out]; rfl
  have E0 := Lib.hid e0
  clear e0
  go_enter Tryd.func27, Tryd.ntmps27
  go_wp2
  go_loop [8, 10] (fun v j => ∃ k : Nat, 1 ≤ k ∧ k ≤ 3 ∧ j = .int .i64 k ∧ v = .int .i64 (accV s i ((nb s i : Int) - 224) (k - 1)) ∧ Hid (∀ j, 1 ≤ j → j < k → okc s (i + j))) (fun _ j => 3 - (intOf j).toNat)
  case atStart => exact ⟨1, by omega, by omega, rfl, by rw [E0.out], Lib.hid (fun j a b => absurd b (by omega))⟩
  case round =>
    obtain ⟨k, hk1, hk2, rfl, rfl, HOK⟩ := hrel
    have hbd := acc_bd3 s i ((nb s i : Int) - 224) (by omega) (by omega) (k - 1) (by omega) (fun j a b => HOK.out j a (by omega))
    by_cases hlt : k < 3
    · by_cases h1 : i + k < s.size
      · have h1' : (i : Int) + (k : Int) < (s.size : Int) := by omega
        have HK := Lib.hid (nb_get s (i + k) h1)
        have hbk := nb_lt s (i + k)
        have l1 : (s[i + k].toNat : Int) < 256 := by rw [HK.out]; omega
        by_cases h2 : 128 ≤ nb s (i + k)
        · have t1 : decide ((s[i + k].toNat : Int) < 128) = false := by rw [HK.out]; simp; omega
          by_cases h3 : nb s (i + k) ≤ 191
          · have t2 : decide ((191 : Int) < (s[i + k].toNat : Int)) = false := by rw [HK.out]; simp; omega
            have HE := Lib.hid (accV_succ s i ((nb s i : Int) - 224) k hk1)
            generalize hacc : accV s i ((nb s i : Int) - 224) (k - 1) = A at hbd HE ⊢
            have HA := Lib.hid hacc
            clear hacc
            go_wp2_with fail
            go_round
            case rel =>
              refine ⟨k + 1, by omega, by omega, by go_num, ?_, Lib.hid fun j a b => ?_⟩
              · rw [Nat.add_sub_cancel, HE.out, HK.out]
              · rcases Nat.lt_or_ge j k with hl | hl
                · exact HOK.out j a hl
                · obtain rfl : j = k := by omega
                  exact ⟨h1, h2, h3⟩
            case measure => simp [intOf]; omega
          · have t2 : decide ((191 : Int) < (s[i + k].toNat : Int)) = true := by rw [HK.out]; simp; omega
            have H := Lib.hid (next_bad3 s i k b0 b1 hk1 hlt (fun h => h3 h.2.2))
            go_wp2_with fail
            go_ret2
            exact nextEnd H.out
        · have t1 : decide ((s[i + k].toNat : Int) < 128) = true := by rw [HK.out]; simp; omega
          have H := Lib.hid (next_bad3 s i k b0 b1 hk1 hlt (fun h => h2 h.2.1))
          go_wp2_with fail
          go_ret2
          exact nextEnd H.out
      · have h1' : (s.size : Int) ≤ (i : Int) + (k : Int) := by omega
        have H := Lib.hid (next_bad3 s i k b0 b1 hk1 hlt (fun h => h1 h.1))
        go_wp2_with fail
        go_ret2
        exact nextEnd H.out
    · obtain rfl : k = 3 := by omega
      have hok := HOK.out
      have H := Lib.hid (next_fin3 s i b0 b1 (hok 1 (by omega) (by omega)) (hok 2 (by omega) (by omega)))
      clear hok
      generalize hacc : accV s i ((nb s i : Int) - 224) (3 - 1) = A at hbd ⊢
      have HA := Lib.hid (show accV s i ((nb s i : Int) - 224) 2 = A from hacc)
      clear hacc
      have F0 := Lib.hid (fin_no 2048 A 3)
      have F1 := Lib.hid (fin_yes 2048 A 3)
      by_cases c0 : A < 2048
      · go_wp2_with fail
        go_ret2
        exact nextEnd (by rw [H.out, HA.out]; exact F0.out (by omega))
      have q0 : decide (A < 2048) = false := by simpa using c0
      by_cases c1 : 1114111 < A
      · go_wp2_with fail
        go_ret2
        exact nextEnd (by rw [H.out, HA.out]; exact F0.out (by omega))
      have q1 : decide (1114111 < A) = false := by simpa using c1
      by_cases c2 : 55296 ≤ A
      · by_cases c3 : A ≤ 57343
        · go_wp2_with fail
          go_ret2
          exact nextEnd (by rw [H.out, HA.out]; exact F0.out (by omega))
        have q3 : decide (A ≤ 57343) = false := by simpa using c3
        go_wp2_with fail
        go_ret2
        exact nextEnd (by rw [H.out, HA.out]; exact F1.out (by omega))
      have q2 : decide (55296 ≤ A) = false := by simpa using c2
      go_wp2_with fail
      go_ret2
      exact nextEnd (by rw [H.out, HA.out]; exact F1.out (by omega))

theorem acc_bd4 (s : ByteArray) (i : Nat) (v : Int) (h0 : 0 ≤ v) (h1 : v ≤ 7) : ∀ k, k ≤ 3 → (∀ j, 1 ≤ j → j ≤ k → okc s (i + j)) → 0 ≤ accV s i v k ∧ accV s i v k ≤ 2097151 := by
  intro k hk hok
  unfold okc at hok
  rcases (show k = 0 ∨ k = 1 ∨ k = 2 ∨ k = 3 by omega) with rfl | rfl | rfl | rfl
  · show 0 ≤ v ∧ v ≤ 2097151
    omega
  · have k1 := hok 1 (by omega) (by omega)
    show 0 ≤ 64 * (v) + (nb s (i + 1) : Int) - 128 ∧ 64 * (v) + (nb s (i + 1) : Int) - 128 ≤ 2097151
    omega
  · have k1 := hok 1 (by omega) (by omega)
    have k2 := hok 2 (by omega) (by omega)
    show 0 ≤ 64 * (64 * (v) + (nb s (i + 1) : Int) - 128) + (nb s (i + 2) : Int) - 128 ∧ 64 * (64 * (v) + (nb s (i + 1) : Int) - 128) + (nb s (i + 2) : Int) - 128 ≤ 2097151
    omega
  · have k1 := hok 1 (by omega) (by omega)
    have k2 := hok 2 (by omega) (by omega)
    have k3 := hok 3 (by omega) (by omega)
    show 0 ≤ 64 * (64 * (64 * (v) + (nb s (i + 1) : Int) - 128) + (nb s (i + 2) : Int) - 128) + (nb s (i + 3) : Int) - 128 ∧ 64 * (64 * (64 * (v) + (nb s (i + 1) : Int) - 128) + (nb s (i + 2) : Int) - 128) + (nb s (i + 3) : Int) - 128 ≤ 2097151
    omega
set_option maxHeartbeats 4000000 in
set_option maxRecDepth 100000 in
theorem next_c4 (s : ByteArray) (i : Nat) (w : World) (hs : s.size ≤ 140737488355328) (hi : i < s.size) (b0 : 240 ≤ nb s i) (b1 : nb s i < 248) :
    Calls Tryd.prog 27 #[.string s, .int .i64 i] w (NextEnd s i w) := by

  have HB := Lib.hid (nb_get s i hi)
  have l0 : (s[i].toNat : Int) < 256 := by rw [HB.out]; have := nb_lt s i; omega
  have d0 : decide ((s[i].toNat : Int) < 128) = false := by rw [HB.out]; simp; omega
  have g192 : decide ((192 : Int) ≤ (s[i].toNat : Int)) = true := by rw [HB.out]; simp; omega
  have f224 : decide ((s[i].toNat : Int) < 224) = false := by rw [HB.out]; simp; omega
  have g224 : decide ((224 : Int) ≤ (s[i].toNat : Int)) = true := by rw [HB.out]; simp; omega
  have f240 : decide ((s[i].toNat : Int) < 240) = false := by rw [HB.out]; simp; omega
  have g240 : decide ((240 : Int) ≤ (s[i].toNat : Int)) = true := by rw [HB.out]; simp; omega
  have f248 : decide ((s[i].toNat : Int) < 248) = true := by rw [HB.out]; simp; omega
  have e0 : (s[i].toNat : Int) - 240 = accV s i ((nb s i : Int) - 240) 0 := by rw [HB.out]; rfl
  have E0 := Lib.hid e0
  clear e0
  go_enter Tryd.func27, Tryd.ntmps27
  go_wp2
  go_loop [8, 10] (fun v j => ∃ k : Nat, 1 ≤ k ∧ k ≤ 4 ∧ j = .int .i64 k ∧ v = .int .i64 (accV s i ((nb s i : Int) - 240) (k - 1)) ∧ Hid (∀ j, 1 ≤ j → j < k → okc s (i + j))) (fun _ j => 4 - (intOf j).toNat)
  case atStart => exact ⟨1, by omega, by omega, rfl, by rw [E0.out], Lib.hid (fun j a b => absurd b (by omega))⟩
  case round =>
    obtain ⟨k, hk1, hk2, rfl, rfl, HOK⟩ := hrel
    have hbd := acc_bd4 s i ((nb s i : Int) - 240) (by omega) (by omega) (k - 1) (by omega) (fun j a b => HOK.out j a (by omega))
    by_cases hlt : k < 4
    · by_cases h1 : i + k < s.size
      · have h1' : (i : Int) + (k : Int) < (s.size : Int) := by omega
        have HK := Lib.hid (nb_get s (i + k) h1)
        have hbk := nb_lt s (i + k)
        have l1 : (s[i + k].toNat : Int) < 256 := by rw [HK.out]; omega
        by_cases h2 : 128 ≤ nb s (i + k)
        · have t1 : decide ((s[i + k].toNat : Int) < 128) = false := by rw [HK.out]; simp; omega
          by_cases h3 : nb s (i + k) ≤ 191
          · have t2 : decide ((191 : Int) < (s[i + k].toNat : Int)) = false := by rw [HK.out]; simp; omega
            have HE := Lib.hid (accV_succ s i ((nb s i : Int) - 240) k hk1)
            generalize hacc : accV s i ((nb s i : Int) - 240) (k - 1) = A at hbd HE ⊢
            have HA := Lib.hid hacc
            clear hacc
            go_wp2_with fail
            go_round
            case rel =>
              refine ⟨k + 1, by omega, by omega, by go_num, ?_, Lib.hid fun j a b => ?_⟩
              · rw [Nat.add_sub_cancel, HE.out, HK.out]
              · rcases Nat.lt_or_ge j k with hl | hl
                · exact HOK.out j a hl
                · obtain rfl : j = k := by omega
                  exact ⟨h1, h2, h3⟩
            case measure => simp [intOf]; omega
          · have t2 : decide ((191 : Int) < (s[i + k].toNat : Int)) = true := by rw [HK.out]; simp; omega
            have H := Lib.hid (next_bad4 s i k b0 b1 hk1 hlt (fun h => h3 h.2.2))
            go_wp2_with fail
            go_ret2
            exact nextEnd H.out
        · have t1 : decide ((s[i + k].toNat : Int) < 128) = true := by rw [HK.out]; simp; omega
          have H := Lib.hid (next_bad4 s i k b0 b1 hk1 hlt (fun h => h2 h.2.1))
          go_wp2_with fail
          go_ret2
          exact nextEnd H.out
      · have h1' : (s.size : Int) ≤ (i : Int) + (k : Int) := by omega
        have H := Lib.hid (next_bad4 s i k b0 b1 hk1 hlt (fun h => h1 h.1))
        go_wp2_with fail
        go_ret2
        exact nextEnd H.out
    · obtain rfl : k = 4 := by omega
      have hok := HOK.out
      have H := Lib.hid (next_fin4 s i b0 b1 (hok 1 (by omega) (by omega)) (hok 2 (by omega) (by omega)) (hok 3 (by omega) (by omega)))
      clear hok
      generalize hacc : accV s i ((nb s i : Int) - 240) (4 - 1) = A at hbd ⊢
      have HA := Lib.hid (show accV s i ((nb s i : Int) - 240) 3 = A from hacc)
      clear hacc
      have F0 := Lib.hid (fin_no 65536 A 4)
      have F1 := Lib.hid (fin_yes 65536 A 4)
      by_cases c0 : A < 65536
      · go_wp2_with fail
        go_ret2
        exact nextEnd (by rw [H.out, HA.out]; exact F0.out (by omega))
      have q0 : decide (A < 65536) = false := by simpa using c0
      by_cases c1 : 1114111 < A
      · go_wp2_with fail
        go_ret2
        exact nextEnd (by rw [H.out, HA.out]; exact F0.out (by omega))
      have q1 : decide (1114111 < A) = false := by simpa using c1
      by_cases c2 : 55296 ≤ A
      · by_cases c3 : A ≤ 57343
        · go_wp2_with fail
          go_ret2
          exact nextEnd (by rw [H.out, HA.out]; exact F0.out (by omega))
        have q3 : decide (A ≤ 57343) = false := by simpa using c3
        go_wp2_with fail
        go_ret2
        exact nextEnd (by rw [H.out, HA.out]; exact F1.out (by omega))
      have q2 : decide (55296 ≤ A) = false := by simpa using c2
      go_wp2_with fail
      go_ret2
      exact nextEnd (by rw [H.out, HA.out]; exact F1.out (by omega))

theorem next_calls (s : ByteArray) (i : Nat) (w : World) (hs : s.size ≤ 140737488355328) (hi : i < s.size) :
    Calls Tryd.prog 27 #[.string s, .int .i64 i] w (NextEnd s i w) := by
  by_cases h1 : nb s i < 128
  · exact next_c1 s i w hs hi h1
  by_cases h2 : nb s i < 192
  · exact next_c0 s i w hs hi (by omega)
  by_cases h3 : nb s i < 224
  · exact next_c2 s i w hs hi (by omega) h3
  by_cases h4 : nb s i < 240
  · exact next_c3 s i w hs hi (by omega) h4
  by_cases h5 : nb s i < 248
  · exact next_c4 s i w hs hi (by omega) h5
  · exact next_c0 s i w hs hi (by omega)
end Go.Proofs.YthodiccmanjpkaaDoor.Ru
