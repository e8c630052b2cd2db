/- The document's Next: the model's own decoding. -/
import Derived.Test.YtbdgoffbkenofaaGreatScA
import Derived.Test.YtbdgoffbkenofaaGreatProg
import Derived.WalkKit
import Derived.BigCall
import Derived.Lib.Hide
import Derived.Below
import Derived.BigQuiet
import Derived.Outline
import Derived.Handy
import Derived.Deep.QuietTactic
import Derived.WalkLawsBesides
import Derived.WalkSpells
namespace Go.Proofs.YtbdgoffbkenofaaGreat.Rc
open Go Go.RowKit Go.Lib
set_option linter.unusedVariables false

/-- What Next hands back. -/
def nextV (s : ByteArray) (i : Nat) : Int × Int := if (Utf8.decode s i).1 = 65533 ∧ (Utf8.decode s i).2 = 1 then (0, 0) else (((Utf8.decode s i).1 : Int), ((Utf8.decode s i).2 : Int))
def nb (s : ByteArray) (i : Nat) : Nat := (s.data.toList.getD i 0).toNat
theorem nb_lt (s : ByteArray) (i : Nat) : nb s i < 256 := (s.data.toList.getD i 0).toNat_lt
theorem nb_get (s : ByteArray) (i : Nat) (h : i < s.size) : s[i].toNat = nb s i := by
  unfold nb; rw [Lib.getD_get!', show s.get! i = s[i] from get_at s i h]
theorem nextV_N (s : ByteArray) (i : Nat) (r : Nat × Nat) (h : decodeN (s.size - i) (nb s i) (nb s (i + 1)) (nb s (i + 2)) (nb s (i + 3)) = r) : nextV s i = if r.1 = 65533 ∧ r.2 = 1 then (0, 0) else ((r.1 : Int), (r.2 : Int)) := by
  subst h
  unfold nextV nb
  rw [decode_N, Lib.size_eq]
theorem next_1 (s : ByteArray) (i : Nat) (h : nb s i < 128) : nextV s i = ((nb s i : Int), 1) := by
  rw [nextV_N s i (nb s i, 1) (by unfold decodeN; rw [if_pos h]), if_neg (by dsimp only; omega)]; rfl
/-- A first byte that begins none. -/
theorem next_odd (s : ByteArray) (i : Nat) (h : (128 ≤ nb s i ∧ nb s i < 192) ∨ 248 ≤ nb s i) : nextV s i = (0, 0) := by
  have := nb_lt s i
  rw [nextV_N s i (65533, 1) (by unfold decodeN; rw [if_neg (by omega), if_neg (by omega), if_neg (by omega), if_neg (by omega)])]; rfl
/-- A byte that goes on. -/
def okc (s : ByteArray) (j : Nat) : Prop := j < s.size ∧ 128 ≤ nb s j ∧ nb s j ≤ 191
def accV (s : ByteArray) (i : Nat) (v : Int) : Nat → Int
  | 0 => v
  | k + 1 => 64 * accV s i v k + (nb s (i + (k + 1)) : Int) - 128
theorem accV_succ (s : ByteArray) (i : Nat) (v : Int) (k : Nat) (hk : 1 ≤ k) : accV s i v k = 64 * accV s i v (k - 1) + (nb s (i + k) : Int) - 128 := by
  obtain ⟨j, rfl⟩ : ∃ j, k = j + 1 := ⟨k - 1, by omega⟩
  rfl
attribute [irreducible] nextV
def finV (least v n : Int) : Int × Int := if v < least ∨ 1114111 < v ∨ (55296 ≤ v ∧ v ≤ 57343) then (0, 0) else (v, n)
theorem fin_no (least v n : Int) (h : v < least ∨ 1114111 < v ∨ (55296 ≤ v ∧ v ≤ 57343)) : finV least v n = (0, 0) := if_pos h
theorem fin_yes (least v n : Int) (h : ¬ (v < least ∨ 1114111 < v ∨ (55296 ≤ v ∧ v ≤ 57343))) : finV least v n = (v, n) := if_neg h
theorem next_bad2 (s : ByteArray) (i j : Nat) (h0 : 192 ≤ nb s i) (h1 : nb s i < 224) (hj : 1 ≤ j) (hn : j < 2) (h : ¬ okc s (i + j)) : nextV s i = (0, 0) := by
  unfold okc at h
  have := nb_lt s (i + j)
  rw [nextV_N s i (65533, 1) ?_]
  · rfl
  unfold decodeN
  rcases (show j = 1 by omega) with rfl
  · rw [if_neg (by omega), if_neg (by omega), if_neg (by omega), if_neg (by omega)]
theorem next_fin2 (s : ByteArray) (i : Nat) (h0 : 192 ≤ nb s i) (h1 : nb s i < 224) (k1 : okc s (i + 1)) : nextV s i = finV 128 (accV s i ((nb s i : Int) - 192) 1) 2 := by
  unfold okc at k1
  have b1 := nb_lt s (i + 1)
  have e : accV s i ((nb s i : Int) - 192) 1 = ((nb s i % 32 * 64 + nb s (i + 1) % 64 : Nat) : Int) := by
    simp only [accV, Nat.zero_add]
    omega
  rw [e]
  unfold finV
  by_cases hf : ((nb s i % 32 * 64 + nb s (i + 1) % 64 : Nat) : Int) < 128 ∨ 1114111 < ((nb s i % 32 * 64 + nb s (i + 1) % 64 : Nat) : Int) ∨ (55296 ≤ ((nb s i % 32 * 64 + nb s (i + 1) % 64 : Nat) : Int) ∧ ((nb s i % 32 * 64 + nb s (i + 1) % 64 : Nat) : Int) ≤ 57343)
  · rw [if_pos hf, nextV_N s i (65533, 1) ?_]
    · rfl
    unfold decodeN
    rw [if_neg (by omega), if_pos (by omega), if_neg (by omega)]
  · rw [if_neg hf, nextV_N s i (nb s i % 32 * 64 + nb s (i + 1) % 64, 2) ?_, if_neg (by dsimp only; omega)]
    · rfl
    unfold decodeN
    rw [if_neg (by omega), if_pos (by omega), if_pos (by omega)]
theorem next_bad3 (s : ByteArray) (i j : Nat) (h0 : 224 ≤ nb s i) (h1 : nb s i < 240) (hj : 1 ≤ j) (hn : j < 3) (h : ¬ okc s (i + j)) : nextV s i = (0, 0) := by
  unfold okc at h
  have := nb_lt s (i + j)
  rw [nextV_N s i (65533, 1) ?_]
  · rfl
  unfold decodeN
  rcases (show j = 1 ∨ j = 2 by omega) with rfl | rfl
  · rw [if_neg (by omega), if_neg (by omega), if_neg (by omega), if_neg (by omega)]
  · rw [if_neg (by omega), if_neg (by omega), if_neg (by omega), if_neg (by omega)]
theorem next_fin3 (s : ByteArray) (i : Nat) (h0 : 224 ≤ nb s i) (h1 : nb s i < 240) (k1 : okc s (i + 1)) (k2 : okc s (i + 2)) : nextV s i = finV 2048 (accV s i ((nb s i : Int) - 224) 2) 3 := by
  unfold okc at k1
  have b1 := nb_lt s (i + 1)
  unfold okc at k2
  have b2 := nb_lt s (i + 2)
  have e : accV s i ((nb s i : Int) - 224) 2 = ((nb s i % 16 * 4096 + nb s (i + 1) % 64 * 64 + nb s (i + 2) % 64 : Nat) : Int) := by
    simp only [accV, Nat.zero_add, Nat.reduceAdd]
    omega
  rw [e]
  unfold finV
  by_cases hf : ((nb s i % 16 * 4096 + nb s (i + 1) % 64 * 64 + nb s (i + 2) % 64 : Nat) : Int) < 2048 ∨ 1114111 < ((nb s i % 16 * 4096 + nb s (i + 1) % 64 * 64 + nb s (i + 2) % 64 : Nat) : Int) ∨ (55296 ≤ ((nb s i % 16 * 4096 + nb s (i + 1) % 64 * 64 + nb s (i + 2) % 64 : Nat) : Int) ∧ ((nb s i % 16 * 4096 + nb s (i + 1) % 64 * 64 + nb s (i + 2) % 64 : Nat) : Int) ≤ 57343)
  · rw [if_pos hf, nextV_N s i (65533, 1) ?_]
    · rfl
    unfold decodeN
    rw [if_neg (by omega), if_neg (by omega), if_pos (by omega), if_neg (by omega)]
  · rw [if_neg hf, nextV_N s i (nb s i % 16 * 4096 + nb s (i + 1) % 64 * 64 + nb s (i + 2) % 64, 3) ?_, if_neg (by dsimp only; omega)]
    · rfl
    unfold decodeN
    rw [if_neg (by omega), if_neg (by omega), if_pos (by omega), if_pos (by omega)]
theorem next_bad4 (s : ByteArray) (i j : Nat) (h0 : 240 ≤ nb s i) (h1 : nb s i < 248) (hj : 1 ≤ j) (hn : j < 4) (h : ¬ okc s (i + j)) : nextV s i = (0, 0) := by
  unfold okc at h
  have := nb_lt s (i + j)
  rw [nextV_N s i (65533, 1) ?_]
  · rfl
  unfold decodeN
  rcases (show j = 1 ∨ j = 2 ∨ j = 3 by omega) with rfl | rfl | rfl
  · rw [if_neg (by omega), if_neg (by omega), if_neg (by omega), if_neg (by omega)]
  · rw [if_neg (by omega), if_neg (by omega), if_neg (by omega), if_neg (by omega)]
  · rw [if_neg (by omega), if_neg (by omega), if_neg (by omega), if_neg (by omega)]
theorem next_fin4 (s : ByteArray) (i : Nat) (h0 : 240 ≤ nb s i) (h1 : nb s i < 248) (k1 : okc s (i + 1)) (k2 : okc s (i + 2)) (k3 : okc s (i + 3)) : nextV s i = finV 65536 (accV s i ((nb s i : Int) - 240) 3) 4 := by
  unfold okc at k1
  have b1 := nb_lt s (i + 1)
  unfold okc at k2
  have b2 := nb_lt s (i + 2)
  unfold okc at k3
  have b3 := nb_lt s (i + 3)
  have e : accV s i ((nb s i : Int) - 240) 3 = ((nb s i % 8 * 262144 + nb s (i + 1) % 64 * 4096 + nb s (i + 2) % 64 * 64 + nb s (i + 3) % 64 : Nat) : Int) := by
    simp only [accV, Nat.zero_add, Nat.reduceAdd]
    omega
  rw [e]
  unfold finV
  by_cases hf : ((nb s i % 8 * 262144 + nb s (i + 1) % 64 * 4096 + nb s (i + 2) % 64 * 64 + nb s (i + 3) % 64 : Nat) : Int) < 65536 ∨ 1114111 < ((nb s i % 8 * 262144 + nb s (i + 1) % 64 * 4096 + nb s (i + 2) % 64 * 64 + nb s (i + 3) % 64 : Nat) : Int) ∨ (55296 ≤ ((nb s i % 8 * 262144 + nb s (i + 1) % 64 * 4096 + nb s (i + 2) % 64 * 64 + nb s (i + 3) % 64 : Nat) : Int) ∧ ((nb s i % 8 * 262144 + nb s (i + 1) % 64 * 4096 + nb s (i + 2) % 64 * 64 + nb s (i + 3) % 64 : Nat) : Int) ≤ 57343)
  · rw [if_pos hf, nextV_N s i (65533, 1) ?_]
    · rfl
    unfold decodeN
    rw [if_neg (by omega), if_neg (by omega), if_neg (by omega), if_pos (by omega), if_neg (by omega)]
  · rw [if_neg hf, nextV_N s i (nb s i % 8 * 262144 + nb s (i + 1) % 64 * 4096 + nb s (i + 2) % 64 * 64 + nb s (i + 3) % 64, 4) ?_, if_neg (by dsimp only; omega)]
    · rfl
    unfold decodeN
    rw [if_neg (by omega), if_neg (by omega), if_neg (by omega), if_pos (by omega), if_pos (by omega)]

def NextEnd (s : ByteArray) (i : Nat) (w : World) (e : Ending) (w' : World) : Prop := e = .returned (.tuple #[.int .i32 (nextV s i).1, .int .i64 (nextV s i).2]) ∧ w = w'
theorem nextEnd {s : ByteArray} {i : Nat} {w : World} {a b : Int} (h : nextV s i = (a, b)) : NextEnd s i w (.returned (.tuple #[.int .i32 a, .int .i64 b])) w := by unfold NextEnd; rw [h]; exact ⟨rfl, rfl⟩
set_option maxHeartbeats 4000000 in
set_option maxRecDepth 100000 in
theorem next_c1 (s : ByteArray) (i : Nat) (w : World) (hs : s.size ≤ 140737488355328) (hi : i < s.size) (hb : nb s i < 128) :
    Calls Tryz.prog 27 #[.string s, .int .i64 i] w (NextEnd s i w) := by

  have H := Lib.hid (next_1 s i hb)
  have HB := Lib.hid (nb_get s i hi)
  have hb1 : (s[i].toNat : Int) < 128 := by rw [HB.out]; omega
  have l0 : (s[i].toNat : Int) < 256 := by omega
  go_enter Tryz.func27, Tryz.ntmps27
  go_wp2
  go_ret2
  exact nextEnd (by rw [H.out, HB.out])
set_option maxHeartbeats 4000000 in
set_option maxRecDepth 100000 in
theorem next_c0 (s : ByteArray) (i : Nat) (w : World) (hs : s.size ≤ 140737488355328) (hi : i < s.size) (hb : (128 ≤ nb s i ∧ nb s i < 192) ∨ 248 ≤ nb s i) :
    Calls Tryz.prog 27 #[.string s, .int .i64 i] w (NextEnd s i w) := by

  have H := Lib.hid (next_odd s i hb)
  have HB := Lib.hid (nb_get s i hi)
  have hl := nb_lt s i
  have l0 : (s[i].toNat : Int) < 256 := by rw [HB.out]; omega
  rcases hb with hb | hb
  · have d0 : decide ((s[i].toNat : Int) < 128) = false := by rw [HB.out]; simp; omega
    have d1 : decide ((192 : Int) ≤ (s[i].toNat : Int)) = false := by rw [HB.out]; simp; omega
    have d2 : decide ((224 : Int) ≤ (s[i].toNat : Int)) = false := by rw [HB.out]; simp; omega
    have d3 : decide ((240 : Int) ≤ (s[i].toNat : Int)) = false := by rw [HB.out]; simp; omega
    go_enter Tryz.func27, Tryz.ntmps27
    go_wp2
    go_rounds 1
    go_ret2
    exact nextEnd H.out
  · have d0 : decide ((s[i].toNat : Int) < 128) = false := by rw [HB.out]; simp; omega
    have d1 : decide ((192 : Int) ≤ (s[i].toNat : Int)) = true := by rw [HB.out]; simp; omega
    have d2 : decide ((224 : Int) ≤ (s[i].toNat : Int)) = true := by rw [HB.out]; simp; omega
    have d3 : decide ((240 : Int) ≤ (s[i].toNat : Int)) = true := by rw [HB.out]; simp; omega
    have f1 : decide ((s[i].toNat : Int) < 224) = false := by rw [HB.out]; simp; omega
    have f2 : decide ((s[i].toNat : Int) < 240) = false := by rw [HB.out]; simp; omega
    have f3 : decide ((s[i].toNat : Int) < 248) = false := by rw [HB.out]; simp; omega
    go_enter Tryz.func27, Tryz.ntmps27
    go_wp2
    go_rounds 1
    go_ret2
    exact nextEnd H.out

theorem acc_bd2 (s : ByteArray) (i : Nat) (v : Int) (h0 : 0 ≤ v) (h1 : v ≤ 31) : ∀ k, k ≤ 1 → (∀ j, 1 ≤ j → j ≤ k → okc s (i + j)) → 0 ≤ accV s i v k ∧ accV s i v k ≤ 2097151 := by
  intro k hk hok
  unfold okc at hok
  rcases (show k = 0 ∨ k = 1 by omega) with rfl | rfl
  · show 0 ≤ v ∧ v ≤ 2097151
    omega
  · have k1 := hok 1 (by omega) (by omega)
    show 0 ≤ 64 * (v) + (nb s (i + 1) : Int) - 128 ∧ 64 * (v) + (nb s (i + 1) : Int) - 128 ≤ 2097151
    omega
set_option maxHeartbeats 4000000 in
set_option maxRecDepth 100000 in
theorem next_c2 (s : ByteArray) (i : Nat) (w : World) (hs : s.size ≤ 140737488355328) (hi : i < s.size) (b0 : 192 ≤ nb s i) (b1 : nb s i < 224) :
    Calls Tryz.prog 27 #[.string s, .int .i64 i] w (NextEnd s i w) := by

  have HB := Lib.hid (nb_get s i hi)
  have l0 : (s[i].toNat : Int) < 256 := by rw [HB.out]; have := nb_lt s i; omega
  have d0 : decide ((s[i].toNat : Int) < 128) = false := by rw [HB.out]; simp; omega
  have g192 : decide ((192 : Int) ≤ (s[i].toNat : Int)) = true := by rw [HB.out]; simp; omega
  have f224 : decide ((s[i].toNat : Int) < 224) = true := by rw [HB.out]; simp; omega
  have g224 : decide ((224 : Int) ≤ (s[i].toNat : Int)) = false := by rw [HB.out]; simp; omega
  have g240 : decide ((240 : Int) ≤ (s[i].toNat : Int)) = false := by rw [HB.out]; simp; omega
  have e0 : (s[i].toNat : Int) - 192 = accV s i ((nb s i : Int) - 192) 0 := by rw [HB.out]; rfl
  have E0 := Lib.hid e0
  clear e0
  go_enter Tryz.func27, Tryz.ntmps27
  go_wp2
  go_loop [8, 10] (fun v j => ∃ k : Nat, 1 ≤ k ∧ k ≤ 2 ∧ j = .int .i64 k ∧ v = .int .i64 (accV s i ((nb s i : Int) - 192) (k - 1)) ∧ Hid (∀ j, 1 ≤ j → j < k → okc s (i + j))) (fun _ j => 2 - (intOf j).toNat)
  case atStart => exact ⟨1, by omega, by omega, rfl, by rw [E0.out], Lib.hid (fun j a b => absurd b (by omega))⟩
  case round =>
    obtain ⟨k, hk1, hk2, rfl, rfl, HOK⟩ := hrel
    have hbd := acc_bd2 s i ((nb s i : Int) - 192) (by omega) (by omega) (k - 1) (by omega) (fun j a b => HOK.out j a (by omega))
    by_cases hlt : k < 2
    · by_cases h1 : i + k < s.size
      · have h1' : (i : Int) + (k : Int) < (s.size : Int) := by omega
        have HK := Lib.hid (nb_get s (i + k) h1)
        have hbk := nb_lt s (i + k)
        have l1 : (s[i + k].toNat : Int) < 256 := by rw [HK.out]; omega
        by_cases h2 : 128 ≤ nb s (i + k)
        · have t1 : decide ((s[i + k].toNat : Int) < 128) = false := by rw [HK.out]; simp; omega
          by_cases h3 : nb s (i + k) ≤ 191
          · have t2 : decide ((191 : Int) < (s[i + k].toNat : Int)) = false := by rw [HK.out]; simp; omega
            have HE := Lib.hid (accV_succ s i ((nb s i : Int) - 192) k hk1)
            generalize hacc : accV s i ((nb s i : Int) - 192) (k - 1) = A at hbd HE ⊢
            have HA := Lib.hid hacc
            clear hacc
            go_wp2_with fail
            go_round
            case rel =>
              refine ⟨k + 1, by omega, by omega, by go_num, ?_, Lib.hid fun j a b => ?_⟩
              · rw [Nat.add_sub_cancel, HE.out, HK.out]
              · rcases Nat.lt_or_ge j k with hl | hl
                · exact HOK.out j a hl
                · obtain rfl : j = k := by omega
                  exact ⟨h1, h2, h3⟩
            case measure => simp [intOf]; omega
          · have t2 : decide ((191 : Int) < (s[i + k].toNat : Int)) = true := by rw [HK.out]; simp; omega
            have H := Lib.hid (next_bad2 s i k b0 b1 hk1 hlt (fun h => h3 h.2.2))
            go_wp2_with fail
            go_ret2
            exact nextEnd H.out
        · have t1 : decide ((s[i + k].toNat : Int) < 128) = true := by rw [HK.out]; simp; omega
          have H := Lib.hid (next_bad2 s i k b0 b1 hk1 hlt (fun h => h2 h.2.1))
          go_wp2_with fail
          go_ret2
          exact nextEnd H.out
      · have h1' : (s.size : Int) ≤ (i : Int) + (k : Int) := by omega
        have H := Lib.hid (next_bad2 s i k b0 b1 hk1 hlt (fun h => h1 h.1))
        go_wp2_with fail
        go_ret2
        exact nextEnd H.out
    · obtain rfl : k = 2 := by omega
      have hok := HOK.out
      have H := Lib.hid (next_fin2 s i b0 b1 (hok 1 (by omega) (by omega)))
      clear hok
      generalize hacc : accV s i ((nb s i : Int) - 192) (2 - 1) = A at hbd ⊢
      have HA := Lib.hid (show accV s i ((nb s i : Int) - 192) 1 = A from hacc)
      clear hacc
      have F0 := Lib.hid (fin_no 128 A 2)
      have F1 := Lib.hid (fin_yes 128 A 2)
      by_cases c0 : A < 128
      · go_wp2_with fail
        go_ret2
        exact nextEnd (by rw [H.out, HA.out]; exact F0.out (by omega))
      have q0 : decide (A < 128) = false := by simpa using c0
      by_cases c1 : 1114111 < A
      · go_wp2_with fail
        go_ret2
        exact nextEnd (by rw [H.out, HA.out]; exact F0.out (by omega))
      have q1 : decide (1114111 < A) = false := by simpa using c1
      by_cases c2 : 55296 ≤ A
      · by_cases c3 : A ≤ 57343
        · go_wp2_with fail
          go_ret2
          exact nextEnd (by rw [H.out, HA.out]; exact F0.out (by omega))
        have q3 : decide (A ≤ 57343) = false := by simpa using c3
        go_wp2_with fail
        go_ret2
        exact nextEnd (by rw [H.out, HA.out]; exact F1.out (by omega))
      have q2 : decide (55296 ≤ A) = false := by simpa using c2
      go_wp2_with fail
      go_ret2
      exact nextEnd (by rw [H.out, HA.out]; exact F1.out (by omega))

theorem acc_bd3 (s : ByteArray) (i : Nat) (v : Int) (h0 : 0 ≤ v) (h1 : v ≤ 15) : ∀ k, k ≤ 2 → (∀ j, 1 ≤ j → j ≤ k → okc s (i + j)) → 0 ≤ accV s i v k ∧ accV s i v k ≤ 2097151 := by
  intro k hk hok
  unfold okc at hok
  rcases (show k = 0 ∨ k = 1 ∨ k = 2 by omega) with rfl | rfl | rfl
  · show 0 ≤ v ∧ v ≤ 2097151
    omega
  · have k1 := hok 1 (by omega) (by omega)
    show 0 ≤ 64 * (v) + (nb s (i + 1) : Int) - 128 ∧ 64 * (v) + (nb s (i + 1) : Int) - 128 ≤ 2097151
    omega
  · have k1 := hok 1 (by omega) (by omega)
    have k2 := hok 2 (by omega) (by omega)
    show 0 ≤ 64 * (64 * (v) + (nb s (i + 1) : Int) - 128) + (nb s (i + 2) : Int) - 128 ∧ 64 * (64 * (v) + (nb s (i + 1) : Int) - 128) + (nb s (i + 2) : Int) - 128 ≤ 2097151
    omega
set_option maxHeartbeats 4000000 in
set_option maxRecDepth 100000 in
theorem next_c3 (s : ByteArray) (i : Nat) (w : World) (hs : s.size ≤ 140737488355328) (hi : i < s.size) (b0 : 224 ≤ nb s i) (b1 : nb s i < 240) :
    Calls Tryz.prog 27 #[.string s, .int .i64 i] w (NextEnd s i w) := by

  have HB := Lib.hid (nb_get s i hi)
  have l0 : (s[i].toNat : Int) < 256 := by rw [HB.out]; have := nb_lt s i; omega
  have d0 : decide ((s[i].toNat : Int) < 128) = false := by rw [HB.out]; simp; omega
  have g192 : decide ((192 : Int) ≤ (s[i].toNat : Int)) = true := by rw [HB.out]; simp; omega
  have f224 : decide ((s[i].toNat : Int) < 224) = false := by rw [HB.out]; simp; omega
  have g224 : decide ((224 : Int) ≤ (s[i].toNat : Int)) = true := by rw [HB.out]; simp; omega
  have f240 : decide ((s[i].toNat : Int) < 240) = true := by rw [HB.out]; simp; omega
  have g240 : decide ((240 : Int) ≤ (s[i].toNat : Int)) = false := by rw [HB.out]; simp; omega
  have e0 : (s[i].toNat : Int) - 224 = accV s i ((nb s i : Int) - 224) 0 := by rw [HB.out]; rfl
  have E0 := Lib.hid e0
  clear e0
  go_enter Tryz.func27, Tryz.ntmps27
  go_wp2
  go_loop [8, 10] (fun v j => ∃ k : Nat, 1 ≤ k ∧ k ≤ 3 ∧ j = .int .i64 k ∧ v = .int .i64 (accV s i ((nb s i : Int) - 224) (k - 1)) ∧ Hid (∀ j, 1 ≤ j → j < k → okc s (i + j))) (fun _ j => 3 - (intOf j).toNat)
  case atStart => exact ⟨1, by omega, by omega, rfl, by rw [E0.out], Lib.hid (fun j a b => absurd b (by omega))⟩
  case round =>
    obtain ⟨k, hk1, hk2, rfl, rfl, HOK⟩ := hrel
    have hbd := acc_bd3 s i ((nb s i : Int) - 224) (by omega) (by omega) (k - 1) (by omega) (fun j a b => HOK.out j a (by omega))
    by_cases hlt : k < 3
    · by_cases h1 : i + k < s.size
      · have h1' : (i : Int) + (k : Int) < (s.size : Int) := by omega
        have HK := Lib.hid (nb_get s (i + k) h1)
        have hbk := nb_lt s (i + k)
        have l1 : (s[i + k].toNat : Int) < 256 := by rw [HK.out]; omega
        by_cases h2 : 128 ≤ nb s (i + k)
        · have t1 : decide ((s[i + k].toNat : Int) < 128) = false := by rw [HK.out]; simp; omega
          by_cases h3 : nb s (i + k) ≤ 191
          · have t2 : decide ((191 : Int) < (s[i + k].toNat : Int)) = false := by rw [HK.out]; simp; omega
            have HE := Lib.hid (accV_succ s i ((nb s i : Int) - 224) k hk1)
            generalize hacc : accV s i ((nb s i : Int) - 224) (k - 1) = A at hbd HE ⊢
            have HA := Lib.hid hacc
            clear hacc
            go_wp2_with fail
            go_round
            case rel =>
              refine ⟨k + 1, by omega, by omega, by go_num, ?_, Lib.hid fun j a b => ?_⟩
              · rw [Nat.add_sub_cancel, HE.out, HK.out]
              · rcases Nat.lt_or_ge j k with hl | hl
                · exact HOK.out j a hl
                · obtain rfl : j = k := by omega
                  exact ⟨h1, h2, h3⟩
            case measure => simp [intOf]; omega
          · have t2 : decide ((191 : Int) < (s[i + k].toNat : Int)) = true := by rw [HK.out]; simp; omega
            have H := Lib.hid (next_bad3 s i k b0 b1 hk1 hlt (fun h => h3 h.2.2))
            go_wp2_with fail
            go_ret2
            exact nextEnd H.out
        · have t1 : decide ((s[i + k].toNat : Int) < 128) = true := by rw [HK.out]; simp; omega
          have H := Lib.hid (next_bad3 s i k b0 b1 hk1 hlt (fun h => h2 h.2.1))
          go_wp2_with fail
          go_ret2
          exact nextEnd H.out
      · have h1' : (s.size : Int) ≤ (i : Int) + (k : Int) := by omega
        have H := Lib.hid (next_bad3 s i k b0 b1 hk1 hlt (fun h => h1 h.1))
        go_wp2_with fail
        go_ret2
        exact nextEnd H.out
    · obtain rfl : k = 3 := by omega
      have hok := HOK.out
      have H := Lib.hid (next_fin3 s i b0 b1 (hok 1 (by omega) (by omega)) (hok 2 (by omega) (by omega)))
      clear hok
      generalize hacc : accV s i ((nb s i : Int) - 224) (3 - 1) = A at hbd ⊢
      have HA := Lib.hid (show accV s i ((nb s i : Int) - 224) 2 = A from hacc)
      clear hacc
      have F0 := Lib.hid (fin_no 2048 A 3)
      have F1 := Lib.hid (fin_yes 2048 A 3)
      by_cases c0 : A < 2048
      · go_wp2_with fail
        go_ret2
        exact nextEnd (by rw [H.out, HA.out]; exact F0.out (by omega))
      have q0 : decide (A < 2048) = false := by simpa using c0
      by_cases c1 : 1114111 < A
      · go_wp2_with fail
        go_ret2
        exact nextEnd (by rw [H.out, HA.out]; exact F0.out (by omega))
      have q1 : decide (1114111 < A) = false := by simpa using c1
      by_cases c2 : 55296 ≤ A
      · by_cases c3 : A ≤ 57343
        · go_wp2_with fail
          go_ret2
          exact nextEnd (by rw [H.out, HA.out]; exact F0.out (by omega))
        have q3 : decide (A ≤ 57343) = false := by simpa using c3
        go_wp2_with fail
        go_ret2
        exact nextEnd (by rw [H.out, HA.out]; exact F1.out (by omega))
      have q2 : decide (55296 ≤ A) = false := by simpa using c2
      go_wp2_with fail
      go_ret2
      exact nextEnd (by rw [H.out, HA.out]; exact F1.out (by omega))

theorem acc_bd4 (s : ByteArray) (i : Nat) (v : Int) (h0 : 0 ≤ v) (h1 : v ≤ 7) : ∀ k, k ≤ 3 → (∀ j, 1 ≤ j → j ≤ k → okc s (i + j)) → 0 ≤ accV s i v k ∧ accV s i v k ≤ 2097151 := by
  intro k hk hok
  unfold okc at hok
  rcases (show k = 0 ∨ k = 1 ∨ k = 2 ∨ k = 3 by omega) with rfl | rfl | rfl | rfl
  · show 0 ≤ v ∧ v ≤ 2097151
    omega
  · have k1 := hok 1 (by omega) (by omega)
    show 0 ≤ 64 * (v) + (nb s (i + 1) : Int) - 128 ∧ 64 * (v) + (nb s (i + 1) : Int) - 128 ≤ 2097151
    omega
  · have k1 := hok 1 (by omega) (by omega)
    have k2 := hok 2 (by omega) (by omega)
    show 0 ≤ 64 * (64 * (v) + (nb s (i + 1) : Int) - 128) + (nb s (i + 2) : Int) - 128 ∧ 64 * (64 * (v) + (nb s (i + 1) : Int) - 128) + (nb s (i + 2) : Int) - 128 ≤ 2097151
    omega
  · have k1 := hok 1 (by omega) (by omega)
    have k2 := hok 2 (by omega) (by omega)
    have k3 := hok 3 (by omega) (by omega)
    show 0 ≤ 64 * (64 * (64 * (v) + (nb s (i + 1) : Int) - 128) + (nb s (i + 2) : Int) - 128) + (nb s (i + 3) : Int) - 128 ∧ 64 * (64 * (64 * (v) + (nb s (i + 1) : Int) - 128) + (nb s (i + 2) : Int) - 128) + (nb s (i + 3) : Int) - 128 ≤ 2097151
    omega
set_option maxHeartbeats 4000000 in
set_option maxRecDepth 100000 in
theorem next_c4 (s : ByteArray) (i : Nat) (w : World) (hs : s.size ≤ 140737488355328) (hi : i < s.size) (b0 : 240 ≤ nb s i) (b1 : nb s i < 248) :
    Calls Tryz.prog 27 #[.string s, .int .i64 i] w (NextEnd s i w) := by

  have HB := Lib.hid (nb_get s i hi)
  have l0 : (s[i].toNat : Int) < 256 := by rw [HB.out]; have := nb_lt s i; omega
  have d0 : decide ((s[i].toNat : Int) < 128) = false := by rw [HB.out]; simp; omega
  have g192 : decide ((192 : Int) ≤ (s[i].toNat : Int)) = true := by rw [HB.out]; simp; omega
  have f224 : decide ((s[i].toNat : Int) < 224) = false := by rw [HB.out]; simp; omega
  have g224 : decide ((224 : Int) ≤ (s[i].toNat : Int)) = true := by rw [HB.out]; simp; omega
  have f240 : decide ((s[i].toNat : Int) < 240) = false := by rw [HB.out]; simp; omega
  have g240 : decide ((240 : Int) ≤ (s[i].toNat : Int)) = true := by rw [HB.out]; simp; omega
  have f248 : decide ((s[i].toNat : Int) < 248) = true := by rw [HB.out]; simp; omega
  have e0 : (s[i].toNat : Int) - 240 = accV s i ((nb s i : Int) - 240) 0 := by rw [HB.out]; rfl
  have E0 := Lib.hid e0
  clear e0
  go_enter Tryz.func27, Tryz.ntmps27
  go_wp2
  go_loop [8, 10] (fun v j => ∃ k : Nat, 1 ≤ k ∧ k ≤ 4 ∧ j = .int .i64 k ∧ v = .int .i64 (accV s i ((nb s i : Int) - 240) (k - 1)) ∧ Hid (∀ j, 1 ≤ j → j < k → okc s (i + j))) (fun _ j => 4 - (intOf j).toNat)
  case atStart => exact ⟨1, by omega, by omega, rfl, by rw [E0.out], Lib.hid (fun j a b => absurd b (by omega))⟩
  case round =>
    obtain ⟨k, hk1, hk2, rfl, rfl, HOK⟩ := hrel
    have hbd := acc_bd4 s i ((nb s i : Int) - 240) (by omega) (by omega) (k - 1) (by omega) (fun j a b => HOK.out j a (by omega))
    by_cases hlt : k < 4
    · by_cases h1 : i + k < s.size
      · have h1' : (i : Int) + (k : Int) < (s.size : Int) := by omega
        have HK := Lib.hid (nb_get s (i + k) h1)
        have hbk := nb_lt s (i + k)
        have l1 : (s[i + k].toNat : Int) < 256 := by rw [HK.out]; omega
        by_cases h2 : 128 ≤ nb s (i + k)
        · have t1 : decide ((s[i + k].toNat : Int) < 128) = false := by rw [HK.out]; simp; omega
          by_cases h3 : nb s (i + k) ≤ 191
          · have t2 : decide ((191 : Int) < (s[i + k].toNat : Int)) = false := by rw [HK.out]; simp; omega
            have HE := Lib.hid (accV_succ s i ((nb s i : Int) - 240) k hk1)
            generalize hacc : accV s i ((nb s i : Int) - 240) (k - 1) = A at hbd HE ⊢
            have HA := Lib.hid hacc
            clear hacc
            go_wp2_with fail
            go_round
            case rel =>
              refine ⟨k + 1, by omega, by omega, by go_num, ?_, Lib.hid fun j a b => ?_⟩
              · rw [Nat.add_sub_cancel, HE.out, HK.out]
              · rcases Nat.lt_or_ge j k with hl | hl
                · exact HOK.out j a hl
                · obtain rfl : j = k := by omega
                  exact ⟨h1, h2, h3⟩
            case measure => simp [intOf]; omega
          · have t2 : decide ((191 : Int) < (s[i + k].toNat : Int)) = true := by rw [HK.out]; simp; omega
            have H := Lib.hid (next_bad4 s i k b0 b1 hk1 hlt (fun h => h3 h.2.2))
            go_wp2_with fail
            go_ret2
            exact nextEnd H.out
        · have t1 : decide ((s[i + k].toNat : Int) < 128) = true := by rw [HK.out]; simp; omega
          have H := Lib.hid (next_bad4 s i k b0 b1 hk1 hlt (fun h => h2 h.2.1))
          go_wp2_with fail
          go_ret2
          exact nextEnd H.out
      · have h1' : (s.size : Int) ≤ (i : Int) + (k : Int) := by omega
        have H := Lib.hid (next_bad4 s i k b0 b1 hk1 hlt (fun h => h1 h.1))
        go_wp2_with fail
        go_ret2
        exact nextEnd H.out
    · obtain rfl : k = 4 := by omega
      have hok := HOK.out
      have H := Lib.hid (next_fin4 s i b0 b1 (hok 1 (by omega) (by omega)) (hok 2 (by omega) (by omega)) (hok 3 (by omega) (by omega)))
      clear hok
      generalize hacc : accV s i ((nb s i : Int) - 240) (4 - 1) = A at hbd ⊢
      have HA := Lib.hid (show accV s i ((nb s i : Int) - 240) 3 = A from hacc)
      clear hacc
      have F0 := Lib.hid (fin_no 65536 A 4)
      have F1 := Lib.hid (fin_yes 65536 A 4)
      by_cases c0 : A < 65536
      · go_wp2_with fail
        go_ret2
        exact nextEnd (by rw [H.out, HA.out]; exact F0.out (by omega))
      have q0 : decide (A < 65536) = false := by simpa using c0
      by_cases c1 : 1114111 < A
      · go_wp2_with fail
        go_ret2
        exact nextEnd (by rw [H.out, HA.out]; exact F0.out (by omega))
      have q1 : decide (1114111 < A) = false := by simpa using c1
      by_cases c2 : 55296 ≤ A
      · by_cases c3 : A ≤ 57343
        · go_wp2_with fail
          go_ret2
          exact nextEnd (by rw [H.out, HA.out]; exact F0.out (by omega))
        have q3 : decide (A ≤ 57343) = false := by simpa using c3
        go_wp2_with fail
        go_ret2
        exact nextEnd (by rw [H.out, HA.out]; exact F1.out (by omega))
      have q2 : decide (55296 ≤ A) = false := by simpa using c2
      go_wp2_with fail
      go_ret2
      exact nextEnd (by rw [H.out, HA.out]; exact F1.out (by omega))

theorem next_calls (s : ByteArray) (i : Nat) (w : World) (hs : s.size ≤ 140737488355328) (hi : i < s.size) :
    Calls Tryz.prog 27 #[.string s, .int .i64 i] w (NextEnd s i w) := by
  by_cases h1 : nb s i < 128
  · exact next_c1 s i w hs hi h1
  by_cases h2 : nb s i < 192
  · exact next_c0 s i w hs hi (by omega)
  by_cases h3 : nb s i < 224
  · exact next_c2 s i w hs hi (by omega) h3
  by_cases h4 : nb s i < 240
  · exact next_c3 s i w hs hi (by omega) h4
  by_cases h5 : nb s i < 248
  · exact next_c4 s i w hs hi (by omega) h5
  · exact next_c0 s i w hs hi (by omega)
end Go.Proofs.YtbdgoffbkenofaaGreat.Rc
namespace Go.Proofs.YtbdgoffbkenofaaGreat.Rc
open Go Go.RowKit Go.Lib
set_option linter.unusedVariables false

theorem drop_ne (s : ByteArray) (i : Nat) (h : i < s.size) : s.data.toList.drop i ≠ [] := fun e => by
  have := congrArg List.length e
  rw [List.length_drop, ← Lib.size_eq] at this
  simp at this; omega
theorem next_bad (s : ByteArray) (i : Nat) (h : (Utf8.decode s i).1 = 65533 ∧ (Utf8.decode s i).2 = 1) : nextV s i = (0, 0) := by unfold nextV; exact if_pos h
theorem next_ok (s : ByteArray) (i : Nat) (h : ¬ ((Utf8.decode s i).1 = 65533 ∧ (Utf8.decode s i).2 = 1)) : nextV s i = (((Utf8.decode s i).1 : Int), ((Utf8.decode s i).2 : Int)) := by unfold nextV; exact if_neg h
def DBad (s : ByteArray) (i : Nat) : Prop := (Utf8.decode s i).1 = 65533 ∧ (Utf8.decode s i).2 = 1
theorem bad_at (s : ByteArray) (i : Nat) : Bad (s.data.toList.drop i) ↔ DBad s i := by unfold Bad DBad; rw [decodeL_drop]
theorem valid_no (s : ByteArray) (i : Nat) (hi : i < s.size) (h : DBad s i) : validD (s.data.toList.drop i) = false := by
  rw [validD_step _ (drop_ne s i hi), decodeL_drop]; exact if_pos h
theorem valid_go (s : ByteArray) (i : Nat) (hi : i < s.size) (h : ¬ DBad s i) : validD (s.data.toList.drop i) = validD (s.data.toList.drop (i + (Utf8.decode s i).2)) := by
  rw [validD_step _ (drop_ne s i hi), decodeL_drop, List.drop_drop]; exact if_neg h
theorem width_ok (s : ByteArray) (i : Nat) (hi : i < s.size) : 1 ≤ (Utf8.decode s i).2 ∧ i + (Utf8.decode s i).2 ≤ s.size ∧ (Utf8.decode s i).2 ≤ 4 := by
  have h1 := decodeL_width (s.data.toList.drop i)
  have h2 := decodeL_le (s.data.toList.drop i) (drop_ne s i hi)
  rw [decodeL_drop] at h1 h2
  rw [List.length_drop, ← Lib.size_eq] at h2
  refine ⟨h1, by omega, ?_⟩
  rw [← decodeL_drop, decodeL_N]
  rcases decodeN_shape (s.data.toList.drop i).length ((s.data.toList.drop i).getD 0 0).toNat ((s.data.toList.drop i).getD 1 0).toNat ((s.data.toList.drop i).getD 2 0).toNat ((s.data.toList.drop i).getD 3 0).toNat with ⟨c, e⟩ | ⟨c1, c2, c3, cv, e⟩ | ⟨c1, c2, c3, c4, cv, cs, e⟩ | ⟨c1, c2, c3, c4, c5, cv, cw, e⟩ | e
  all_goals (rw [e]; dsimp only; omega)

theorem next_calls_bad (s : ByteArray) (i : Nat) (w : World) (hs : s.size ≤ 140737488355328) (hi : i < s.size) (h : Hid (nextV s i = (0, 0))) :
    Calls Tryz.prog 27 #[.string s, .int .i64 i] w fun e w' => e = .returned (.tuple #[.int .i32 0, .int .i64 0]) ∧ w = w' :=
  (next_calls s i w hs hi).mono fun e w' ⟨h1, h2⟩ => ⟨by rw [h1, h.out], h2⟩
theorem next_calls_ok (s : ByteArray) (i : Nat) (v d : Int) (w : World) (hs : s.size ≤ 140737488355328) (hi : i < s.size) (h : Hid (nextV s i = (v, d))) :
    Calls Tryz.prog 27 #[.string s, .int .i64 i] w fun e w' => e = .returned (.tuple #[.int .i32 v, .int .i64 d]) ∧ w = w' :=
  (next_calls s i w hs hi).mono fun e w' ⟨h1, h2⟩ => ⟨by rw [h1, h.out], h2⟩

/-! ### Clean -/
theorem head_at (s : ByteArray) (i : Nat) (h : i < s.size) : (s.data.toList.drop i).getD 0 0 = s[i] := by
  rw [getD_dropU, Nat.add_zero, Lib.getD_get!', show s.get! i = s[i] from get_at s i h]
theorem ba_ext {a b : ByteArray} (h : a.data.toList = b.data.toList) : a = b := by
  cases a; cases b; simp at h; simp [h]
theorem byte_eq (x : UInt8) (n : Nat) (hn : n < 256) : x = UInt8.ofNat n ↔ (x.toNat : Int) = n := by
  rw [← UInt8.toNat_inj]; simp; omega
/-- From here on Clean gives this. -/
def cl (s : ByteArray) (i : Nat) : List UInt8 := clean (s.data.toList.drop i)
theorem cl_end (s : ByteArray) (i : Nat) (h : ¬ i < s.size) : cl s i = [] := by
  unfold cl; rw [List.drop_eq_nil_of_le (by rw [← Lib.size_eq]; omega)]; rfl
theorem cl_bad (s : ByteArray) (i : Nat) (hi : i < s.size) (h : DBad s i ∨ (s[i].toNat : Int) = 0) : cl s i = fffd ++ cl s (i + 1) := by
  unfold cl
  rw [clean_bad _ (drop_ne s i hi) ?_, List.drop_drop]
  rcases h with h | h
  · exact .inl ((bad_at s i).2 h)
  · exact .inr (by rw [head_at s i hi]; exact (byte_eq _ 0 (by omega)).2 h)
theorem cl_13 (s : ByteArray) (i : Nat) (hi : i < s.size) (h : (s[i].toNat : Int) = 13) (hn : ¬ (∃ h1 : i + 1 < s.size, (s[i + 1].toNat : Int) = 10)) : cl s i = [10] ++ cl s (i + 1) := by
  unfold cl
  rw [clean_13 _ (by rw [head_at s i hi]; exact (byte_eq _ 13 (by omega)).2 h), List.drop_drop, if_neg ?_]; rfl
  intro e
  rw [getD_dropU] at e
  by_cases h1 : i + 1 < s.size
  · rw [Lib.getD_get!', show s.get! (i + 1) = s[i + 1] from get_at s (i + 1) h1] at e
    exact hn ⟨h1, (byte_eq _ 10 (by omega)).1 e⟩
  · rw [List.getD, List.getElem?_eq_none (by rw [← Lib.size_eq]; omega)] at e
    simp at e
theorem cl_1310 (s : ByteArray) (i : Nat) (hi : i < s.size) (h : (s[i].toNat : Int) = 13) (h1 : i + 1 < s.size) (hn : (s[i + 1].toNat : Int) = 10) : cl s i = [10] ++ cl s (i + 2) := by
  unfold cl
  rw [clean_13 _ (by rw [head_at s i hi]; exact (byte_eq _ 13 (by omega)).2 h), List.drop_drop, if_pos ?_]; rfl
  rw [getD_dropU, Lib.getD_get!', show s.get! (i + 1) = s[i + 1] from get_at s (i + 1) h1]
  exact (byte_eq _ 10 (by omega)).2 hn
theorem cl_rune (s : ByteArray) (i : Nat) (hi : i < s.size) (h : ¬ DBad s i) (h0 : ¬ (s[i].toNat : Int) = 0) (h13 : ¬ (s[i].toNat : Int) = 13) : cl s i = (s.extract i (i + (Utf8.decode s i).2)).data.toList ++ cl s (i + (Utf8.decode s i).2) := by
  unfold cl
  rw [clean_rune _ (drop_ne s i hi) (fun e => h ((bad_at s i).1 e)) (by rw [head_at s i hi]; exact fun e => h0 ((byte_eq _ 0 (by omega)).1 e)) (by rw [head_at s i hi]; exact fun e => h13 ((byte_eq _ 13 (by omega)).1 e)), decodeL_drop, List.drop_drop]
  congr 1
  rw [ByteArray.data_extract, Array.toList_extract, List.extract_eq_take_drop]
  congr 1; omega
theorem width_13 (s : ByteArray) (i : Nat) (hi : i < s.size) (h : (s[i].toNat : Int) = 13) : (Utf8.decode s i).2 = 1 := by
  rw [← decodeL_drop]
  refine width_lt _ ?_
  rw [(head_lt (s.data.toList.drop i) 13 (by omega)).2 (by rw [head_at s i hi]; exact (byte_eq _ 13 (by omega)).2 h)]
  omega
attribute [irreducible] cl
theorem acc_add (a b : ByteArray) (r q : List UInt8) (h : Hid (q = a.data.toList ++ (b.data.toList ++ r))) : Hid (q = (a ++ b).data.toList ++ r) := by
  rw [h.out]; exact Lib.hid (by simp)
theorem add_fffd (s : ByteArray) (k : Nat) (t : ByteArray) (h : Hid (cl s 0 = t.data.toList ++ cl s k)) (e : cl s k = fffd ++ cl s (k + 1)) : Hid (cl s 0 = (t ++ ⟨#[239, 191, 189]⟩).data.toList ++ cl s (k + 1)) :=
  acc_add _ _ _ _ (Lib.hid (by rw [h.out, e]; rfl))
theorem add_10 (s : ByteArray) (k m : Nat) (t : ByteArray) (h : Hid (cl s 0 = t.data.toList ++ cl s k)) (e : cl s k = [10] ++ cl s m) : Hid (cl s 0 = (t ++ ⟨#[10]⟩).data.toList ++ cl s m) :=
  acc_add _ _ _ _ (Lib.hid (by rw [h.out, e]))
theorem add_rune (s : ByteArray) (k m : Nat) (t b : ByteArray) (h : Hid (cl s 0 = t.data.toList ++ cl s k)) (e : cl s k = b.data.toList ++ cl s m) : Hid (cl s 0 = (t ++ b).data.toList ++ cl s m) :=
  acc_add _ _ _ _ (Lib.hid (by rw [h.out, e]))

set_option maxHeartbeats 4000000 in
set_option maxRecDepth 100000 in
theorem rclean_calls (s : ByteArray) (w : World) (hs : s.size ≤ 35184372088832) :
    Calls Tryz.prog 16 #[.string s] w fun e w' => e = .returned (.string ⟨(clean s.data.toList).toArray⟩) ∧ w = w' := by
  have H0 := Lib.hid (show cl s 0 = clean s.data.toList by unfold cl; rw [List.drop_zero])
  go_enter Tryz.func16, Tryz.ntmps16
  go_wp2
  go_loop [3, 4] (fun tv i => ∃ (k : Nat) (t : ByteArray), k ≤ s.size ∧ i = .int .i64 k ∧ tv = .string t ∧ t.size ≤ 3 * k ∧ Hid (cl s 0 = t.data.toList ++ cl s k)) (fun _ i => s.size - (intOf i).toNat)
  case atStart => exact ⟨0, ByteArray.empty, by omega, rfl, rfl, by simp, Lib.hid (by simp)⟩
  case round =>
    obtain ⟨k, t, hk, rfl, rfl, htz, HC⟩ := hrel
    by_cases hlt : k < s.size
    · obtain ⟨hw1, hw2, hw4⟩ := width_ok s k hlt
      have B0 := Lib.hid (cl_bad s k hlt)
      have B1 := Lib.hid (cl_13 s k hlt)
      have B2 := Lib.hid (cl_1310 s k hlt)
      have B3 := Lib.hid (cl_rune s k hlt)
      by_cases hb : DBad s k
      · have HX := Lib.hid (next_bad s k hb)
        have HB := Lib.hid hb
        clear hb
        go_wp2_with fail
        refine (next_calls_bad s k _ (by omega) hlt HX).mono ?_
        rintro e w' ⟨rfl, rfl⟩
        go_wp2_with fail
        go_round
        case rel => exact ⟨k + 1, t ++ ⟨#[239, 191, 189]⟩, by omega, by go_num, rfl, by rw [ByteArray.size_append, show (⟨#[239, 191, 189]⟩ : ByteArray).size = 3 from rfl]; omega, add_fffd s k t HC (B0.out (.inl HB.out))⟩
        case measure => simp [intOf]; omega
      · have HX := Lib.hid (next_ok s k hb)
        have HB := Lib.hid hb
        clear hb
        have W13 := Lib.hid (width_13 s k hlt)
        generalize (Utf8.decode s k).2 = d at hw1 hw2 hw4 B3 HX W13
        generalize (Utf8.decode s k).1 = v at HX
        have hn0 : ((d : Int) == 0) = false := by rw [beq_eq_false_iff_ne]; omega
        by_cases c0 : (s[k].toNat : Int) = 0
        · have t0 : ((s[k].toNat : Int) == 0) = true := by rw [c0]; rfl
          have HE := Lib.hid c0
          clear c0
          go_wp2_with fail
          refine (next_calls_ok s k _ _ _ (by omega) hlt HX).mono ?_
          rintro e w' ⟨rfl, rfl⟩
          go_wp2_with fail
          go_round
          case rel => exact ⟨k + 1, t ++ ⟨#[239, 191, 189]⟩, by omega, by go_num, rfl, by rw [ByteArray.size_append, show (⟨#[239, 191, 189]⟩ : ByteArray).size = 3 from rfl]; omega, add_fffd s k t HC (B0.out (.inr HE.out))⟩
          case measure => simp [intOf]; omega
        have t0 : ((s[k].toNat : Int) == 0) = false := by rw [beq_eq_false_iff_ne]; exact c0
        have N0 := Lib.hid c0
        clear c0
        by_cases c13 : (s[k].toNat : Int) = 13
        · have t1 : ((s[k].toNat : Int) == 13) = true := by rw [c13]; rfl
          have HE := Lib.hid c13
          have HD := Lib.hid (W13.out c13)
          clear c13
          by_cases h1 : k + 1 < s.size
          · have h1' : (k : Int) + 1 < (s.size : Int) := by omega
            by_cases c10 : (s[k + 1].toNat : Int) = 10
            · have t2 : ((s[k + 1].toNat : Int) == 10) = true := by rw [c10]; rfl
              have HF := Lib.hid c10
              clear c10
              go_wp2_with fail
              refine (next_calls_ok s k _ _ _ (by omega) hlt HX).mono ?_
              rintro e w' ⟨rfl, rfl⟩
              go_wp2_with fail
              go_round
              case rel => exact ⟨k + 2, t ++ ⟨#[10]⟩, by omega, by go_num, rfl, by rw [ByteArray.size_append, show (⟨#[10]⟩ : ByteArray).size = 1 from rfl]; omega, add_10 s k _ t HC (B2.out HE.out h1 HF.out)⟩
              case measure => simp [intOf]; omega
            · have t2 : ((s[k + 1].toNat : Int) == 10) = false := by rw [beq_eq_false_iff_ne]; exact c10
              have HF := Lib.hid (show ¬ ∃ h1 : k + 1 < s.size, (s[k + 1].toNat : Int) = 10 from fun ⟨_, h⟩ => c10 h)
              clear c10
              go_wp2_with fail
              refine (next_calls_ok s k _ _ _ (by omega) hlt HX).mono ?_
              rintro e w' ⟨rfl, rfl⟩
              go_wp2_with fail
              go_round
              case rel => exact ⟨k + d, t ++ ⟨#[10]⟩, by omega, by go_num, rfl, by rw [ByteArray.size_append, show (⟨#[10]⟩ : ByteArray).size = 1 from rfl]; omega, by rw [HD.out]; exact add_10 s k _ t HC (B1.out HE.out HF.out)⟩
              case measure => simp [intOf]; omega
          · have hd : decide ((k : Int) + 1 < (s.size : Int)) = false := by simp; omega
            have HF := Lib.hid (show ¬ ∃ h1 : k + 1 < s.size, (s[k + 1].toNat : Int) = 10 from fun ⟨h, _⟩ => h1 h)
            go_wp2_with fail
            refine (next_calls_ok s k _ _ _ (by omega) hlt HX).mono ?_
            rintro e w' ⟨rfl, rfl⟩
            go_wp2_with fail
            go_round
            case rel => exact ⟨k + d, t ++ ⟨#[10]⟩, by omega, by go_num, rfl, by rw [ByteArray.size_append, show (⟨#[10]⟩ : ByteArray).size = 1 from rfl]; omega, by rw [HD.out]; exact add_10 s k _ t HC (B1.out HE.out HF.out)⟩
            case measure => simp [intOf]; omega
        have t1 : ((s[k].toNat : Int) == 13) = false := by rw [beq_eq_false_iff_ne]; exact c13
        have N13 := Lib.hid c13
        clear c13
        have hw2' : (k : Int) + (d : Int) ≤ (s.size : Int) := by omega
        go_wp2_with fail
        refine (next_calls_ok s k _ _ _ (by omega) hlt HX).mono ?_
        rintro e w' ⟨rfl, rfl⟩
        go_wp2_with fail
        go_round
        case rel => exact ⟨k + d, t ++ s.extract k (k + d), hw2, by go_num, rfl, by rw [ByteArray.size_append, ByteArray.size_extract]; omega, add_rune s k _ t _ HC (B3.out HB.out N0.out N13.out)⟩
        case measure => simp [intOf]; omega
    · obtain rfl : k = s.size := by omega
      have HE := Lib.hid (cl_end s s.size (by omega))
      go_wp2_with fail
      go_ret
      refine ⟨?_, rfl⟩
      have e := HC.out
      rw [HE.out, List.append_nil, H0.out] at e
      show Ending.returned (.string t) = _
      rw [show t = ⟨(clean s.data.toList).toArray⟩ from ba_ext (by rw [← e])]
end Go.Proofs.YtbdgoffbkenofaaGreat.Rc
