/- token: the document's example. -/
import Derived.Test.YtpbdkloohhjapaaGreatTkX
import Derived.Test.YtpbdkloohhjapaaGreatTkT
namespace Go.Proofs.YtpbdkloohhjapaaGreat.Tk
open Go Go.RowKit Go.Proofs.YtpbdkloohhjapaaGreat.Tr
set_option linter.unusedVariables false
set_option maxRecDepth 100000

theorem awake_attrs : attrsP ⟨#[60, 65, 32, 98, 61, 49, 32, 66, 61, 50, 62]⟩ true 10 2 [] = some ([(⟨#[98]⟩, ⟨#[49]⟩)], 10) := by decide +kernel
theorem awake_next : nextP ⟨#[60, 65, 32, 98, 61, 49, 32, 66, 61, 50, 62]⟩ 0 ⟨#[]⟩ = (⟨1, ⟨#[97]⟩, ⟨#[]⟩, [(⟨#[98]⟩, ⟨#[49]⟩)], false⟩, 11, true) := by
  rw [next_start (by decide +kernel) (by decide +kernel)]
  unfold tagP
  dsimp only
  rw [show upT closesN ⟨#[60, 65, 32, 98, 61, 49, 32, 66, 61, 50, 62]⟩ (0 + 1) = 2 by decide +kernel]
  rw [show (⟨#[60, 65, 32, 98, 61, 49, 32, 66, 61, 50, 62]⟩ : ByteArray).size + 1 - 2 = 10 from rfl, awake_attrs]
  show ((⟨1, namedP (ByteArray.extract ⟨#[60, 65, 32, 98, 61, 49, 32, 66, 61, 50, 62]⟩ 1 2), ⟨#[]⟩, sortP [(⟨#[98]⟩, ⟨#[49]⟩)], false⟩, 11, true) : Out) = _
  rw [show sortP [((⟨#[98]⟩ : ByteArray), (⟨#[49]⟩ : ByteArray))] = [(⟨#[98]⟩, ⟨#[49]⟩)] from List.mergeSort_singleton _]
  rw [show namedP (ByteArray.extract ⟨#[60, 65, 32, 98, 61, 49, 32, 66, 61, 50, 62]⟩ 1 2) = ⟨#[97]⟩ by decide +kernel]
theorem awake_raw : rawP ⟨#[116, 105, 116, 108, 101]⟩ = 1 := by decide +kernel
set_option maxHeartbeats 8000000 in
theorem awake_calls (w : World) : Calls Tryz.prog 10 #[] w fun e w' => e = .returned (.bool true) ∧ Below w.heap.size w w' := by
  have HN := Lib.hid (next_calls ⟨#[60, 65, 32, 98, 61, 49, 32, 66, 61, 50, 62]⟩ ⟨#[]⟩ (by decide) (by decide) 0 (by decide))
  rw [awake_next] at HN
  have HR := Lib.hid (raw_calls ⟨#[116, 105, 116, 108, 101]⟩)
  rw [awake_raw] at HR
  go_enter Tryz.func10, Tryz.ntmps10
  go_wp2_with fail
  refine (HN.out _).mono ?_
  rintro e w2 ⟨A, ac, rfl, hat, hb, hfr⟩
  have HB2 := Lib.hid hb
  obtain ⟨g, off, rfl, hg, a0, a1⟩ := isAttrs_at hat (j := 0) rfl
  rw [Nat.zero_mul, Nat.add_zero] at a0 a1
  have HB3 : Hid (Below w.heap.size w (w2.alloc (.cells #[.int .i64 1, .string ⟨#[97]⟩, .string ⟨#[]⟩, .slice (some ⟨g, off, none⟩) 1 ac, .bool false] 25))) := Lib.hid (HB2.out.alloc HB2.out.size _)
  have hl := alloc_new w2 (.cells #[.int .i64 1, .string ⟨#[97]⟩, .string ⟨#[]⟩, .slice (some ⟨g, off, none⟩) 1 ac, .bool false] 25)
  obtain ⟨b0, b1, b2, b3, b4⟩ := tbox5 hl
  have a0' : (w2.alloc (.cells #[.int .i64 1, .string ⟨#[97]⟩, .string ⟨#[]⟩, .slice (some ⟨g, off, none⟩) 1 ac, .bool false] 25)).cell? ⟨g, off, none⟩ = some (.string ⟨#[98]⟩) := (((Below.refl w2.heap.size w2).alloc (Nat.le_refl _) _).cell (p := ⟨g, off, none⟩) hg).trans a0
  have a1' : (w2.alloc (.cells #[.int .i64 1, .string ⟨#[97]⟩, .string ⟨#[]⟩, .slice (some ⟨g, off, none⟩) 1 ac, .bool false] 25)).cell? ⟨g, off + 1, none⟩ = some (.string ⟨#[49]⟩) := (((Below.refl w2.heap.size w2).alloc (Nat.le_refl _) _).cell (p := ⟨g, off + 1, none⟩) hg).trans a1
  clear hb hat hfr hl a0 a1
  go_wp2_with fail
  refine (HR.out _).mono ?_
  rintro e w3 ⟨rfl, rfl⟩
  go_wp2_with fail
  go_ret
  exact ⟨rfl, HB3.out⟩
/-- token.Next with its answer named. -/
theorem next_as (s raw : ByteArray) (hs : s.size ≤ 900000) (hr : raw.size ≤ 900000) (a : Nat) (ha : a ≤ 1000000) (n : Int) (hn : (a : Int) = n) (o : Tok) (k : Nat) (ok : Bool) (h : nextP s a raw = (o, k, ok)) (m : Int) (hm : (k : Int) = m) (W : World) :
    Calls Tryz.prog 11 #[.string s, .int .i64 n, .string raw] W fun e w' => ∃ A ac, e = .returned (.tuple #[tokV o A ac, .int .i64 m, .bool ok]) ∧ IsAttrs w' w'.heap.size o.attrs A ac ∧ Below W.heap.size W w' ∧ ∀ p, A = some p → W.heap.size ≤ p.block := by
  have := next_calls s raw hs hr a ha W
  rw [h] at this
  subst hn; subst hm
  exact this
theorem isEmpty_of {a : ByteArray} (h : a.size = 0) : a.toList.isEmpty = true := by
  have : a = ⟨#[]⟩ := ext_bAt h (fun i hi => by rw [h] at hi; omega)
  rw [this, ByteArray.toList_eq]; rfl
theorem isEmpty_not {a : ByteArray} (h : 0 < a.size) : a.toList.isEmpty = false := by
  have := empty_toList (raw := a) (fun e => by rw [e] at h; exact absurd h (by decide))
  cases hh : a.toList.isEmpty with
  | true => rw [hh] at this; cases this
  | false => rfl
end Go.Proofs.YtpbdkloohhjapaaGreat.Tk
