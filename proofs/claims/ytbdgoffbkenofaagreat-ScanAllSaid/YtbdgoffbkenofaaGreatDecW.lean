/- charref.Decode, walked. -/
import Derived.Test.YtbdgoffbkenofaaGreatDec
import Derived.Test.YtbdgoffbkenofaaGreatBw
namespace Go.Proofs.YtbdgoffbkenofaaGreat.Ch
open Go Go.RowKit Go.Proofs.YtbdgoffbkenofaaGreat.Sr Go.Proofs.YtbdgoffbkenofaaGreat.Ct Go.Proofs.YtbdgoffbkenofaaGreat.Tr
set_option linter.unusedVariables false
set_option maxRecDepth 100000

theorem bstr (B b : Nat) (l : List UInt8) (w : World) (h : Lib.IsBuilderF 66 5 B b (Lib.byteCells l) w) (hBw : B ≤ w.heap.size) :
    Calls Tryz.prog 41 #[.pointer (some ⟨b, 0, none⟩)] w fun e w' => e = .returned (.string ⟨l.toArray⟩) ∧ (Lib.IsBuilderF 66 5 B b (Lib.byteCells l) w' ∧ Below B w w' ∧ Lib.OthersKept 5 (some b) w w') :=
  Go.Proofs.Any.Builder_String_any_k lays169 builderExtra B b l w h hBw
/-- What is known at the loop's head: B is the builder's own block. -/
structure DecI (s : ByteArray) (attr : Bool) (B : Nat) (w0 wr : World) (v : Value) (out : List UInt8) (k : Nat) : Prop where
  bld : Bld wr B B v out
  bel : Below B w0 wr
  eq : out ++ decK s attr k = decK s attr 0
  len : out.length ≤ 4 * k
theorem DecI.next {s : ByteArray} {attr : Bool} {B : Nat} {w0 wr w1 : World} {v : Value} {out : List UInt8} {k : Nat} (h : DecI s attr B w0 wr v out k) (hB : B ≤ wr.heap.size) (hb : Below wr.heap.size wr w1) : DecI s attr B w0 w1 v out k :=
  ⟨h.bld.keep fun j hj => hb.block j (h.bld.lt j hj), h.bel.trans (hb.mono hB), h.eq, h.len⟩
theorem bld_bel {w0 w w' : World} {B : Nat} {v : Value} {l : List UInt8} (h : Bld w B B v l) (hbel : Below B w0 w) (hB : B ≤ w.heap.size) (hF : Fr (bOwn B v) w.heap.size w w') : Below B w0 w' :=
  hbel.trans (hF.below (fun k hk hr => by
    rcases hr with rfl | hr
    · omega
    · have := (h.row.lt k hr).1; omega) hB)
theorem decode_calls (s : ByteArray) (hs : s.size ≤ 1000000) (attr : Bool) (w : World) :
    Calls Tryz.prog 58 #[.string s, .bool attr] w fun e w' => e = .returned (.string (decB s attr)) ∧ Below w.heap.size w w' := by
  have I0 : Hid (DecI s attr w.heap.size w (w.alloc (.cells #[.pointer none, .slice none 0 0] 66)) (.slice none 0 0) [] 0) :=
    Lib.hid ⟨bld_new w, (Below.refl _ _).alloc (Nat.le_refl _) _, rfl, Nat.le_refl _⟩
  have hsz : w.heap.size < (w.alloc (.cells #[.pointer none, .slice none 0 0] 66)).heap.size := by simp
  go_enter Tryz.func58, Tryz.ntmps58
  go_wp2_with fail
  generalize w.alloc (.cells #[.pointer none, .slice none 0 0] 66) = w0 at I0 hsz ⊢
  generalize hB : w.heap.size = B at I0 hsz ⊢
  have HB := Lib.hid hB
  clear hB
  go_loopw [6, 7, 8, 13] (fun t6 _ _ _ wr => ∃ (k : Nat) (v : Value) (out : List UInt8), t6 = .int .i64 k ∧ k ≤ s.size ∧ B < wr.heap.size ∧ Hid (DecI s attr B w wr v out k)) (fun t6 _ _ _ _ => s.size - (intOf t6).toNat)
  case atStart => exact ⟨0, _, _, rfl, Nat.zero_le _, hsz, Lib.hid I0.out⟩
  case round =>
    clear I0
    obtain ⟨k, v, out, rfl, hk, hBs, HI⟩ := hrel
    by_cases hlt : k < s.size
    · obtain ⟨⟨t, n⟩, hR⟩ : ∃ r, refI s k attr = r := ⟨_, rfl⟩
      obtain ⟨b1, b2, b3, b4⟩ := refI_bd s k attr hlt
      rw [hR] at b1 b2 b3 b4
      replace b1 : k + n ≤ s.size := b1
      replace b2 : t.size ≤ 4 := b2
      have RX := Lib.hid (ref_as _ ref_all s (by omega) k hk attr t n hR)
      have HL := HI.out.len
      by_cases h38 : s[k].toNat = 38
      · have hn := b3 h38
        replace hn : 1 ≤ n := hn
        have q0 : ((n : Int) == 0) = false := by rw [beq_eq_false_iff_ne]; omega
        have HD := Lib.hid (decK_ref (attr := attr) hlt h38)
        have HR := Lib.hid hR
        clear b3 b4 h38 hR
        go_wp2_with fail
        refine (RX.out _).mono ?_
        rintro e w1 ⟨rfl, hb⟩
        have hI1 := HI.out.next (Nat.le_of_lt hBs) hb
        have hs1 := hb.size
        have HI1 := Lib.hid hI1
        clear hb hI1 RX
        go_wp2_with fail
        refine (writeString_calls B B v out t w1 HI1.out.bld (by omega) (by omega)).mono ?_
        rintro e w2 ⟨v', rfl, hx1, hx2, hx3⟩
        have HX1 := Lib.hid hx1
        have HX2 := Lib.hid (bld_bel HI1.out.bld HI1.out.bel (by omega) hx2)
        have hs2 := hx2.size
        clear hx1 hx2 hx3
        go_wp2_with fail
        go_roundw
        case rel => exact ⟨k + n, v', _, by go_num, b1, by omega, Lib.hid ⟨HX1.out, HX2.out, by
          have h1 := HI1.out.eq
          rw [HD.out, HR.out] at h1
          rw [List.append_assoc]
          exact h1, by
          rw [List.length_append]
          have : t.data.toList.length = t.size := rfl
          omega⟩⟩
        case measure => simp [intOf]; omega
      · have h0 := b4 h38
        injection h0 with h0t h0n
        subst h0n
        have HD := Lib.hid (decK_one (attr := attr) hlt h38)
        clear b3 b4 h38 hR h0t
        go_wp2_with fail
        refine (RX.out _).mono ?_
        rintro e w1 ⟨rfl, hb⟩
        have hI1 := HI.out.next (Nat.le_of_lt hBs) hb
        have hs1 := hb.size
        have HI1 := Lib.hid hI1
        clear hb hI1 RX
        go_wp2_with fail
        refine (writeString_calls B B v out (s.extract k (k + 1)) w1 HI1.out.bld (by rw [ByteArray.size_extract]; omega) (by omega)).mono ?_
        rintro e w2 ⟨v', rfl, hx1, hx2, hx3⟩
        have HX1 := Lib.hid hx1
        have HX2 := Lib.hid (bld_bel HI1.out.bld HI1.out.bel (by omega) hx2)
        have hs2 := hx2.size
        clear hx1 hx2 hx3
        go_wp2_with fail
        go_roundw
        case rel => exact ⟨k + 1, v', _, by go_num, hlt, by omega, Lib.hid ⟨HX1.out, HX2.out, by
          have h1 := HI1.out.eq
          rw [HD.out] at h1
          rw [cut_one s k hlt, List.append_assoc]
          exact h1, by
          rw [List.length_append, cut_one s k hlt]
          simp; omega⟩⟩
        case measure => simp [intOf]; omega
    · obtain rfl : k = s.size := by omega
      go_wp2_with fail
      refine (bstr B B out _ (HI.out.bld.is (Nat.le_refl _)) (Nat.le_of_lt hBs)).mono ?_
      rintro e w1 ⟨rfl, _, hb, _⟩
      have HBe := Lib.hid (HI.out.bel.trans hb)
      have HE : Hid ((⟨out.toArray⟩ : ByteArray) = decB s attr) := Lib.hid (by
        have h1 := HI.out.eq
        rw [decK_end (Nat.le_refl _), List.append_nil] at h1
        unfold decB
        rw [h1])
      clear hb
      go_wp2_with fail
      go_ret
      exact ⟨Sr.ret_str HE.out, HB.out ▸ HBe.out⟩
end Go.Proofs.YtbdgoffbkenofaaGreat.Ch
