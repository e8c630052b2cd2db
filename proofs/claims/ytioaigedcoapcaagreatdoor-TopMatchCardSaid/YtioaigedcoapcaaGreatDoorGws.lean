/- strings' generic replacer: a text is written, replaced. -/
import Derived.Test.YtioaigedcoapcaaGreatDoorLkh
import Derived.Deep.RegionHeld3
import Derived.Test.YtioaigedcoapcaaGreatDoorGsw
namespace Go.Proofs.YtioaigedcoapcaaGreatDoor.Gr
open Go Go.RowKit Go.Proofs.YtioaigedcoapcaaGreatDoor.Tr Go.Proofs.YtioaigedcoapcaaGreatDoor.Sr
set_option linter.unusedVariables false
set_option maxRecDepth 100000

structure GwsP (K : Prs) (B b : Nat) (s : ByteArray) (w0 w' : World) (v' : Value) (out : List UInt8) : Prop where
  rep : Rep K s.data.toList out
  buf : Buf w' B b v' out
  bel : Below B w0 w'
def GwsEnd (K : Prs) (B b : Nat) (s : ByteArray) (w0 : World) (e : Ending) (w' : World) : Prop := ∃ v' out nn, e = .returned (.tuple #[.int .i64 nn, .nilIface]) ∧ GwsP K B b s w0 w' v' out
structure GwsI (K : Prs) (B b : Nat) (s : ByteArray) (w0 w' : World) (v' : Value) (out : List UInt8) (last i : Nat) : Prop where
  don : Done K s.data.toList out last i
  buf : Buf w' B b v' out
  bel : Below B w0 w'
  len : out.length ≤ 1000 * last
theorem GwsI.next {K : Prs} {b : Nat} {s : ByteArray} {w0 w w1 : World} {v' : Value} {out : List UInt8} {last i : Nat} (h : GwsI K w0.heap.size b s w0 w v' out last i) (hb : Below w.heap.size w w1) : GwsI K w0.heap.size b s w0 w1 v' out last i :=
  ⟨h.don, h.buf.below hb, h.bel.trans (hb.mono h.bel.size), h.len⟩
theorem Buf.bel {w0 w w' : World} {b : Nat} {v : Value} {l : List UInt8} (h : Buf w w0.heap.size b v l) (hb : w0.heap.size ≤ b) (hbel : Below w0.heap.size w0 w) (hF : Fr (bufOwn b v) w.heap.size w w') : Below w0.heap.size w0 w' :=
  hbel.trans (hF.below (fun k hk hr => by
    rcases hr with rfl | hr
    · omega
    · have := (h.row.lt k hr).1; omega) hbel.size)
theorem Built.at_ {w0 w : World} {g tb n N : Nat} {M : List Int} {K : Prs} (h : Built w0 g tb n M N K) (hb : Below w0.heap.size w0 w) : Built w g tb n M N K := h.keep hb
theorem run_na (b : Nat) (w : World) : (nilAhead 623 511 (.pointer (some ⟨b, 0, none⟩)) "WriteString").run Tryz.prog w = .ok (some false) w := by kernel_rfl
set_option maxHeartbeats 4000000 in
theorem gws_calls {K : Prs} {n N : Nat} {M : List Int} (hG : GoodK K n M N) (g tb b : Nat) (v : Value) (s : ByteArray) (w0 w : World) (hB : Built w0 g tb n M N K) (hbel : Below w0.heap.size w0 w) (hbuf : Buf w w0.heap.size b v []) (hb : w0.heap.size ≤ b) (hs : s.size ≤ 1000000) :
    Calls Tryz.prog 485 #[.pointer (some ⟨g, 0, none⟩), .iface 511 (.pointer (some ⟨b, 0, none⟩)), .string s] w (GwsEnd K w0.heap.size b s w0) := by
  have HG := Lib.hid hG
  have HB := Lib.hid hB
  have I0 : Hid (GwsI K w0.heap.size b s w0 w v [] 0 0) := Lib.hid ⟨done_start K _, hbuf, hbel, Nat.zero_le _⟩
  have hn1 := hG.n1
  have hn0 := hG.n0
  clear hG hB hbel hbuf
  go_enter Tryz.func485, Tryz.ntmps485
  go_wp2_with fail
  refine (gsw_calls b _).mono ?_
  rintro e w' ⟨rfl, rfl⟩
  go_wp2_with fail
  go_loopw [6, 7, 9, 10, 11, 12, 13, 14, 15, 16, 63, 79, 96] (fun t6 t7 t9 _ t11 t12 _ _ _ _ _ _ _ wr => ∃ (nn : Int) (last i : Nat) (v' : Value) (out : List UInt8), t6 = .int .i64 nn ∧ t7 = .nilIface ∧ t9 = .int .i64 last ∧ t11 = .bool false ∧ t12 = .int .i64 i ∧ last ≤ s.size ∧ last ≤ i ∧ i ≤ s.size + 1 ∧ Hid (GwsI K w0.heap.size b s w0 wr v' out last (min i s.size))) (fun _ _ _ _ _ t12 _ _ _ _ _ _ _ _ => s.size + 1 - (intOf t12).toNat)
  case atStart => exact ⟨0, 0, 0, v, [], rfl, rfl, rfl, rfl, rfl, Nat.zero_le _, Nat.le_refl _, by omega, Lib.hid (by rw [show min 0 s.size = 0 by omega]; exact I0.out)⟩
  case round =>
    clear I0
    obtain ⟨nn, last, i, v', out, rfl, rfl, rfl, rfl, rfl, hl, hli, hi, HI⟩ := hrel
    by_cases h1 : i < s.size
    · obtain ⟨c, hc⟩ : ∃ c, s[i].toNat = c := ⟨_, rfl⟩
      have hcb : c < 256 := by have := s[i].toNat_lt; omega
      have hb0 : (0 : Int) ≤ (c : Int) := by omega
      have hb1 : (c : Int) < 256 := by omega
      have hi0 : (0 : Int) ≤ (i : Int) := by omega
      have hi1 : (i : Int) < (s.size : Int) := by omega
      have HIb := Lib.hid HI.out.bel
      obtain ⟨c0, c1, c2, c3, c4, c5⟩ := (HB.out.at_ HI.out.bel).gen.cells
      by_cases hno : ∀ p ∈ K, c ≠ first p
      · obtain ⟨m, hm, hmn⟩ := HG.out.rng c hcb
        have cm := (HB.out.at_ HI.out.bel).gen.at c hm
        have HN : Hid (hitOf K (s.data.toList.drop i) = none) := Lib.hid (hit_none HG.out h1 fun p hp e => absurd (hc.symm.trans e) (hno p hp))
        have HNO := Lib.hid hno
        have HM := Lib.hid hm
        have hm0 : (0 : Int) ≤ (m : Int) := by omega
        have HIN : Hid (∀ w1, GwsI K w0.heap.size b s w0 w1 v' out last (min i s.size) → GwsI K w0.heap.size b s w0 w1 v' out last (min (i + 1) s.size)) := Lib.hid (fun w1 h => by
          rw [show min i s.size = i by omega] at h
          rw [show min (i + 1) s.size = i + 1 by omega]
          exact ⟨h.don.skip hli h1 HN.out, h.buf, h.bel, h.len⟩)
        by_cases hmn2 : m < n
        · have hm1 : (m : Int) < (n : Int) := by omega
          have hm2 : ((m : Int) == (n : Int)) = false := by rw [beq_eq_false_iff_ne]; omega
          clear hno hm
          go_wp2_with fail
          go_quiet (fail)
          have HI1 := Lib.hid (HI.out.next (below_drewN _ nq))
          clear c0 c1 c2 c3 c4 c5 cm HI
          generalize World.drewN _ nq = w1 at HI1 ⊢
          obtain ⟨c0, c1, c2, c3, c4, c5⟩ := (HB.out.at_ HI1.out.bel).gen.cells
          have cn := nil_entry HG.out hcb (HB.out.at_ HI1.out.bel) HNO.out HM.out hmn2
          go_wp2_with fail
          go_roundw
          case rel => exact ⟨nn, last, i + 1, v', out, rfl, rfl, rfl, rfl, by go_num, hl, by omega, by omega, Lib.hid (HIN.out _ HI1.out)⟩
          case measure => simp [intOf]; omega
        · obtain rfl : m = n := by omega
          clear hno hm
          go_wp2_with fail
          go_quiet (fail)
          have HI1 := Lib.hid (HI.out.next (below_drewN _ nq))
          clear c0 c1 c2 c3 c4 c5 cm HI
          generalize World.drewN _ nq = w1 at HI1 ⊢
          obtain ⟨c0, c1, c2, c3, c4, c5⟩ := (HB.out.at_ HI1.out.bel).gen.cells
          go_wp2_with fail
          go_roundw
          case rel => exact ⟨nn, last, i + 1, v', out, rfl, rfl, rfl, rfl, by go_num, hl, by omega, by omega, Lib.hid (HIN.out _ HI1.out)⟩
          case measure => simp [intOf]; omega
      · obtain ⟨p, hp, hcp⟩ : ∃ p, p ∈ K ∧ c = first p := by
          rcases Classical.em (∃ p, p ∈ K ∧ c = first p) with h | h
          · exact h
          · exact absurd (fun p hp e => h ⟨p, hp, e⟩) hno
        obtain ⟨k, hk⟩ := List.mem_iff_getElem?.1 hp
        obtain ⟨m, hm, hmn⟩ := has_place (HB.out.at_ HI.out.bel) hk
        rw [← hcp] at hm
        have cm := (HB.out.at_ HI.out.bel).gen.at c hm
        have hm0 : (0 : Int) ≤ (m : Int) := by omega
        have hm1 : (m : Int) < (n : Int) := by omega
        have hm2 : ((m : Int) == (n : Int)) = false := by rw [beq_eq_false_iff_ne]; omega
        have HM : Hid (M[first p]? = some (m : Int)) := Lib.hid (hcp ▸ hm)
        have HC : Hid (s[i].toNat = first p) := Lib.hid (hc.trans hcp)
        have hcs : 0 < (s.extract i s.size).size := by rw [cut_size]; omega
        have hcs2 : (s.extract i s.size).size ≤ 1000000000 := by rw [cut_size]; omega
        have hce : (s.extract i s.size)[0].toNat = first p := by rw [cut_zero s i h1]; exact HC.out
        have HK1 := Lib.hid hk
        clear hno hm hcp hp hk
        have HCE := Lib.hid hce
        clear hce
        go_wp2_with fail
        go_quiet (fail)
        have HI1 := Lib.hid (HI.out.next (below_drewN _ nq))
        clear c0 c1 c2 c3 c4 c5 cm HI
        generalize World.drewN _ nq = w1 at HI1 ⊢
        obtain ⟨c0, c1, c2, c3, c4, c5⟩ := (HB.out.at_ HI1.out.bel).gen.cells
        obtain ⟨nb, cn⟩ := has_entry (HB.out.at_ HI1.out.bel) HK1.out HM.out
        cases hpre : hasPre (s.extract (i + 1) s.size) (rest p) with
        | false =>
          have L := Lib.hid (look_miss HG.out g tb k p (s.extract i s.size) w1 (HB.out.at_ HI1.out.bel) HK1.out hcs hcs2 HCE.out (by rw [cut_cut]; exact hpre))
          have HN : Hid (hitOf K (s.data.toList.drop i) = none) := Lib.hid (hit_none HG.out h1 fun q hq e => by
            obtain ⟨j, hj⟩ := List.mem_iff_getElem?.1 hq
            rw [key_one HG.out hj HK1.out (e.symm.trans HC.out)]
            exact hpre)
          clear hpre
          go_wp2_with fail
          refine L.out.mono ?_
          rintro e w2 ⟨rfl, hb2⟩
          have HI2 := Lib.hid (HI1.out.next hb2)
          clear hb2 HI1 c0 c1 c2 c3 c4 c5 cn
          go_wp2_with fail
          go_roundw
          case rel => exact ⟨nn, last, i + 1, v', out, rfl, rfl, rfl, rfl, by go_num, hl, by omega, by omega, Lib.hid (by
            rw [show min (i + 1) s.size = i + 1 by omega]
            have h := HI2.out
            rw [show min i s.size = i by omega] at h
            exact ⟨h.don.skip hli h1 HN.out, h.buf, h.bel, h.len⟩)⟩
          case measure => simp [intOf]; omega
        | true =>
          have L := Lib.hid (look_hit HG.out g tb k p (s.extract i s.size) w1 (HB.out.at_ HI1.out.bel) HK1.out hcs hcs2 HCE.out (by rw [cut_cut]; exact hpre))
          obtain ⟨hz0, _, _⟩ := HG.out.first k p HK1.out
          have hz1 := HG.out.size p (List.mem_of_getElem? HK1.out)
          have hz2 : p.1.size ≤ s.size - i := by
            have h1 := pre_size hpre
            have h2 := rest_size hz0
            rw [cut_size] at h1
            omega
          have hz3 : ((p.1.size : Int) == 0) = false := by rw [beq_eq_false_iff_ne]; omega
          have HN : Hid (hitOf K (s.data.toList.drop i) = some p) := Lib.hid (hit_some HG.out h1 HK1.out HC.out hpre)
          clear hpre
          go_wp2_with fail
          refine L.out.mono ?_
          rintro e w2 ⟨rfl, hb2⟩
          have HI2 := Lib.hid (HI1.out.next hb2)
          clear hb2 HI1 c0 c1 c2 c3 c4 c5 cn
          go_wp2_with fail
          have hsl : (s.extract last i).size ≤ 1000000 := by rw [ByteArray.size_extract]; omega
          have hol : out.length ≤ 1000000000 := by have := HI2.out.len; omega
          have hw2 := HI2.out.bel.size
          have HI3 := Lib.hid (HI2.out.next (Below.refl _ _).drew)
          have BC := Lib.hid (buf_calls w0.heap.size b v' out (s.extract last i) w2.drew HI3.out.buf (by omega) hw2)
          have wl0 : (0 : Int) ≤ (last : Int) := by omega
          have wl1 : (last : Int) ≤ (i : Int) := by omega
          have wl2 : (i : Int) ≤ (s.size : Int) := by omega
          have hT : True := trivial
          have hna := run_na b
          go_region_held3 (fun _ => True) (trivial) ((go_at_call 497; refine BC.out.mono ?_; rintro e w' ⟨v2, rfl, hx1, hx2, hx3⟩))
          have HF1 := Lib.hid (HI3.out.buf.bel hb HI3.out.bel hx2)
          have hvs := HG.out.vsize p (List.mem_of_getElem? HK1.out)
          have hl1 : (out ++ (s.extract last i).data.toList).length ≤ 1001000000 := by
            rw [List.length_append]
            have : (s.extract last i).data.toList.length = (s.extract last i).size := rfl
            omega
          have BC2 := Lib.hid (buf_calls w0.heap.size b v2 _ p.2 w' hx1 (by omega) HF1.out.size)
          have HX1 := Lib.hid hx1
          clear hx1 hx2 hx3 BC HI2 hna
          go_wp2_with fail
          refine BC2.out.mono ?_
          rintro e w3 ⟨v3, rfl, hy1, hy2, hy3⟩
          have HF2 := Lib.hid (HX1.out.bel hb HF1.out hy2)
          have HY1 := Lib.hid hy1
          have hzb : (i : Int) + (p.1.size : Int) ≤ 1000000 := by omega
          clear hy1 hy2 hy3 BC2 HX1
          go_wp2_with fail
          go_roundw
          case rel => exact ⟨_, i + p.1.size, i + p.1.size, v3, _, rfl, rfl, by go_num, rfl, by go_num, by omega, Nat.le_refl _, by omega, Lib.hid (by
            rw [show min (i + p.1.size) s.size = i + p.1.size by omega]
            have h := HI3.out
            rw [show min i s.size = i by omega] at h
            have hY := HY1.out
            rw [cut_list] at hY
            refine ⟨h.don.hit h1 HN.out, hY, HF2.out, ?_⟩
            have := h.len
            rw [List.length_append, List.length_append, List.length_take]
            have e2 : p.2.data.toList.length = p.2.size := rfl
            omega)⟩
          case measure => simp [intOf]; omega
    · by_cases h2 : i = s.size
      · subst h2
        go_wp2_with fail
        rw [show ByteArray.empty = (⟨#[]⟩ : ByteArray) from rfl]
        refine (look_none g tb n N M K _ (HB.out.at_ HI.out.bel)).mono ?_
        rintro e w1 ⟨rfl, hb1⟩
        have HI1 := Lib.hid (HI.out.next hb1)
        clear hb1 HI
        go_wp2_with fail
        go_roundw
        case rel => exact ⟨nn, last, s.size + 1, v', out, rfl, rfl, rfl, rfl, by go_num, hl, by omega, by omega, Lib.hid (by rw [show min (s.size + 1) s.size = min s.size s.size by omega]; exact HI1.out)⟩
        case measure => simp [intOf]
      · obtain rfl : i = s.size + 1 := by omega
        by_cases hls : last = s.size
        · subst hls
          go_wp2_with fail
          go_ret2
          have h := HI.out
          rw [show min (s.size + 1) s.size = s.size by omega] at h
          have hr := h.don.finish rfl (Nat.le_refl _)
          have e0 : s.data.toList.drop s.size = [] := List.drop_eq_nil_of_le (Nat.le_refl _)
          rw [e0, List.append_nil] at hr
          exact ⟨v', out, nn, rfl, hr, h.buf, h.bel⟩
        · have HI2 : Hid (GwsI K w0.heap.size b s w0 wr v' out last s.size) := Lib.hid (by
            have h := HI.out
            rwa [show min (s.size + 1) s.size = s.size by omega] at h)
          have hsl : (s.extract last s.size).size ≤ 1000000 := by rw [ByteArray.size_extract]; omega
          have hol : out.length ≤ 1000000000 := by have := HI2.out.len; omega
          have hw2 := HI2.out.bel.size
          have HI3 := Lib.hid (HI2.out.next (Below.refl _ _).drew)
          have BC := Lib.hid (buf_calls w0.heap.size b v' out (s.extract last s.size) wr.drew HI3.out.buf (by omega) hw2)
          have wl0 : (0 : Int) ≤ (last : Int) := by omega
          have wl1 : (last : Int) ≤ (s.size : Int) := by omega
          have hT : True := trivial
          have hna := run_na b
          clear HI h1 h2
          go_wp2_with fail
          go_region_held3 (fun _ => True) (trivial) ((go_at_call 497; refine BC.out.mono ?_; rintro e w' ⟨v2, rfl, hx1, hx2, hx3⟩))
          go_wp2_with fail
          go_ret2
          have hr := HI3.out.don.finish rfl hl
          have e1 : (s.extract last s.size).data.toList = s.data.toList.drop last := by
            rw [cut_list, List.take_of_length_le]
            rw [List.length_drop]; exact Nat.le_refl _
          rw [e1] at hx1
          exact ⟨v2, _, _, rfl, hr, hx1, HI3.out.buf.bel hb HI3.out.bel hx2⟩
end Go.Proofs.YtioaigedcoapcaaGreatDoor.Gr
