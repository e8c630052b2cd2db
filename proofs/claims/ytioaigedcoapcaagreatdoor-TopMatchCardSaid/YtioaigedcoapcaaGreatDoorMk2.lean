/- strings' makeGenericReplacer, walked. -/
import Derived.Test.YtioaigedcoapcaaGreatDoorBuilt
import Derived.IntWalk
namespace Go.Proofs.YtioaigedcoapcaaGreatDoor.Gr
open Go Go.RowKit Go.Proofs.YtioaigedcoapcaaGreatDoor.Tr
set_option linter.unusedVariables false
set_option maxRecDepth 100000

/-- What makeGenericReplacer leaves. -/
def MkEnd (n : Nat) (M : List Int) (N : Nat) (K : Prs) (w : World) (e : Ending) (w' : World) : Prop := ∃ g tb, e = .returned (.pointer (some ⟨g, 0, none⟩)) ∧ w.heap.size ≤ g ∧ Built w' g tb n M N K ∧ Below w.heap.size w w'
set_option maxHeartbeats 4000000 in
theorem mk_any (sb N cap : Nat) (K : Prs) (w : World) (hK : Olds w sb K) (hN : N = 2 * K.length) (hN2 : N ≤ 1000) (hks : ∀ p ∈ K, p.1.size ≤ 1000) (n : Nat) (hn : sumT (mk1 zeros256 (keysOf K)) 256 = n) (hn0 : 0 < n) (hn1 : n ≤ 100) (M' : List Int) (hM' : mixL (mk1 zeros256 (keysOf K)) n 256 = M')
    (hd : ∀ (k : Nat) p, K[k]? = some p → 0 < p.1.size ∧ (∃ m : Nat, M'[first p]? = some (m : Int) ∧ m < n) ∧ ∀ q ∈ K.take k, M'[first q]? ≠ M'[first p]?) :
    Calls Tryz.prog 400 #[.slice (some ⟨sb, 0, none⟩) N cap] w (MkEnd n M' N K w) := by
  have HK := Lib.hid hK
  have HKS := Lib.hid hks
  have HN := Lib.hid hN
  have G0 := Lib.hid (gen_new w)
  have B0 : Hid (Below w.heap.size w (w.alloc (.cells Tryz.zeroCells453 453))) := Lib.hid ((Below.refl _ _).alloc (Nat.le_refl _) _)
  have hsl := hK.lt
  have HNN := Lib.hid hn
  have HM' := Lib.hid hM'
  have HD := Lib.hid hd
  clear hK hks hN hn hM' hd
  go_enter Tryz.func400, Tryz.ntmps400
  go_wp2_with fail
  generalize w.alloc (.cells Tryz.zeroCells453 453) = w0 at G0 B0 ⊢
  generalize hg : w.heap.size = g at G0 B0 hsl ⊢
  go_loopw [4, 5, 6] (fun i _ _ wr => ∃ j k : Nat, Hid (j = 2 * k) ∧ k ≤ K.length ∧ i = .int .i64 j ∧ Hid (Gen wr g (.slice none 0 0) 0 (mk1 zeros256 (keysOf (K.take k)))) ∧ Hid (Below g w wr)) (fun i _ _ _ => N - (intOf i).toNat)
  case atStart => exact ⟨0, 0, Lib.hid rfl, by omega, rfl, Lib.hid G0.out, Lib.hid B0.out⟩
  case round =>
    obtain ⟨j, k, hj, hk, rfl, HG, HB⟩ := hrel
    by_cases hlt : j < N
    · have hkl : k < K.length := by have := hj.out; have := HN.out; omega
      obtain ⟨p, hp⟩ : ∃ p, K[k]? = some p := ⟨_, List.getElem?_eq_getElem hkl⟩
      have HO := HK.out.below HB.out hsl
      have ck := HO.key k p hp
      rw [← hj.out] at ck
      have HKT : Hid (keysOf (K.take (k + 1)) = keysOf (K.take k) ++ p.1.data.toList) := Lib.hid (by
        rw [List.take_succ_eq_append_getElem hkl, keysOf, List.flatMap_append]
        rw [List.getElem?_eq_getElem hkl] at hp
        injection hp with hp
        rw [hp]; simp [keysOf])
      have hps : p.1.size ≤ 1000 := HKS.out p (List.mem_of_getElem? hp)
      clear HO hp
      generalize p.1 = key at ck HKT hps
      go_wp2_with fail
      generalize hM0 : mk1 zeros256 (keysOf (K.take k)) = M0 at HG
      have HM0 := Lib.hid hM0
      clear hM0
      go_loopw [6] (fun t wr2 => ∃ u : Nat, u ≤ key.size ∧ t = .int .i64 u ∧ Hid (Gen wr2 g (.slice none 0 0) 0 (mk1 M0 (key.data.toList.take u))) ∧ Hid (Below g w wr2)) (fun t _ => key.size - (intOf t).toNat)
      case atStart => exact ⟨0, Nat.zero_le _, rfl, Lib.hid (by rw [List.take_zero]; exact HG.out), Lib.hid HB.out⟩
      case round =>
        clear HG HB
        obtain ⟨u, hu, rfl, HG, HB⟩ := hrel
        by_cases hut : u < key.size
        · obtain ⟨c, hc⟩ : ∃ c, key[u].toNat = c := ⟨_, rfl⟩
          have hcb : c < 256 := by have := key[u].toNat_lt; omega
          have hb0 : (0 : Int) ≤ (c : Int) := by omega
          have hb1 : (c : Int) < 256 := by omega
          have hu0 : (0 : Int) ≤ (u : Int) := by omega
          have hu1 : (u : Int) < (key.size : Int) := by omega
          have HS := Lib.hid (take_snoc key u hut)
          go_wp2_with fail
          obtain ⟨wd, hwd⟩ : ∃ wd, wd = wr.drew := ⟨_, rfl⟩
          have HB1 : Hid (Below g w wd) := Lib.hid (hwd ▸ HB.out.drew)
          have HG1 : Hid (Gen wd g (.slice none 0 0) 0 (mk1 M0 (key.data.toList.take u))) := Lib.hid (HG.out.old (by rw [hwd]; rfl))
          clear HB HG
          refine Kr.wp_region_T 7 [7] []
            (by simp only [List.take_succ_cons, List.take_zero] <;> rfl) (by simp only [Kr.takeI, List.getElem?_cons_succ, List.getElem?_cons_zero] <;> rfl) mixed (by kernel_rfl) ?_
          rw [← hwd]
          clear hwd
          repeat (refine Kr.wpR_one rfl rfl ?_; go_big_quiet_step (fail); refine wpQuiet_nil ?_)
          refine Kr.wpR_nil ?_
          intro w4 hb4 hH
          clear hH
          have hgl := lt_of_block HG1.out.blk
          have HG2 := Lib.hid (HG1.out.old (hb4.block _ hgl))
          have hi : (mk1 M0 (key.data.toList.take u))[c]? = some ((mk1 M0 (key.data.toList.take u))[c]'(by rw [HG2.out.len]; exact hcb)) := List.getElem?_eq_getElem _
          have cm := HG2.out.at c hi
          have fm := HG2.out.free (6 + c)
          have HB2 : Hid (Below g w w4) := Lib.hid (HB1.out.trans (hb4.mono (Nat.le_of_lt hgl)))
          clear hi HG1 HB1 hb4
          go_wp2_with fail
          go_roundw
          case rel => exact ⟨u + 1, hut, by go_num, Lib.hid (by rw [HS.out, mk1_snoc, hc]; exact HG2.out.mark c 1), Lib.hid (HB2.out.setCell (Nat.le_refl _) _)⟩
          case measure => simp [intOf]; omega
        · obtain rfl : u = key.size := by omega
          have hj2 : (j : Int) + 2 ≤ 1002 := by omega
          go_wp2_with fail
          go_roundw
          case rel => exact ⟨j + 2, k + 1, Lib.hid (by have := hj.out; omega), hkl, by go_num, Lib.hid (by rw [HKT.out, mk1_append, HM0.out, ← List.take_length (l := key.data.toList)]; exact HG.out), Lib.hid HB.out⟩
          case measure => simp [intOf]; omega
    · obtain rfl : k = K.length := by have := hj.out; have := HN.out; omega
      have hBits : Bits (mk1 zeros256 (keysOf (K.take K.length))) := bits_zeros.mk1 _
      rw [List.take_length] at HG hBits
      generalize mk1 zeros256 (keysOf K) = M at HG hBits HNN HM'
      have hsz : (Tryz.prog.info? 341).map (·.size) = some (M.map (Value.int .u8)).length := by rw [List.length_map, HG.out.len]; kernel_rfl
      have HZ := Lib.hid hsz
      have HBT := Lib.hid hBits
      clear hsz hBits
      go_wp2_with (refine wpList_load_mid rfl 341 _ rfl g 6 rfl (M.map (Value.int .u8)) _ HG.out.range Tryz.underlying341 rfl HZ.out ?_; rw [← rowv_eq M])
      clear hj
      go_loopw [8, 41] (fun _ c wr2 => ∃ k : Nat, k ≤ 256 ∧ c = .int .i64 k ∧ Hid (Gen wr2 g (.slice none 0 0) (sumT M k) M) ∧ Hid (Below g w wr2)) (fun _ c _ => 256 - (intOf c).toNat)
      case atStart => exact ⟨0, by omega, rfl, Lib.hid (by rw [sumT_zero]; exact HG.out), Lib.hid HB.out⟩
      case round =>
        have hlM := HG.out.len
        have HLM := Lib.hid hlM
        clear HG HB
        obtain ⟨k, hk, rfl, HG, HB⟩ := hrel
        by_cases hlt : k < 256
        · obtain ⟨m, hm⟩ : ∃ m, M[k]? = some m := ⟨_, List.getElem?_eq_getElem (by omega)⟩
          have hix := run_idx hlM hlt hm
          have hm01 := HBT.out k m hm
          have hm0 : 0 ≤ m := by omega
          have hm1 : m ≤ 1 := by omega
          have HS := Lib.hid (sumT_succ M k hm)
          obtain ⟨hs0, hs1⟩ := sumT_bd HBT.out k
          obtain ⟨c0, c1, c2, c3, c4, c5⟩ := HG.out.cells
          have f5 := HG.out.free 5
          clear hm hm01 hlM
          go_wp2_with fail
          go_roundw
          case rel => exact ⟨k + 1, by omega, by go_num, Lib.hid (by rw [HS.out]; exact HG.out.sum _), Lib.hid (HB.out.setCell (Nat.le_refl _) _)⟩
          case measure => simp [intOf]; omega
        · obtain rfl : k = 256 := by omega
          go_wp2_with (refine wpList_load_mid rfl 341 _ rfl g 6 rfl (M.map (Value.int .u8)) _ HG.out.range Tryz.underlying341 rfl HZ.out ?_; rw [← rowv_eq M])
          rw [HNN.out] at HG
          go_loopw [9, 10, 11, 58] (fun x _ _ c wr2 => ∃ k : Nat, k ≤ 256 ∧ x = .int .u8 (sumT M k) ∧ c = .int .i64 k ∧ Hid (Gen wr2 g (.slice none 0 0) n (mixL M n k)) ∧ Hid (Below g w wr2)) (fun _ _ _ c _ => 256 - (intOf c).toNat)
          case atStart => exact ⟨0, by omega, by rw [sumT_zero], rfl, Lib.hid (by rw [mixL_zero n HLM.out]; exact HG.out), Lib.hid HB.out⟩
          case round =>
            clear HG HB hk
            obtain ⟨k, hk, rfl, rfl, HG, HB⟩ := hrel
            by_cases hlt : k < 256
            · obtain ⟨m, hm⟩ : ∃ m, M[k]? = some m := ⟨_, List.getElem?_eq_getElem (by have := HLM.out; omega)⟩
              have hix := run_idx HLM.out hlt hm
              have HS := Lib.hid (sumT_succ M k hm)
              have hgd : M.getD k 0 = m := by rw [List.getD, hm]; rfl
              obtain ⟨hs0, hs1⟩ := sumT_bd HBT.out k
              have hmono := sumT_mono HBT.out (show k + 1 ≤ 256 by omega)
              rw [HNN.out, HS.out] at hmono
              have hgl := lt_of_block HG.out.blk
              have hk0 : (0 : Int) ≤ (k : Int) := by omega
              have hk1 : (k : Int) < 256 := by omega
              have hn2 : (n : Int) ≤ 100 := by omega
              have hn3 : (0 : Int) ≤ (n : Int) := by omega
              rcases HBT.out k m hm with rfl | rfl
              · have hF : Hid (finOf M n k = n) := Lib.hid (by unfold finOf; rw [hgd, if_pos rfl])
                clear hm hgd
                go_wp2_with fail
                obtain ⟨wd, hwd⟩ : ∃ wd, wd = wr.drew := ⟨_, rfl⟩
                have HB1 : Hid (Below g w wd) := Lib.hid (hwd ▸ HB.out.drew)
                have HG1 : Hid (Gen wd g (.slice none 0 0) n (mixL M n k)) := Lib.hid (HG.out.old (by rw [hwd]; rfl))
                clear HB HG
                obtain ⟨c0, c1, c2, c3, c4, c5⟩ := HG1.out.cells
                have r5 := cell_regrown c5
                clear c0 c1 c2 c3 c4 c5
                refine Kr.wp_region_T 10 [10] []
                  (by simp only [List.take_succ_cons, List.take_zero] <;> rfl) (by simp only [Kr.takeI, List.getElem?_cons_succ, List.getElem?_cons_zero] <;> rfl) mixed (by kernel_rfl) ?_
                rw [← hwd]
                have hgw : g < wd.heap.size := by rw [hwd]; exact hgl
                clear hwd hgl
                repeat (refine Kr.wpR_one rfl rfl ?_; go_big_quiet_step (fail); refine wpQuiet_nil ?_)
                refine Kr.wpR_nil ?_
                intro w4 hb4 hH
                clear hH r5
                have HG2 := Lib.hid (HG1.out.old (hb4.block _ hgw))
                have hi : (mixL M n k)[k]? = some ((mixL M n k)[k]'(by rw [mixL_len]; exact hlt)) := List.getElem?_eq_getElem _
                have cm := HG2.out.at k hi
                have fm := HG2.out.free (6 + k)
                have HB2 : Hid (Below g w w4) := Lib.hid (HB1.out.trans (hb4.mono (Nat.le_of_lt hgw)))
                clear hi HG1 HB1 hb4
                go_wp2_with fail
                go_roundw
                case rel => exact ⟨k + 1, by omega, by rw [HS.out, Int.add_zero], by go_num, Lib.hid (by rw [← mixL_succ, hF.out]; exact HG2.out.mark k _), Lib.hid (HB2.out.setCell (Nat.le_refl _) _)⟩
                case measure => simp [intOf]; omega
              · have hF : Hid (finOf M n k = sumT M k) := Lib.hid (by unfold finOf; rw [hgd, if_neg (by decide)])
                have hi : (mixL M n k)[k]? = some ((mixL M n k)[k]'(by rw [mixL_len]; exact hlt)) := List.getElem?_eq_getElem _
                have cm := HG.out.at k hi
                have fm := HG.out.free (6 + k)
                clear hm hgd hi
                go_wp2_with fail
                go_roundw
                case rel => exact ⟨k + 1, by omega, by rw [HS.out], by go_num, Lib.hid (by rw [← mixL_succ, hF.out]; exact HG.out.mark k _), Lib.hid (HB.out.setCell (Nat.le_refl _) _)⟩
                case measure => simp [intOf]; omega
            · obtain rfl : k = 256 := by omega
              rw [HM'.out] at HG
              have hgl := lt_of_block HG.out.blk
              obtain ⟨c0, c1, c2, c3, c4, c5⟩ := HG.out.cells
              have f4 := HG.out.free 4
              have hmk := run_mk n (by omega)
              go_wp2_with fail
              have hB5 : Built ((wr.setCell ⟨g, 4, none⟩ (.slice (some ⟨wr.heap.size, 0, none⟩) n n)).alloc (.cells (tcells n).toArray 448)) g wr.heap.size n M' N (K.take 0) :=
                built_new ⟨alloc_old (HG.out.table _).blk _, HG.out.len⟩ ⟨alloc_at (by simp) _⟩ hgl
              have hBl : Below g w ((wr.setCell ⟨g, 4, none⟩ (.slice (some ⟨wr.heap.size, 0, none⟩) n n)).alloc (.cells (tcells n).toArray 448)) :=
                (HB.out.setCell (Nat.le_refl _) _).alloc (by simp; omega) _
              generalize (wr.setCell ⟨g, 4, none⟩ (.slice (some ⟨wr.heap.size, 0, none⟩) n n)).alloc (.cells (tcells n).toArray 448) = w5 at hB5 hBl ⊢
              generalize wr.heap.size = tb at hB5 hgl ⊢
              have HB5 := Lib.hid hB5
              have HBl := Lib.hid hBl
              clear hB5 hBl HG HB c0 c1 c2 c3 c4 c5 f4 hmk hk hlt HLM hlM HBT HZ HM' HNN
              go_loopw [12] (fun c wr2 => ∃ j k : Nat, Hid (j = 2 * k) ∧ k ≤ K.length ∧ c = .int .i64 j ∧ Hid (Built wr2 g tb n M' N (K.take k)) ∧ Hid (Below g w wr2)) (fun c _ => N - (intOf c).toNat)
              case atStart => exact ⟨0, 0, Lib.hid rfl, by omega, rfl, Lib.hid HB5.out, Lib.hid HBl.out⟩
              case round =>
                clear HB5 HBl
                obtain ⟨i, k, hj, hk, rfl, HB5, HBl⟩ := hrel
                by_cases hlt : i < N
                · have hkl : k < K.length := by have := hj.out; have := HN.out; omega
                  obtain ⟨p, hp⟩ : ∃ p, K[k]? = some p := ⟨_, List.getElem?_eq_getElem hkl⟩
                  have HO := HK.out.below HBl.out hsl
                  have ck := HO.key k p hp
                  have cv := HO.val k p hp
                  rw [← hj.out] at ck cv
                  obtain ⟨hp0, ⟨m, hm, hmn⟩, hne⟩ := HD.out k p hp
                  have hps : p.1.size ≤ 1000 := HKS.out p (List.mem_of_getElem? hp)
                  have HKT : Hid (K.take (k + 1) = K.take k ++ [p]) := Lib.hid (by
                    rw [List.take_succ_eq_append_getElem hkl]
                    rw [List.getElem?_eq_getElem hkl] at hp
                    injection hp with hp
                    rw [hp])
                  have HM := Lib.hid hm
                  have HNE := Lib.hid hne
                  clear HO hp hm hne
                  go_wp2_with fail
                  obtain ⟨wd, hwd⟩ : ∃ wd, wd = wr.drew := ⟨_, rfl⟩
                  have HBld : Hid (Below g w wd) := Lib.hid (hwd ▸ HBl.out.drew)
                  have HB5d : Hid (Built wd g tb n M' N (K.take k)) := Lib.hid (hwd ▸ HB5.out.keep ((Below.refl _ _).drew))
                  have ck1 : wd.cell? ⟨sb, i, none⟩ = some (.string p.1) := by rw [hwd]; exact ck
                  have cv1 : wd.cell? ⟨sb, i + 1, none⟩ = some (.string p.2) := by rw [hwd]; exact cv
                  have rk := cell_regrown ck1
                  have rv := cell_regrown cv1
                  clear ck cv ck1 cv1 HBl HB5
                  have hi1 : i + 1 < N := by have := hj.out; have := HN.out; omega
                  have wa0 : (0 : Int) ≤ (i : Int) := by omega
                  have wa1 : (i : Int) < (N : Int) := by omega
                  have wa2 : (0 : Int) ≤ (i : Int) + 1 := by omega
                  have wa3 : (i : Int) + 1 < (N : Int) := by omega
                  have wa4 : ((i : Int) + 1).toNat = i + 1 := by omega
                  have wb0 : IntKind.i64.wrap ((i : Int) + 1) = (i : Int) + 1 := IntWalk.i64_in _ (by omega)
                  have wb1 : IntKind.i64.wrap ((N : Int) - (i : Int)) = (N : Int) - (i : Int) := IntWalk.i64_in _ (by omega)
                  refine Kr.wp_region_T 17 [17] []
                    (by simp only [List.take_succ_cons, List.take_zero] <;> rfl) (by simp only [Kr.takeI, List.getElem?_cons_succ, List.getElem?_cons_zero] <;> rfl) mixed (by kernel_rfl) ?_
                  rw [← hwd]
                  clear hwd
                  repeat (refine Kr.wpR_one rfl rfl ?_; go_big_quiet_step (fail); refine wpQuiet_nil ?_)
                  refine Kr.wpR_nil ?_
                  intro w4 hb4 hH
                  clear hH rk rv wa0 wa1 wa2 wa3 wa4 wb0 wb1
                  have HB6 := Lib.hid (HB5d.out.keep hb4)
                  have hgd := lt_of_block HB5d.out.gen.blk
                  have HBm := Lib.hid (HBld.out.trans (hb4.mono (Nat.le_of_lt hgd)))
                  clear HB5d HBld hb4 hgd
                  obtain ⟨Tb, q1, q2, q3, q4⟩ := HB6.out.tab
                  have hT := q4 m hmn (fun q hq e => HNE.out q hq (e.trans HM.out.symm))
                  have htl := lt_of_block q2.blk
                  have R := Lib.hid (root_add g tb n M' Tb p.1 p.2 ((N : Int) - i) (first p) m w4 HB6.out.gen q2 q1 (by omega) (by omega) hp0 hps (first_of hp0) HM.out hmn hT)
                  have HNX : Hid (∀ (w6 : World) (nb : Nat), w4.heap.size ≤ nb → Tabl w6 tb (Tb.set m (.pointer (some ⟨nb, 0, none⟩))) → Sub w6 nb (p.1.extract 1 p.1.size) p.2 ((N : Int) - i) → Fr (· = tb) w4.heap.size w4 w6 → Built w6 g tb n M' N (K.take (k + 1))) := Lib.hid (by
                    intro w6 nb e1 e2 e3 e4
                    rw [HKT.out]
                    refine Built.next HB6.out.gen hgl q1 q3 q4 HM.out hmn (fun q hq e => HNE.out q hq (e.trans HM.out.symm)) htl e1 e2 ?_ e4
                    have : (K.take k).length = k := by rw [List.length_take]; omega
                    rw [this, show (N : Int) - 2 * (k : Int) = (N : Int) - i by have := hj.out; omega]
                    exact e3)
                  have hgw := lt_of_block HB6.out.gen.blk
                  clear q1 q2 q3 q4 hT htl hp0
                  go_wp2_with fail
                  refine R.out.mono ?_
                  rintro e w6 ⟨rfl, nb, e1, e2, e3, e4⟩
                  have HB7 := Lib.hid (HNX.out w6 nb e1 e2 e3 e4)
                  have HBn := Lib.hid (HBm.out.trans (e4.below (B' := g) (fun k hk e => absurd (show k = tb from e) (by omega)) (by omega)))
                  clear e1 e2 e3 e4 hgw
                  have hi2 : (i : Int) + 2 ≤ 1002 := by omega
                  go_wp2_with fail
                  go_roundw
                  case rel =>
                    (repeat apply Exists.intro)
                    refine ⟨⟨i + 2, k + 1, Lib.hid (by have := hj.out; omega), hkl, by go_num, Lib.hid HB7.out, Lib.hid HBn.out⟩, ?_⟩
                    rfl
                  case measure => simp [intOf]; omega
                · obtain rfl : k = K.length := by have := hj.out; have := HN.out; omega
                  have HB6 : Hid (Built wr g tb n M' N K) := Lib.hid (by have := HB5.out; rwa [List.take_length] at this)
                  go_wp2_with fail
                  go_ret
                  exact ⟨g, tb, rfl, Nat.le_of_eq hg, HB6.out, hg ▸ HBl.out⟩
end Go.Proofs.YtioaigedcoapcaaGreatDoor.Gr
