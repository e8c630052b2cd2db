/- token: attr. -/
import Derived.Test.YtbdgoffbkenofaaGreatTkNm
import Derived.Test.YtbdgoffbkenofaaGreatTkK
import Derived.Test.YtbdgoffbkenofaaGreatDecW
namespace Go.Proofs.YtbdgoffbkenofaaGreat.Tk
open Go Go.RowKit Go.Proofs.YtbdgoffbkenofaaGreat.Tr
set_option linter.unusedVariables false
set_option maxRecDepth 100000

theorem results_tmp4 {fn : Func} {t u v x : Tmp} (h : fn.results = #[.tmp t, .tmp u, .tmp v, .tmp x]) (tmps : Array Value) (P : Program) (w : World) :
    (results fn tmps).run P w = .ok (.tuple #[tmps.getD t undef, tmps.getD u undef, tmps.getD v undef, tmps.getD x undef]) w := by
  simp [results, h]
def attrRet : Option (ByteArray × ByteArray × Nat) → Value
  | none => .tuple #[.string ⟨#[]⟩, .string ⟨#[]⟩, .int .i64 0, .bool false]
  | some (n, v, k) => .tuple #[.string n, .string v, .int .i64 (k : Int), .bool true]
section
variable {s : ByteArray} {a e n1 n2 e2 : Nat} {nm : ByteArray}
theorem attr_v1 (he : upT eqC s (a + 1) = e) (hn : namedP (s.extract a e) = nm) (h1 : pastP s e = n1) (h : s.size ≤ n1 ∨ bAt s n1 ≠ 61) : attrP s a = some (nm, ⟨#[]⟩, n1) := by
  subst he; subst hn; subst h1; unfold attrP; exact if_pos h
theorem attr_v2 (he : upT eqC s (a + 1) = e) (h1 : pastP s e = n1) (h : ¬ (s.size ≤ n1 ∨ bAt s n1 ≠ 61)) (h2 : pastP s (n1 + 1) = n2) (h3 : s.size ≤ n2) : attrP s a = none := by
  subst he; subst h1; subst h2; unfold attrP; exact (if_neg h).trans (if_pos h3)
theorem attr_v3 (he : upT eqC s (a + 1) = e) (h1 : pastP s e = n1) (h : ¬ (s.size ≤ n1 ∨ bAt s n1 ≠ 61)) (h2 : pastP s (n1 + 1) = n2) (h3 : ¬ s.size ≤ n2) (h4 : bAt s n2 = 34 ∨ bAt s n2 = 39) (h5 : upT (fun c => decide (c = bAt s n2)) s (n2 + 1) = e2) (h6 : s.size ≤ e2) : attrP s a = none := by
  subst he; subst h1; subst h2; subst h5; unfold attrP; exact (if_neg h).trans ((if_neg h3).trans ((if_pos h4).trans (if_pos h6)))
theorem attr_v4 (he : upT eqC s (a + 1) = e) (hn : namedP (s.extract a e) = nm) (h1 : pastP s e = n1) (h : ¬ (s.size ≤ n1 ∨ bAt s n1 ≠ 61)) (h2 : pastP s (n1 + 1) = n2) (h3 : ¬ s.size ≤ n2) (h4 : bAt s n2 = 34 ∨ bAt s n2 = 39) (h5 : upT (fun c => decide (c = bAt s n2)) s (n2 + 1) = e2) (h6 : ¬ s.size ≤ e2) : attrP s a = some (nm, Ch.decB (s.extract (n2 + 1) e2) true, e2 + 1) := by
  subst he; subst hn; subst h1; subst h2; subst h5; unfold attrP; exact (if_neg h).trans ((if_neg h3).trans ((if_pos h4).trans (if_neg h6)))
theorem attr_v5 (he : upT eqC s (a + 1) = e) (hn : namedP (s.extract a e) = nm) (h1 : pastP s e = n1) (h : ¬ (s.size ≤ n1 ∨ bAt s n1 ≠ 61)) (h2 : pastP s (n1 + 1) = n2) (h3 : ¬ s.size ≤ n2) (h4 : ¬ (bAt s n2 = 34 ∨ bAt s n2 = 39)) (h5 : upT blC s n2 = e2) : attrP s a = some (nm, Ch.decB (s.extract n2 e2) true, e2) := by
  subst he; subst hn; subst h1; subst h2; subst h5; unfold attrP; exact (if_neg h).trans ((if_neg h3).trans (if_neg h4))
end
theorem attrP_bd {s : ByteArray} {a : Nat} (ha : a < s.size) {n v : ByteArray} {k : Nat} (h : attrP s a = some (n, v, k)) : a < k ∧ k ≤ s.size := by
  have h1 : a + 1 ≤ upT eqC s (a + 1) := upT_ge _ _ _
  have h2 : upT eqC s (a + 1) ≤ s.size := upT_le _ (by omega)
  have h3 : upT eqC s (a + 1) ≤ pastP s (upT eqC s (a + 1)) := upT_ge _ _ _
  have h4 : pastP s (upT eqC s (a + 1)) ≤ s.size := upT_le _ h2
  generalize he : upT eqC s (a + 1) = e at *
  generalize hn1 : pastP s e = n1 at *
  by_cases c1 : s.size ≤ n1 ∨ bAt s n1 ≠ 61
  · rw [attr_v1 he rfl hn1 c1] at h
    injection h with h; injection h with _ h; injection h with _ h
    omega
  · have h5 : n1 + 1 ≤ pastP s (n1 + 1) := upT_ge _ _ _
    have h6 : pastP s (n1 + 1) ≤ s.size := upT_le _ (by omega)
    generalize hn2 : pastP s (n1 + 1) = n2 at *
    by_cases c2 : s.size ≤ n2
    · rw [attr_v2 he hn1 c1 hn2 c2] at h; cases h
    · by_cases c3 : bAt s n2 = 34 ∨ bAt s n2 = 39
      · have h7 : n2 + 1 ≤ upT (fun c => decide (c = bAt s n2)) s (n2 + 1) := upT_ge _ _ _
        generalize he2 : upT (fun c => decide (c = bAt s n2)) s (n2 + 1) = e2 at *
        by_cases c4 : s.size ≤ e2
        · rw [attr_v3 he hn1 c1 hn2 c2 c3 he2 c4] at h; cases h
        · rw [attr_v4 he rfl hn1 c1 hn2 c2 c3 he2 c4] at h
          injection h with h; injection h with _ h; injection h with _ h
          omega
      · have h7 : n2 ≤ upT blC s n2 := upT_ge _ _ _
        have h8 : upT blC s n2 ≤ s.size := upT_le _ h6
        rw [attr_v5 he rfl hn1 c1 hn2 c2 c3 rfl] at h
        injection h with h; injection h with _ h; injection h with _ h
        omega
theorem quote_calls (s : ByteArray) (hs : s.size ≤ 1000000) (q b a e2 : Nat) (ha : a ≤ 2000000) (he : upT (fun c => decide (c = q)) s a = e2) (W : World) (hW : W.heap[b]? = some (.cells #[.int .u8 (q : Int)] 5 (0, 0))) :
    Calls Tryz.prog 60 #[.string s, .int .i64 (a : Int), .func (.func 108) #[] #[.pointer (some ⟨b, 0, none⟩)]] W fun e w' => e = .returned (.int .i64 (e2 : Int)) ∧ Below W.heap.size W w' :=
  he ▸ upTo_calls 108 #[.pointer (some ⟨b, 0, none⟩)] (enters_of Tryz.func108 (by kernel_rfl) rfl) _ s (by omega) a (by omega) W (attr2 q b W hW)
set_option maxHeartbeats 8000000 in
theorem attr_calls (s : ByteArray) (hs : s.size ≤ 1000000) (a : Nat) (ha : a < s.size) (w : World) :
    Calls Tryz.prog 89 #[.string s, .int .i64 (a : Int)] w fun e w' => e = .returned (attrRet (attrP s a)) ∧ Below w.heap.size w w' := by
  have HU1 := Lib.hid (fun W => upTo_calls 107 #[] (enters_of Tryz.func107 (by kernel_rfl) rfl) _ s (by omega) (a + 1) (by omega) W (attr1 W))
  have h1 : a + 1 ≤ upT eqC s (a + 1) := upT_ge _ _ _
  have h2 : upT eqC s (a + 1) ≤ s.size := upT_le _ (by omega)
  have V1 := Lib.hid (fun e n1 nm => @attr_v1 s a e n1 nm)
  have V2 := Lib.hid (fun e n1 n2 => @attr_v2 s a e n1 n2)
  have V3 := Lib.hid (fun e n1 n2 e2 => @attr_v3 s a e n1 n2 e2)
  have V4 := Lib.hid (fun e n1 n2 e2 nm => @attr_v4 s a e n1 n2 e2 nm)
  have V5 := Lib.hid (fun e n1 n2 e2 nm => @attr_v5 s a e n1 n2 e2 nm)
  generalize attrP s a = R at *
  generalize upT eqC s (a + 1) = e at *
  replace V1 := Lib.hid (fun n1 nm => V1.out e n1 nm rfl)
  replace V2 := Lib.hid (fun n1 n2 => V2.out e n1 n2 rfl)
  replace V3 := Lib.hid (fun n1 n2 e2 => V3.out e n1 n2 e2 rfl)
  replace V4 := Lib.hid (fun n1 n2 e2 nm => V4.out e n1 n2 e2 nm rfl)
  replace V5 := Lib.hid (fun n1 n2 e2 nm => V5.out e n1 n2 e2 nm rfl)
  have HNM := Lib.hid (fun W => Br.named_calls (s.extract a e) (Nat.le_trans (ext_size s a e) hs) W)
  generalize namedP (s.extract a e) = nm at *
  have HP1 := Lib.hid (past_calls s (by omega) e (by omega))
  have h3 : e ≤ pastP s e := upT_ge _ _ _
  have h4 : pastP s e ≤ s.size := upT_le _ h2
  generalize pastP s e = n1 at *
  replace V1 := Lib.hid (V1.out n1 nm rfl rfl)
  replace V2 := Lib.hid (fun n2 => V2.out n1 n2 rfl)
  replace V3 := Lib.hid (fun n2 e2 => V3.out n1 n2 e2 rfl)
  replace V4 := Lib.hid (fun n2 e2 => V4.out n1 n2 e2 nm rfl rfl)
  replace V5 := Lib.hid (fun n2 e2 => V5.out n1 n2 e2 nm rfl rfl)
  have hwa : IntKind.i64.wrap ((a : Int) + 1) = (a : Int) + 1 := IntWalk.i64_in _ (by omega)
  have hwn : IntKind.i64.wrap ((n1 : Int) + 1) = (n1 : Int) + 1 := IntWalk.i64_in _ (by omega)
  have hae : (a : Int) ≤ (e : Int) := by omega
  have hes : (e : Int) ≤ (s.size : Int) := by omega
  have HS := Lib.hid hs
  have HN1 := Lib.hid h4
  clear h1 h2 h3 h4 ha hs
  go_enter Tryz.func89, Tryz.ntmps89
  go_wp2_with fail
  refine (HU1.out _).mono ?_
  rintro e' w1 ⟨rfl, hb1⟩
  have HB1 := Lib.hid hb1
  clear hb1 HU1
  go_wp2_with fail
  refine (HNM.out _).mono ?_
  rintro e' w2 ⟨rfl, hb2⟩
  have HB2 := Lib.hid (HB1.out.trans (hb2.mono HB1.out.size))
  clear hb2 HNM HB1
  go_wp2_with fail
  refine (HP1.out _).mono ?_
  rintro e' w3 ⟨rfl, hb3⟩
  have HB3 := Lib.hid (HB2.out.trans (hb3.mono HB2.out.size))
  clear hb3 HP1 HB2
  by_cases hlt : n1 < s.size
  case neg =>
    have hz : ((s.size : Int) ≤ (n1 : Int)) := by omega
    have HR := Lib.hid (V1.out (.inl (by omega)))
    clear V1 V2 V3 V4 V5 hlt
    go_wp2_with fail
    refine bodyPost_ret (results_tmp4 rfl _ _ _) rfl ?_
    exact ⟨by rw [HR.out]; rfl, HB3.out⟩
  have hz : ¬ ((s.size : Int) ≤ (n1 : Int)) := by omega
  have hbk := bAt_in hlt
  by_cases c1 : bAt s n1 = 61
  case neg =>
    have hne : ((s[n1].toNat : Int) != 61) = true := by rw [← hbk, bne, Bool.not_eq_true', beq_eq_false_iff_ne]; omega
    have HR := Lib.hid (V1.out (.inr c1))
    clear V1 V2 V3 V4 V5 c1 hbk
    go_wp2_with fail
    refine bodyPost_ret (results_tmp4 rfl _ _ _) rfl ?_
    exact ⟨by rw [HR.out]; rfl, HB3.out⟩
  have hne : ((s[n1].toNat : Int) != 61) = false := by rw [← hbk, c1]; rfl
  have hnot : ¬ (s.size ≤ n1 ∨ bAt s n1 ≠ 61) := by rw [not_or]; exact ⟨by omega, fun h => h c1⟩
  have HP2 := Lib.hid (past_calls s (by have := HS.out; omega) (n1 + 1) (by have := HS.out; omega))
  have h5 : n1 + 1 ≤ pastP s (n1 + 1) := upT_ge _ _ _
  have h6 : pastP s (n1 + 1) ≤ s.size := upT_le _ (by omega)
  generalize pastP s (n1 + 1) = n2 at *
  replace V2 := Lib.hid (V2.out n2 hnot rfl)
  replace V3 := Lib.hid (fun e2 => V3.out n2 e2 hnot rfl)
  replace V4 := Lib.hid (fun e2 => V4.out n2 e2 hnot rfl)
  replace V5 := Lib.hid (fun e2 => V5.out n2 e2 hnot rfl)
  clear V1 hnot c1 hbk
  go_wp2_with fail
  refine (HP2.out _).mono ?_
  rintro e' w4 ⟨rfl, hb4⟩
  have HB4 := Lib.hid (HB3.out.trans (hb4.mono HB3.out.size))
  clear hb4 HP2 HB3
  by_cases hlt2 : n2 < s.size
  case neg =>
    have hz : ((s.size : Int) ≤ (n2 : Int)) := by omega
    have HR := Lib.hid (V2.out (by omega))
    clear V2 V3 V4 V5 hlt2 h5 h6
    go_wp2_with fail
    refine bodyPost_ret (results_tmp4 rfl _ _ _) rfl ?_
    exact ⟨by rw [HR.out]; rfl, HB4.out⟩
  have hz2 : ¬ ((s.size : Int) ≤ (n2 : Int)) := by omega
  have hbk := bAt_in hlt2
  replace V3 := Lib.hid (fun e2 => V3.out e2 (by omega))
  replace V4 := Lib.hid (fun e2 => V4.out e2 (by omega))
  replace V5 := Lib.hid (fun e2 => V5.out e2 (by omega))
  by_cases c3 : bAt s n2 = 34 ∨ bAt s n2 = 39
  case neg =>
    have q1 : ((s[n2].toNat : Int) == 34) = false := by rw [← hbk, beq_eq_false_iff_ne]; omega
    have q2 : ((s[n2].toNat : Int) == 39) = false := by rw [← hbk, beq_eq_false_iff_ne]; omega
    have hn2w : (n2 : Int) ≤ (s.size : Int) := by omega
    have HU3 := Lib.hid (fun W => upTo_calls 109 #[] (enters_of Tryz.func109 (by kernel_rfl) rfl) _ s (by have := HS.out; omega) n2 (by have := HS.out; omega) W (attr3 W))
    have h7 : n2 ≤ upT blC s n2 := upT_ge _ _ _
    have h8 : upT blC s n2 ≤ s.size := upT_le _ h6
    generalize upT blC s n2 = e2 at *
    have HR := Lib.hid (V5.out e2 c3 rfl)
    have hk1 : (n2 : Int) ≤ (e2 : Int) := by omega
    have hk2 : (e2 : Int) ≤ (s.size : Int) := by omega
    have HD := Lib.hid (Ch.decode_calls (s.extract n2 e2) (Nat.le_trans (ext_size s n2 e2) HS.out) true)
    generalize Ch.decB (s.extract n2 e2) true = dv at *
    clear V2 V3 V4 V5 c3 h5 h6 h7 h8
    go_wp2_with fail
    have hb5 := HB4.out.alloc HB4.out.size (.cells #[.int .u8 (s[n2].toNat : Int)] 5)
    generalize w4.alloc (.cells #[.int .u8 (s[n2].toNat : Int)] 5) = w5 at *
    have HB5 := Lib.hid hb5
    clear hb5
    refine (HU3.out _).mono ?_
    rintro e' w6 ⟨rfl, hb6⟩
    have HB6 := Lib.hid (HB5.out.trans (hb6.mono HB5.out.size))
    clear hb6 HU3 HB5
    go_wp2_with fail
    refine (HD.out _).mono ?_
    rintro e' w7 ⟨rfl, hb7⟩
    have HB7 := Lib.hid (HB6.out.trans (hb7.mono HB6.out.size))
    clear hb7 HD HB6
    go_wp2_with fail
    refine bodyPost_ret (results_tmp4 rfl _ _ _) rfl ?_
    exact ⟨by rw [HR.out]; rfl, HB7.out⟩
  have hQ := alloc_new w4 (.cells #[.int .u8 (s[n2].toNat : Int)] 5)
  have hb5 := HB4.out.alloc HB4.out.size (.cells #[.int .u8 (s[n2].toNat : Int)] 5)
  have hn2w : (n2 : Int) ≤ (s.size : Int) := by omega
  have hwq : IntKind.i64.wrap ((n2 : Int) + 1) = (n2 : Int) + 1 := IntWalk.i64_in _ (by have := HS.out; omega)
  have h7 : n2 + 1 ≤ upT (fun c => decide (c = bAt s n2)) s (n2 + 1) := upT_ge _ _ _
  have h8 : upT (fun c => decide (c = bAt s n2)) s (n2 + 1) ≤ s.size := upT_le _ (by omega)
  obtain ⟨e2, he2⟩ : ∃ e2, upT (fun c => decide (c = bAt s n2)) s (n2 + 1) = e2 := ⟨_, rfl⟩
  have HU2 := Lib.hid (quote_calls s HS.out s[n2].toNat w4.heap.size (n2 + 1) e2 (by have := HS.out; omega) (by rw [← hbk]; exact he2))
  rw [he2] at h7 h8
  replace V3 := Lib.hid (V3.out e2 c3 he2)
  replace V4 := Lib.hid (V4.out e2 c3 he2)
  have hk1 : (n2 : Int) + 1 ≤ (e2 : Int) := by omega
  have hk2 : (e2 : Int) ≤ (s.size : Int) := by omega
  have hwe : IntKind.i64.wrap ((e2 : Int) + 1) = (e2 : Int) + 1 := IntWalk.i64_in _ (by have := HS.out; omega)
  have HD := Lib.hid (Ch.decode_calls (s.extract (n2 + 1) e2) (Nat.le_trans (ext_size s (n2 + 1) e2) HS.out) true)
  generalize Ch.decB (s.extract (n2 + 1) e2) true = dv at *
  have HQ := Lib.hid hQ
  have HB5 := Lib.hid hb5
  clear V2 V5 h5 h6 h7 h8 hQ hb5 he2
  rcases c3 with c3 | c3
  · have q1 : ((s[n2].toNat : Int) == 34) = true := by rw [← hbk, c3]; rfl
    have q2 : ((s[n2].toNat : Int) == 39) = false := by rw [← hbk, c3]; rfl
    clear c3 hbk
    by_cases hl : e2 < s.size
    case neg =>
      have hz3 : (s.size : Int) ≤ (e2 : Int) := by omega
      have HR := Lib.hid (V3.out (by omega))
      clear V3 V4 hl
      go_wp2_with fail
      generalize w4.alloc (.cells #[.int .u8 (s[n2].toNat : Int)] 5) = w5 at *
      refine (HU2.out _ HQ.out).mono ?_
      rintro e' w6 ⟨rfl, hb6⟩
      have HB6 := Lib.hid (HB5.out.trans (hb6.mono HB5.out.size))
      clear hb6 HU2 HB5
      go_wp2_with fail
      refine bodyPost_ret (results_tmp4 rfl _ _ _) rfl ?_
      exact ⟨by rw [HR.out]; rfl, HB6.out⟩
    have hz3 : ¬ ((s.size : Int) ≤ (e2 : Int)) := by omega
    have HR := Lib.hid (V4.out (by omega))
    clear V3 V4 hl
    go_wp2_with fail
    generalize w4.alloc (.cells #[.int .u8 (s[n2].toNat : Int)] 5) = w5 at *
    refine (HU2.out _ HQ.out).mono ?_
    rintro e' w6 ⟨rfl, hb6⟩
    have HB6 := Lib.hid (HB5.out.trans (hb6.mono HB5.out.size))
    clear hb6 HU2 HB5
    go_wp2_with fail
    refine (HD.out _).mono ?_
    rintro e' w7 ⟨rfl, hb7⟩
    have HB7 := Lib.hid (HB6.out.trans (hb7.mono HB6.out.size))
    clear hb7 HD HB6
    go_wp2_with fail
    refine bodyPost_ret (results_tmp4 rfl _ _ _) rfl ?_
    exact ⟨by rw [HR.out]; rfl, HB7.out⟩
  · have q1 : ((s[n2].toNat : Int) == 34) = false := by rw [← hbk, c3]; rfl
    have q2 : ((s[n2].toNat : Int) == 39) = true := by rw [← hbk, c3]; rfl
    clear c3 hbk
    by_cases hl : e2 < s.size
    case neg =>
      have hz3 : (s.size : Int) ≤ (e2 : Int) := by omega
      have HR := Lib.hid (V3.out (by omega))
      clear V3 V4 hl
      go_wp2_with fail
      generalize w4.alloc (.cells #[.int .u8 (s[n2].toNat : Int)] 5) = w5 at *
      refine (HU2.out _ HQ.out).mono ?_
      rintro e' w6 ⟨rfl, hb6⟩
      have HB6 := Lib.hid (HB5.out.trans (hb6.mono HB5.out.size))
      clear hb6 HU2 HB5
      go_wp2_with fail
      refine bodyPost_ret (results_tmp4 rfl _ _ _) rfl ?_
      exact ⟨by rw [HR.out]; rfl, HB6.out⟩
    have hz3 : ¬ ((s.size : Int) ≤ (e2 : Int)) := by omega
    have HR := Lib.hid (V4.out (by omega))
    clear V3 V4 hl
    go_wp2_with fail
    generalize w4.alloc (.cells #[.int .u8 (s[n2].toNat : Int)] 5) = w5 at *
    refine (HU2.out _ HQ.out).mono ?_
    rintro e' w6 ⟨rfl, hb6⟩
    have HB6 := Lib.hid (HB5.out.trans (hb6.mono HB5.out.size))
    clear hb6 HU2 HB5
    go_wp2_with fail
    refine (HD.out _).mono ?_
    rintro e' w7 ⟨rfl, hb7⟩
    have HB7 := Lib.hid (HB6.out.trans (hb7.mono HB6.out.size))
    clear hb7 HD HB6
    go_wp2_with fail
    refine bodyPost_ret (results_tmp4 rfl _ _ _) rfl ?_
    exact ⟨by rw [HR.out]; rfl, HB7.out⟩
end Go.Proofs.YtbdgoffbkenofaaGreat.Tk
