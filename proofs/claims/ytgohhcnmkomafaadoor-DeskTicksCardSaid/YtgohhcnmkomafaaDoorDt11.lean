/- The body of DeskTicks, from the contracts. -/
import Derived.Test.YtgohhcnmkomafaaDoorDt09
import Derived.Test.YtgohhcnmkomafaaDoorDt10
import Derived.Test.YtgohhcnmkomafaaDoorChecked
import Derived.Test.YtgohhcnmkomafaaDoorDt02
import Derived.Test.YtgohhcnmkomafaaDoorDt01
import Derived.Deep.Slices
import Derived.Deep.Fields
import Derived.ChangeSame
import Derived.OpenShut
import Derived.SizedLaws
namespace Go.Proofs.YtgohhcnmkomafaaDoor
set_option linter.unusedVariables false
set_option linter.unusedSimpArgs false
set_option linter.unusedVariables false
set_option linter.unusedSimpArgs false
set_option maxRecDepth 100000
open Go.RowKit
attribute [local go_sem] Oper.semAt_some
theorem ne_bool {x : Int} (h : x ≠ 0) : (x != 0) = true := by simpa using h
set_option maxHeartbeats 4000000 in
theorem ticks_bad (A : Option Addr) (n c : Nat) (p : List PNode) (B : Option Addr) (m d : Nat) (l : List Int) (mx : Int) (w : World) (hm : w.cell? ⟨0, 0, none⟩ = some (.int .i64 mx)) (h : SlN w A n p) (hn : n ≤ maxLen) (hl : Sl w B m (l.map I)) (hml : m ≤ maxLen) (hb : runErr p l ≠ 0 ∨ 40 < m) :
    Calls Tryd.prog 3 #[.slice A n c, .slice B m d] w fun e w' => e = .returned (.bool true) ∧ Ext w w' := by
  have HM := Lib.hid hm; have H := Lib.hid h; have HN := Lib.hid hn; have HL := Lib.hid hl; have HMX := Lib.hid hml
  have FR := fun W (hx : Ext w W) => frun_any A n c p B m d l W (h.keep hx.keeps) hn (hl.keep hx.keeps) hml
  have HF := Lib.hid FR
  have BG := fun W (hx : Ext w W) => deskBegun_any mx W (hx.keeps _ _ hm)
  have HB := Lib.hid BG
  clear hm h hn hl hml FR BG
  by_cases hc : checkP p = 0
  · obtain ⟨t1, t2, t3, t4⟩ := tree_of hc
    have SH := Lib.hid (show_ok A n c (treeOf p) w (by rw [← t2]; exact H.out) t1 t3 t4)
    obtain ⟨y, hy⟩ : ∃ y, y = runErr p l := ⟨_, rfl⟩
    rw [← hy] at hb
    have HY := Lib.hid hy
    clear t1 t2 t3 t4 hc hy
    by_cases h0 : y = 0
    · have h40 : ((m : Int) > 40) := by have := hb.resolve_left (fun e => e h0); omega
      subst h0
      clear hb
      go_enter Tryd.func3, Tryd.ntmps3
      go_wp2_with fail
      refine SH.out.mono ?_; rintro e w1 ⟨rfl, x1⟩
      have X1 := Lib.hid x1; clear x1
      go_wp2_with fail
      refine (HF.out w1 X1.out).mono ?_; rintro e w2 ⟨v, vs, rfl, -, x2⟩; rw [← HY.out]
      have X2 := Lib.hid (X1.out.trans x2); clear x2
      go_wp2_with fail
      refine (HB.out w2 X2.out).mono ?_; rintro e w3 ⟨rfl, x3⟩
      have X3 := Lib.hid (X2.out.trans x3); clear x3
      go_wp2
      go_ret
      exact ⟨rfl, X3.out⟩
    · have hyb := ne_bool h0
      clear hb h0
      go_enter Tryd.func3, Tryd.ntmps3
      go_wp2_with fail
      refine SH.out.mono ?_; rintro e w1 ⟨rfl, x1⟩
      have X1 := Lib.hid x1; clear x1
      go_wp2_with fail
      refine (HF.out w1 X1.out).mono ?_; rintro e w2 ⟨v, vs, rfl, -, x2⟩; rw [← HY.out]
      have X2 := Lib.hid (X1.out.trans x2); clear x2
      go_wp2_with fail
      refine (HB.out w2 X2.out).mono ?_; rintro e w3 ⟨rfl, x3⟩
      have X3 := Lib.hid (X2.out.trans x3); clear x3
      go_wp2
      go_ret
      exact ⟨rfl, X3.out⟩
  · have SH := Lib.hid (show_bad A n c p w H.out HN.out hc)
    have hr : runErr p l = checkP p := by unfold runErr; rw [if_neg hc]
    obtain ⟨y, hy⟩ : ∃ y, y = checkP p := ⟨_, rfl⟩
    rw [← hy] at hr hc
    have HY := Lib.hid hy; have HR := Lib.hid hr
    have hyb := ne_bool hc
    clear hb hc hy hr
    go_enter Tryd.func3, Tryd.ntmps3
    go_wp2_with fail
    refine SH.out.mono ?_; rintro e w1 ⟨rfl, x1⟩; rw [← HY.out]
    have X1 := Lib.hid x1; clear x1
    go_wp2_with fail
    refine (HF.out w1 X1.out).mono ?_; rintro e w2 ⟨v, vs, rfl, -, x2⟩; rw [HR.out]
    have X2 := Lib.hid (X1.out.trans x2); clear x2
    go_wp2_with fail
    refine (HB.out w2 X2.out).mono ?_; rintro e w3 ⟨rfl, x3⟩
    have X3 := Lib.hid (X2.out.trans x3); clear x3
    go_wp2
    go_ret
    exact ⟨rfl, X3.out⟩
theorem runsT_len (t : Tr) : ∀ (l : List Int) (r : RestM), (runsT t r l).length = l.length
  | [], _ => rfl
  | x :: l, r => by simp [runsT, runsT_len t l]
theorem step_turnT {p : List PNode} {r : RestM} {x : Int} (h : checkR p r = 0) (h0 : 0 ≤ x) (h8 : x < 8) : stepM p r x = (turnR (treeOf p) r x, (turnM (treeOf p) r x).1, 0) := by
  unfold stepM; rw [if_neg (by simpa using h), if_neg (by omega)]
theorem fresh_checkT {p : List PNode} (h : checkP p = 0) : checkR p (freshM p.length) = 0 := by
  unfold checkR
  rw [if_neg (by simpa using h), if_neg (by simp [freshM])]
  rw [if_neg]
  simp only [Bool.not_eq_true, List.any_eq_false, Bool.and_eq_true, not_and]
  intro y hy h1
  have := (List.of_mem_zip hy).1
  simp [freshM] at this
  rw [this.2] at h1; cases h1
theorem bit_and : ∀ x, x < 8 → ∀ q, q < 3 → (bits BinOp.and IntKind.i64 (((x : Nat) : Int) / 2 ^ q) 1 == 1) = decide (x / 2 ^ q % 2 = 1) := by decide
theorem xyz_ext (q : Nat) (h : q < 3) : (⟨#[120, 121, 122]⟩ : ByteArray).extract q (q + 1) = ⟨#[UInt8.ofNat (120 + q)]⟩ := by
  have : q = 0 ∨ q = 1 ∨ q = 2 := by omega
  rcases this with rfl | rfl | rfl <;> rfl
theorem abc_ext (q : Nat) (h : q < 3) : (⟨#[65, 66, 67]⟩ : ByteArray).extract q (q + 1) = ⟨#[UInt8.ofNat (65 + q)]⟩ := by
  have : q = 0 ∨ q = 1 ∨ q = 2 := by omega
  rcases this with rfl | rfl | rfl <;> rfl
set_option maxHeartbeats 8000000 in
theorem ticks_good (A : Option Addr) (n c : Nat) (p : List PNode) (B : Option Addr) (m d : Nat) (l : List Int) (mx : Int) (w : World) (hm : w.cell? ⟨0, 0, none⟩ = some (.int .i64 mx)) (h : SlN w A n p) (hn : n ≤ maxLen) (hl : Sl w B m (l.map I)) (hml : m ≤ 40) (hb : runErr p l = 0) :
    Calls Tryd.prog 3 #[.slice A n c, .slice B m d] w fun e w' => e = .returned (.bool true) ∧ Ext w w' := by
  obtain ⟨hc, htm⟩ := runErr_ok hb
  obtain ⟨t1, t2, t3, t4⟩ := tree_of hc
  have hlm : l.length = m := hl.len
  have hx8 : ∀ x ∈ l, 0 ≤ x ∧ x < 8 := fun x hx => by have := (timesM_rangeF htm).2 x hx; omega
  have hrows : runRows p l = runsT (treeOf p) (freshM (treeOf p).size) l := by unfold runRows; rw [if_pos hb]
  obtain ⟨t, ht⟩ : ∃ t, t = treeOf p := ⟨_, rfl⟩
  rw [← ht] at t1 t2 t3 t4 hrows
  have hpz : p.length = t.size := by rw [t2, flat_size]
  have htl : (textT t).length ≤ 4096 := by have := text_len t; omega
  have TP := Lib.hid (ticks_play t1 t4 t3 (by omega : l.length ≤ 40) hx8 htl)
  have SH := Lib.hid (show_ok A n c t w (by rw [← t2]; exact h) t1 t3 t4)
  have hmm : m ≤ maxLen := by unfold maxLen; omega
  have FR := fun W (hx : Ext w W) => frun_any A n c p B m d l W (h.keep hx.keeps) hn (hl.keep hx.keeps) hmm
  rw [hb, hrows] at FR
  have HF := Lib.hid FR
  have HB := Lib.hid (fun W (hx : Ext w W) => deskBegun_any mx W (hx.keeps _ _ hm))
  have HM := Lib.hid hm; have H := Lib.hid h; have HN := Lib.hid hn; have HL := Lib.hid hl; have HC := Lib.hid hc; have HT := Lib.hid ht; have HPZ := Lib.hid hpz; have HLM := Lib.hid hlm; have HX8 := Lib.hid hx8; have HTL := Lib.hid htl
  have hmi : ¬ ((m : Int) > 40) := by omega
  have HRL := Lib.hid ((runsT_len t l (freshM t.size)).trans hlm)
  obtain ⟨rows, hrs⟩ : ∃ r, r = runsT t (freshM t.size) l := ⟨_, rfl⟩
  rw [← hrs] at HF HRL
  have HRS := Lib.hid hrs
  clear hm h hn hl FR hb hc htm t1 t2 t3 t4 hx8 ht hlm hpz htl hmm hrows hrs
  go_enter Tryd.func3, Tryd.ntmps3
  go_wp2_with fail
  refine SH.out.mono ?_; rintro e w1 ⟨rfl, x1⟩
  have X1 := Lib.hid x1; clear x1
  go_wp2_with fail
  refine (HF.out w1 X1.out).mono ?_; rintro e w2 ⟨v, vs, rfl, hown, x2⟩
  have X2 := Lib.hid (X1.out.trans x2)
  obtain ⟨A9, c9, rfl, hrc1, hrc2, hsr⟩ := hown.slice
  have HSR := Lib.hid hsr
  rw [HRL.out] at HSR ⊢
  clear x2 hsr hown hrc1 hrc2
  go_wp2_with fail
  go_loopw [9, 10] (fun sv i wr => ∃ k : Nat, k ≤ m ∧ i = .int .i64 k ∧ wr = w2 ∧ sv = S (scriptT (l.take k))) (fun _ i _ => m - (intOf i).toNat)
  case atStart => exact ⟨0, Nat.zero_le _, rfl, rfl, rfl⟩
  case round =>
    obtain ⟨k, hk, rfl, rfl, rfl⟩ := hrel
    by_cases hlt : k < m
    · have hlti : ((k : Int) < m) := by omega
      obtain ⟨vb, vo, x, rfl, hv0, hvx⟩ := HL.out.at_ hlt
      have hxx := HX8.out x (List.mem_of_getElem? hvx)
      have hv1 := X2.out.keeps _ _ hv0
      have hsl := script_len (l.take k) (fun y hy => HX8.out y (List.mem_of_mem_take hy))
      have hsl2 : (scriptT (l.take k)).length ≤ 440 := by rw [List.length_take] at hsl; omega
      have hnx : scriptT (l.take (k + 1)) = scriptT (l.take k) ++ (tickT x ++ [10]) := by rw [take_snoc hvx, script_snoc]
      obtain ⟨xn, rfl⟩ : ∃ xn : Nat, x = xn := ⟨x.toNat, by omega⟩
      have hx8n : xn < 8 := by omega
      obtain ⟨a, ha⟩ : ∃ a, a = scriptT (l.take k) := ⟨_, rfl⟩
      rw [← ha] at hsl2 hnx ⊢
      have ha1 : (⟨a.toArray⟩ : ByteArray) ++ ⟨#[116, 105, 99, 107]⟩ = ⟨(a ++ tickB).toArray⟩ := str_app a tickB
      have hl1 : ¬ (9223372036854775807 < a.length + 4) := by omega
      have HNX := Lib.hid hnx
      clear hnx hvx hsl ha hv0
      go_wp2_with fail
      go_loopw [9, 11] (fun sv j wi => ∃ q : Nat, q ≤ 3 ∧ j = .int .i64 q ∧ wi = wr ∧ sv = S (a ++ tickB ++ inPart xn q)) (fun _ j _ => 3 - (intOf j).toNat)
      case atStart => exact ⟨0, by omega, rfl, rfl, by simp [inPart]⟩
      case round =>
        obtain ⟨q, hq, rfl, rfl, rfl⟩ := hrel
        have hnq := inPart_next xn q
        have hlq := inPart_len xn q
        obtain ⟨b, hb⟩ : ∃ b, b = a ++ tickB ++ inPart xn q := ⟨_, rfl⟩
        have hbl : b.length ≤ 450 := by rw [hb]; simp only [List.length_append, tickB, List.length_cons, List.length_nil]; omega
        rw [← hb]
        have HBB := Lib.hid hb; have HNQ := Lib.hid hnq
        clear hb hnq hlq
        by_cases hq3 : q < 3
        · have ha2 : (⟨b.toArray⟩ : ByteArray) ++ ⟨#[32]⟩ = ⟨(b ++ [32]).toArray⟩ := str_app b [32]
          have hl2 : ¬ (9223372036854775807 < b.length + 1) := by omega
          have hl3 : ¬ (9223372036854775807 < b.length + 1 + 1) := by omega
          have hba := bit_and xn hx8n q hq3
          have hxe := xyz_ext q hq3
          obtain ⟨cx, hcx⟩ : ∃ c, c = UInt8.ofNat (120 + q) := ⟨_, rfl⟩
          rw [← hcx] at hxe
          have HCX := Lib.hid hcx
          have ha3 : (⟨(b ++ [32]).toArray⟩ : ByteArray) ++ ⟨#[cx]⟩ = ⟨(b ++ [32] ++ [cx]).toArray⟩ := str_app (b ++ [32]) [cx]
          clear hcx
          by_cases hbit : xn / 2 ^ q % 2 = 1
          · rw [decide_eq_true hbit] at hba
            have HNQ2 : Hid (inPart xn (q + 1) = inPart xn q ++ [32, cx]) := Lib.hid (by rw [HNQ.out, if_pos hbit, HCX.out])
            clear hbit
            go_wp2
            go_roundw
            case rel => exact ⟨q + 1, by omega, by go_num, by (first | trivial | rfl), by rw [HNQ2.out, ← List.append_assoc, ← HBB.out]⟩
            case measure => simp [intOf]; omega
          · rw [decide_eq_false hbit] at hba
            have HNQ2 : Hid (inPart xn (q + 1) = inPart xn q) := Lib.hid (by rw [HNQ.out, if_neg hbit, List.append_nil])
            clear hbit
            go_wp2
            go_roundw
            case rel => exact ⟨q + 1, by omega, by go_num, by (first | trivial | rfl), by rw [HNQ2.out, ← HBB.out]⟩
            case measure => simp [intOf]; omega
        · obtain rfl : q = 3 := by omega
          have ha2 : (⟨b.toArray⟩ : ByteArray) ++ ⟨#[10]⟩ = ⟨(b ++ [10]).toArray⟩ := str_app b [10]
          have hl2 : ¬ (9223372036854775807 < b.length + 1) := by omega
          have HBN : Hid (scriptT (l.take (k + 1)) = b ++ [10]) := Lib.hid (by rw [HNX.out, HBB.out, inPart_all xn hx8n, tickT]; simp)
          go_wp2
          go_roundw
          case rel => exact ⟨k + 1, by omega, by go_num, by (first | trivial | rfl), by rw [HBN.out]⟩
          case measure => simp [intOf]; omega
    · obtain rfl : k = m := by omega
      have htk : l.take k = l := List.take_of_length_le (by rw [HLM.out]; omega)
      rw [htk]
      have hlti : ¬ ((k : Int) < k) := by omega
      have hsl := script_len l HX8.out
      have PL := dplay_any (textT t) (scriptT l) mx wr (X2.out.keeps _ _ HM.out) (by have := HTL.out; unfold maxLen; omega) (by have := HLM.out; unfold maxLen; omega)
      rw [TP.out.1, TP.out.2] at PL
      have HPL := Lib.hid PL
      clear htk hsl PL HF
      go_wp2_with fail
      refine HPL.out.mono ?_; rintro e w3 ⟨rfl, x3⟩
      have X3 := Lib.hid (X2.out.trans x3); have HSR3 := Lib.hid (HSR.out.keep x3.keeps)
      have hwb := walkBegin_any A n c p w3 (H.out.keep (X2.out.trans x3).keeps) HN.out
      have hbm : beginM p = (freshM p.length, 0) := by unfold beginM; rw [if_neg (by rw [HC.out]; simp)]
      rw [hbm] at hwb
      have HWB := Lib.hid hwb
      clear x3 hwb hbm
      go_wp2_with fail
      refine HWB.out.mono ?_; rintro e w4 ⟨fr, WA, wn, wc', OA, on, oc, rfl, hrc, -, -, x4⟩
      have X4 := Lib.hid (X3.out.trans x4); have HSR4 := Lib.hid (HSR3.out.keep x4.keeps); have HRC := Lib.hid hrc
      clear x4 hrc HSR HSR3
      go_wp2_with fail
      obtain ⟨w5, hw5⟩ : ∃ y, y = w4.alloc (.cells #[Bv fr, .slice WA wn wc', .slice OA on oc] 34) := ⟨_, rfl⟩
      have hx5 : Ext w4 w5 := by rw [hw5]; exact (Ext.refl _).alloc _
      have hb5 : Box w5 w4.heap.size 34 [Bv fr, .slice WA wn wc', .slice OA on oc] := by rw [hw5]; exact Box.new w4 _ _
      have HX5 := Lib.hid hx5; have HB5 := Lib.hid hb5; have HRC5 := Lib.hid (HRC.out.keep hx5.keeps)
      obtain ⟨D, hD⟩ : ∃ D, D = w4.heap.size := ⟨_, rfl⟩
      have HD := Lib.hid hD
      rw [← hw5]
      rw [← hD] at HB5 ⊢
      have hck : checkR p (freshM p.length) = 0 := fresh_checkT HC.out
      have HCK := Lib.hid hck
      have HPF : Hid (freshM p.length = freshM t.size) := Lib.hid (by rw [HPZ.out])
      obtain ⟨goal, hgoal⟩ : ∃ g, g = wantT t (freshM t.size) l := ⟨_, rfl⟩
      rw [← hgoal]
      have HGO := Lib.hid hgoal
      clear hw5 hx5 hb5 hD hck hgoal HRC HWB HPL hmi
      go_loopw [14, 17] (fun wv i wr => ∃ (q : Nat) (a : List UInt8) (r : RestM) (fr : Bool) (WA : Option Addr) (wn wk : Nat) (OA : Option Addr) (on oc : Nat), q ≤ k ∧ i = .int .i64 q ∧ wv = S a ∧ a.length ≤ 400 * q ∧ Ext w4 wr ∧ Box wr D 34 [Bv fr, .slice WA wn wk, .slice OA on oc] ∧ RestC wr fr WA wn wk OA on oc r ∧ checkR p r = 0 ∧
        a ++ wantT t r (l.drop q) = goal ∧ rows.drop q = runsT t r (l.drop q)) (fun _ i _ => k - (intOf i).toNat)
      case atStart => exact ⟨0, [], freshM p.length, fr, WA, wn, wc', OA, on, oc, Nat.zero_le _, rfl, rfl, Nat.zero_le _, HX5.out, HB5.out, HRC5.out, HCK.out, by rw [HPF.out]; exact HGO.out.symm, by rw [HPF.out]; exact HRS.out⟩
      case round =>
        obtain ⟨q, a, r, fr, WA, wn, wk, OA, on, oc, hq, rfl, rfl, hal, hext, hbx, hrc, hckr, hM, hR⟩ := hrel
        by_cases hlt2 : q < k
        · have hlti2 : ((q : Int) < k) := by omega
          obtain ⟨vb, vo, x, rfl, hv0, hvx⟩ := HL.out.at_ hlt2
          have hxx := HX8.out x (List.mem_of_getElem? hvx)
          have hv1 := (X4.out.trans hext).keeps _ _ hv0
          have hst := step_turnT hckr hxx.1 hxx.2
          rw [← HT.out] at hst
          have hckn : checkR p (turnR t r x) = 0 := by have := step_ok (p := p) (r := r) (ins := x) (by rw [hst]); rw [hst] at this; exact this.1
          obtain ⟨hql, hqe⟩ := List.getElem?_eq_some_iff.1 hvx
          have hdl : l.drop q = x :: l.drop (q + 1) := by rw [List.drop_eq_getElem_cons hql, hqe]
          rw [hdl] at hM hR
          rw [wantT] at hM
          rw [runsT] at hR
          have hrq : rows[q]? = some ((turnR t r x).outs.map bI) := by
            have := congrArg List.head? hR
            rw [List.head?_drop] at this
            simpa using this
          have hrn : rows.drop (q + 1) = runsT t (turnR t r x) (l.drop (q + 1)) := by
            have := congrArg List.tail hR
            rw [List.tail_drop] at this
            simpa using this
          have TS : ∀ W, Ext wr W → Calls Tryd.prog 9 #[.slice A n c, restV fr WA wn wk OA on oc, I x] W fun e w' => RestB W w' e (turnR t r x) (turnM t r x).1 0 := fun W hx => by
            have h1 := walkStep_any A n c p fr WA wn wk OA on oc r x W (H.out.keep ((X4.out.trans hext).trans hx).keeps) (hrc.keep hx.keeps) HN.out
            rw [hst] at h1
            exact h1
          have z0 : wr.cell? ⟨D, 0, none⟩ = some (Bv fr) := (hbx.cell 0).trans rfl
          have z1 : wr.cell? ⟨D, 1, none⟩ = some (.slice WA wn wk) := (hbx.cell 1).trans rfl
          have z2 : wr.cell? ⟨D, 2, none⟩ = some (.slice OA on oc) := (hbx.cell 2).trans rfl
          have HTS := Lib.hid TS; have HEX := Lib.hid hext; have HBX := Lib.hid hbx; have HRC := Lib.hid hrc; have HCKN := Lib.hid hckn; have HM2 := Lib.hid hM; have HRQ := Lib.hid hrq; have HRN := Lib.hid hrn; have HAL := Lib.hid hal
          clear TS hext hbx hrc hckr hckn hM hR hrq hrn hal hdl hvx hst hql hqe hv0
          have hmx : Tryd.prog.follows .mixedOrders = true := by kernel_rfl
          go_upto_region 24 with fail
          go_cut [18, 19, 20] (fun s18 s19 s20 wx => ∃ (D2 : Nat) (fr' : Bool) (WA' : Option Addr) (wn' wk' : Nat) (OA' : Option Addr) (on' oc' : Nat), s18 = .pointer (some ⟨D2, 0, none⟩) ∧ s19 = .bool (turnM t r x).1 ∧ s20 = I 0 ∧ Ext wr wx ∧ Box wx D2 34 [Bv fr', .slice WA' wn' wk', .slice OA' on' oc'] ∧ RestC wx fr' WA' wn' wk' OA' on' oc' (turnR t r x) ∧ (∀ a, WA' = some a → D ≠ a.block) ∧ (∀ a, OA' = some a → D ≠ a.block))
          case first =>
            have hlD := HBX.out.lt
            have hx0 : Ext wr ((wr.alloc (.cells #[.bool false, .slice none 0 0, .slice none 0 0] 34)).drew) := ((Ext.refl wr).alloc _).drew
            have hb0 : Box ((wr.alloc (.cells #[.bool false, .slice none 0 0, .slice none 0 0] 34)).drew) wr.heap.size 34 [.bool false, .slice none 0 0, .slice none 0 0] := Box.new wr _ _
            have kk1 := hx0.keeps _ _ hv1
            have kk2 := hx0.keeps _ _ z0
            have kk3 := hx0.keeps _ _ z1
            have kk4 := hx0.keeps _ _ z2
            have hvne : vb ≠ wr.heap.size := Nat.ne_of_lt (lt_of_cell hv1)
            have hDne : D ≠ wr.heap.size := Nat.ne_of_lt hlD
            have HX0 := Lib.hid hx0; have HB0 := Lib.hid hb0
            have T2 := (HTS.out _ hx0).mono (R' := fun e w' => RestB ((wr.alloc (.cells #[.bool false, .slice none 0 0, .slice none 0 0] 34)).drew) w' e (turnR t r x) (turnM t r x).1 0 ∧ (w'.cell? ⟨wr.heap.size, 0, none⟩ = some (.bool false) ∧ w'.cell? ⟨wr.heap.size, 1, none⟩ = some (.slice none 0 0) ∧ w'.cell? ⟨wr.heap.size, 2, none⟩ = some (.slice none 0 0)) ∧ (∀ j, w'.frozen? ⟨wr.heap.size, j, none⟩ = false) ∧ Hid (Box w' wr.heap.size 34 [.bool false, .slice none 0 0, .slice none 0 0])) (fun e w' h => ⟨h, by
              obtain ⟨_, _, _, _, _, _, _, _, _, _, _, hx⟩ := h
              have hb := HB0.out.ext hx
              exact ⟨⟨(hb.cell 0).trans rfl, (hb.cell 1).trans rfl, (hb.cell 2).trans rfl⟩, hb.free, hb⟩⟩)
            have HT2 := Lib.hid T2
            clear hx0 hb0 T2
            go_region_with
              (first
                | (go_at_call 9; (with_reducible refine HT2.out.mono ?_); rintro e wz ⟨⟨fr', WA', wn', wk', OA', on', oc', rfl, hrc', hn1, hn2, xz⟩, ⟨y0, y1, y2⟩, yf, hby⟩)
                | (go_at_call 9; (with_reducible refine (HTS.out _ (Ext.refl wr).drew).mono ?_); rintro e wz ⟨fr', WA', wn', wk', OA', on', oc', rfl, hrc', hn1, hn2, xz⟩))
            all_goals go_wp2_with fail
            all_goals go_meet
            all_goals
              first
              | (have hlt9 := HB0.out.lt
                 have d1 : ∀ a, WA' = some a → wr.heap.size ≠ a.block := fun a ha => Nat.ne_of_lt (Nat.lt_of_lt_of_le hlt9 (hn1 a ha))
                 have d2 : ∀ a, OA' = some a → wr.heap.size ≠ a.block := fun a ha => Nat.ne_of_lt (Nat.lt_of_lt_of_le hlt9 (hn2 a ha))
                 exact ⟨wr.heap.size, fr', WA', wn', wk', OA', on', oc', rfl, rfl, rfl, (((HX0.out.trans xz).setCell (p := ⟨wr.heap.size, 0, none⟩) (Nat.le_refl _) _).setCell (p := ⟨wr.heap.size, 1, none⟩) (Nat.le_refl _) _).setCell (p := ⟨wr.heap.size, 2, none⟩) (Nat.le_refl _) _, ((hby.out.set 0 _).set 1 _).set 2 _, ((hrc'.far' d1 d2 _).far' d1 d2 _).far' d1 d2 _, fun a ha => Nat.ne_of_lt (Nat.lt_of_lt_of_le (Nat.lt_of_lt_of_le hlD HX0.out.size) (hn1 a ha)), fun a ha => Nat.ne_of_lt (Nat.lt_of_lt_of_le (Nat.lt_of_lt_of_le hlD HX0.out.size) (hn2 a ha))⟩)
              | exact ⟨wz.heap.size, fr', WA', wn', wk', OA', on', oc', rfl, rfl, rfl, (((Ext.refl wr).drew).trans xz).alloc _, Box.new wz _ _, hrc'.keep ((Ext.refl wz).alloc _).keeps, fun a ha => Nat.ne_of_lt (Nat.lt_of_lt_of_le (Nat.lt_of_lt_of_le hlD (Ext.refl wr).drew.size) (hn1 a ha)), fun a ha => Nat.ne_of_lt (Nat.lt_of_lt_of_le (Nat.lt_of_lt_of_le hlD (Ext.refl wr).drew.size) (hn2 a ha))⟩
          case rest =>
            obtain ⟨D2, fr', WA', wn', wk', OA', on', oc', rfl, rfl, rfl, hx6, hb6, hr6, hw6, ho6⟩ := hcut
            have HW6 := Lib.hid hw6; have HO6 := Lib.hid ho6
            clear hw6 ho6
            rename World => w6
            have hb6D := HBX.out.ext hx6
            have hs6 := HSR4.out.keep (HEX.out.trans hx6).keeps
            obtain ⟨vb9, vo9, A', c', rfl, hvq, hsq, -, -⟩ := hs6.2 q _ HRQ.out
            have hol : (turnR t r x).outs.length = 3 := (turn_len t r x).2
            obtain ⟨os, hos⟩ : ∃ os, os = (turnR t r x).outs := ⟨_, rfl⟩
            obtain ⟨ov, hov⟩ : ∃ o, o = (turnM t r x).1 := ⟨_, rfl⟩
            rw [← hos] at hol hvq hsq
            rw [← hov]
            have HM3 := HM2.out
            rw [← hos, ← hov] at HM3
            have HMM := Lib.hid HM3
            rw [List.length_map, hol] at hvq hsq
            have HOS := Lib.hid hos; have HSQ := Lib.hid hsq; have HOL := Lib.hid hol
            have HX6 := Lib.hid hx6; have HB6 := Lib.hid hb6; have HB6D := Lib.hid hb6D; have HR6 := Lib.hid hr6
            have d0 : w6.cell? ⟨D2, 0, none⟩ = some (Bv fr') := (hb6.cell 0).trans rfl
            have d1 : w6.cell? ⟨D2, 1, none⟩ = some (.slice WA' wn' wk') := (hb6.cell 1).trans rfl
            have d2 : w6.cell? ⟨D2, 2, none⟩ = some (.slice OA' on' oc') := (hb6.cell 2).trans rfl
            have e0 : w6.cell? ⟨D, 0, none⟩ = some (Bv fr) := (hb6D.cell 0).trans rfl
            have e1 : w6.cell? ⟨D, 1, none⟩ = some (.slice WA wn wk) := (hb6D.cell 1).trans rfl
            have e2 : w6.cell? ⟨D, 2, none⟩ = some (.slice OA on oc) := (hb6D.cell 2).trans rfl
            have ef := hb6D.free
            have df := hb6.free
            clear hx6 hb6 hb6D hr6 hos hov hsq hol hs6 HM3 HM2 HTS z0 z1 z2 hv1 HRC HBX
            go_wp2_with fail
            go_loopw [21, 22] (fun sv j wi => ∃ y : Nat, y ≤ 3 ∧ j = .int .i64 y ∧ wi = w6 ∧ sv = S (lineW (outW (os.take y) 0))) (fun _ j _ => 3 - (intOf j).toNat)
            case atStart => exact ⟨0, by omega, rfl, rfl, rfl⟩
            case round =>
              obtain ⟨y, hy, rfl, rfl, rfl⟩ := hrel
              have hlen0 : (lineW (outW (os.take y) 0)).length ≤ 15 := by
                obtain ⟨h1, h2⟩ := outW_len (os.take y) 0
                have h3 := lineW_len h2
                rw [List.length_take] at h1
                omega
              obtain ⟨p0, hp0⟩ : ∃ p, p = lineW (outW (os.take y) 0) := ⟨_, rfl⟩
              rw [← hp0] at hlen0 ⊢
              by_cases hy3 : y < 3
              · obtain ⟨b2, o2, z, rfl, hcz, hz⟩ := HSQ.out.at_ hy3
                obtain ⟨bt, hbt, rfl⟩ := Option.map_eq_some_iff.1 (by rw [List.getElem?_map] at hz; exact hz)
                have hsn : lineW (outW (os.take (y + 1)) 0) = p0 ++ (if bt then [32, UInt8.ofNat (65 + y)] else []) := by
                  have hty : (os.take y).length = y := by rw [List.length_take, HOL.out]; omega
                  rw [hp0, take_snoc hbt, outW_snoc, hty]
                  cases bt
                  · simp
                  · simp [lineW]
                have HSN := Lib.hid hsn
                clear hp0 hsn hz hbt d0 d1 d2 e0 e1 e2 ef df
                cases bt
                · simp only [bI, Bool.false_eq_true, if_false] at hcz
                  go_wp2
                  go_roundw
                  case rel => exact ⟨y + 1, by omega, by go_num, by (first | trivial | rfl), by rw [HSN.out]; simp⟩
                  case measure => simp [intOf]; omega
                · simp only [bI, if_true] at hcz
                  have hxe := abc_ext y hy3
                  obtain ⟨cx, hcx⟩ : ∃ c, c = UInt8.ofNat (65 + y) := ⟨_, rfl⟩
                  rw [← hcx] at hxe
                  have HCX := Lib.hid hcx
                  have ha2 : (⟨p0.toArray⟩ : ByteArray) ++ ⟨#[32]⟩ = ⟨(p0 ++ [32]).toArray⟩ := str_app p0 [32]
                  have ha3 : (⟨(p0 ++ [32]).toArray⟩ : ByteArray) ++ ⟨#[cx]⟩ = ⟨(p0 ++ [32] ++ [cx]).toArray⟩ := str_app (p0 ++ [32]) [cx]
                  have hl2 : ¬ (9223372036854775807 < p0.length + 1) := by omega
                  have hl3 : ¬ (9223372036854775807 < p0.length + 1 + 1) := by omega
                  clear hcx
                  go_wp2
                  go_roundw
                  case rel => exact ⟨y + 1, by omega, by go_num, by (first | trivial | rfl), by rw [HSN.out, if_pos rfl, HCX.out]⟩
                  case measure => simp [intOf]; omega
              · obtain rfl : y = 3 := by omega
                have htk : os.take 3 = os := List.take_of_length_le (by rw [HOL.out]; omega)
                rw [htk] at hp0
                have HAL2 : Hid (a.length ≤ 16000) := Lib.hid (by have := HAL.out; omega)
                have har : ∀ G : List UInt8, (⟨a.toArray⟩ : ByteArray) ++ ⟨G.toArray⟩ = ⟨(a ++ G).toArray⟩ := fun G => str_app a G
                have HAR := Lib.hid har
                have FIN : ∀ G : List UInt8, G.length ≤ 30 → G = listedT (tickW os ov) → ((a ++ G ++ [10]).length ≤ 400 * (q + 1) ∧ (a ++ G ++ [10]) ++ wantT t (turnR t r x) (l.drop (q + 1)) = goal) := fun G hG hGe => ⟨by have := HAL.out; simp only [List.length_append, List.length_singleton]; omega, by rw [← HMM.out, ← hGe]; simp⟩
                have HFIN := Lib.hid FIN
                have hli := listed_line (tickW os ov)
                have HLI := Lib.hid hli
                have HP0 := Lib.hid hp0
                have RELF : Ext w4 ((((wr.setCell ⟨D, 0, none⟩ (Bv fr')).setCell ⟨D, 1, none⟩ (.slice WA' wn' wk')).setCell ⟨D, 2, none⟩ (.slice OA' on' oc'))) ∧ Box (((wr.setCell ⟨D, 0, none⟩ (Bv fr')).setCell ⟨D, 1, none⟩ (.slice WA' wn' wk')).setCell ⟨D, 2, none⟩ (.slice OA' on' oc')) D 34 [Bv fr', .slice WA' wn' wk', .slice OA' on' oc'] ∧ RestC (((wr.setCell ⟨D, 0, none⟩ (Bv fr')).setCell ⟨D, 1, none⟩ (.slice WA' wn' wk')).setCell ⟨D, 2, none⟩ (.slice OA' on' oc')) fr' WA' wn' wk' OA' on' oc' (turnR t r x) := by
                  have hwD : w4.heap.size ≤ D := by rw [HD.out]; exact Nat.le_refl _
                  exact ⟨(((HEX.out.trans HX6.out).setCell (p := ⟨D, 0, none⟩) hwD _).setCell (p := ⟨D, 1, none⟩) hwD _).setCell (p := ⟨D, 2, none⟩) hwD _, ((HB6D.out.set 0 _).set 1 _).set 2 _, ((HR6.out.far' HW6.out HO6.out _).far' HW6.out HO6.out _).far' HW6.out HO6.out _⟩
                have HRF := Lib.hid RELF
                clear har FIN hli hp0 htk RELF hvq
                cases ov
                · by_cases hpe : p0 = []
                  · subst hpe
                    have hgx : ([45] : List UInt8) = listedT (tickW os false) := by rw [HLI.out, show tickW os false = outW os 0 from by simp [tickW], ← HP0.out]; rfl
                    obtain ⟨f1, f2⟩ := HFIN.out [45] (by decide) hgx
                    have F1 := Lib.hid f1; have F2 := Lib.hid f2
                    have hx2 : (⟨#[32, 45]⟩ : ByteArray).extract 1 2 = ⟨#[45]⟩ := rfl
                    have ha1 : (⟨a.toArray⟩ : ByteArray) ++ ⟨#[45]⟩ = ⟨(a ++ [45]).toArray⟩ := str_app a [45]
                    have ha2 : (⟨(a ++ [45]).toArray⟩ : ByteArray) ++ ⟨#[10]⟩ = ⟨(a ++ [45] ++ [10]).toArray⟩ := str_app (a ++ [45]) [10]
                    have hl2 : ¬ (9223372036854775807 < a.length + 1) := by have := HAL2.out; omega
                    have hl3 : ¬ (9223372036854775807 < a.length + 1 + 1) := by have := HAL2.out; omega
                    clear f1 f2 hgx
                    go_wp2
                    go_roundw
                    case rel => exact ⟨q + 1, a ++ [45] ++ [10], turnR t r x, fr', WA', wn', wk', OA', on', oc', by omega, by go_num, by simp, F1.out, HRF.out.1, HRF.out.2.1, HRF.out.2.2, HCKN.out, F2.out, HRN.out⟩
                    case measure => simp [intOf]; omega
                  · have hgx : p0.drop 1 = listedT (tickW os false) := by rw [HLI.out, show tickW os false = outW os 0 from by simp [tickW], ← HP0.out, if_neg hpe]
                    have hpos : 1 ≤ p0.length := List.length_pos_iff.2 hpe
                    obtain ⟨G, hG⟩ : ∃ G, G = p0.drop 1 := ⟨_, rfl⟩
                    have hGl : G.length ≤ 30 := by rw [hG, List.length_drop]; omega
                    rw [← hG] at hgx
                    obtain ⟨f1, f2⟩ := HFIN.out G hGl hgx
                    have F1 := Lib.hid f1; have F2 := Lib.hid f2
                    have hx2 : (⟨p0.toArray⟩ : ByteArray).extract 1 p0.length = ⟨G.toArray⟩ := by rw [ba_extract, List.take_length, hG]
                    have hie : p0.isEmpty = false := by cases p0 with | nil => exact absurd rfl hpe | cons _ _ => rfl
                    have hbe : (p0 == []) = false := beq_eq_false_iff_ne.2 hpe
                    have ha1 : (⟨a.toArray⟩ : ByteArray) ++ ⟨G.toArray⟩ = ⟨(a ++ G).toArray⟩ := str_app a G
                    have ha2 : (⟨(a ++ G).toArray⟩ : ByteArray) ++ ⟨#[10]⟩ = ⟨(a ++ G ++ [10]).toArray⟩ := str_app (a ++ G) [10]
                    have hl2 : ¬ (9223372036854775807 < a.length + G.length) := by have := HAL2.out; omega
                    have hl3 : ¬ (9223372036854775807 < a.length + G.length + 1) := by have := HAL2.out; omega
                    clear f1 f2 hgx hG hpe
                    go_wp2
                    go_roundw
                    case rel => exact ⟨q + 1, a ++ G ++ [10], turnR t r x, fr', WA', wn', wk', OA', on', oc', by omega, by go_num, by simp, F1.out, HRF.out.1, HRF.out.2.1, HRF.out.2.2, HCKN.out, F2.out, HRN.out⟩
                    case measure => simp [intOf]; omega
                · obtain ⟨L, hL⟩ : ∃ L, L = p0 ++ [32, 111, 118, 101, 114] := ⟨_, rfl⟩
                  have hap : (⟨p0.toArray⟩ : ByteArray) ++ ⟨#[32, 111, 118, 101, 114]⟩ = ⟨L.toArray⟩ := by rw [hL]; exact str_app p0 [32, 111, 118, 101, 114]
                  have hLl : L.length = p0.length + 5 := by rw [hL]; simp
                  have hpe : L ≠ [] := fun e => by rw [e] at hLl; simp at hLl
                  have hLt : lineW (tickW os true) = L := by rw [show tickW os true = outW os 0 ++ [overB] from by simp [tickW], lineW_snoc, ← HP0.out, hL]; rfl
                  have hgx : L.drop 1 = listedT (tickW os true) := by rw [HLI.out, hLt, if_neg hpe]
                  have hpos : 1 ≤ L.length := by omega
                  obtain ⟨G, hG⟩ : ∃ G, G = L.drop 1 := ⟨_, rfl⟩
                  have hGl : G.length ≤ 30 := by rw [hG, List.length_drop]; omega
                  rw [← hG] at hgx
                  obtain ⟨f1, f2⟩ := HFIN.out G hGl hgx
                  have F1 := Lib.hid f1; have F2 := Lib.hid f2
                  have hx2 : (⟨L.toArray⟩ : ByteArray).extract 1 L.length = ⟨G.toArray⟩ := by rw [ba_extract, List.take_length, hG]
                  have hie : L.isEmpty = false := by cases L with | nil => exact absurd rfl hpe | cons _ _ => rfl
                  have hbe : (L == []) = false := beq_eq_false_iff_ne.2 hpe
                  have hl1 : ¬ (9223372036854775807 < p0.length + 5) := by omega
                  have ha1 : (⟨a.toArray⟩ : ByteArray) ++ ⟨G.toArray⟩ = ⟨(a ++ G).toArray⟩ := str_app a G
                  have ha2 : (⟨(a ++ G).toArray⟩ : ByteArray) ++ ⟨#[10]⟩ = ⟨(a ++ G ++ [10]).toArray⟩ := str_app (a ++ G) [10]
                  have hl2 : ¬ (9223372036854775807 < a.length + G.length) := by have := HAL2.out; omega
                  have hl3 : ¬ (9223372036854775807 < a.length + G.length + 1) := by have := HAL2.out; omega
                  have HLL := Lib.hid hLl
                  clear f1 f2 hgx hG hpe hL hLt hLl
                  go_wp2
                  go_roundw
                  case rel => exact ⟨q + 1, a ++ G ++ [10], turnR t r x, fr', WA', wn', wk', OA', on', oc', by omega, by go_num, by simp, F1.out, HRF.out.1, HRF.out.2.1, HRF.out.2.2, HCKN.out, F2.out, HRN.out⟩
                  case measure => simp [intOf]; omega
        · obtain rfl : q = k := by omega
          have hlti2 : ¬ ((q : Int) < q) := by omega
          have hfin : a = goal := by
            rw [List.drop_eq_nil_of_le (by have := HLM.out; omega)] at hM
            simpa [wantT] using hM
          subst hfin
          have HEX := Lib.hid (X4.out.trans hext)
          clear hal hext hbx hrc hckr hM hR HGO
          go_wp2_with fail
          refine (HB.out wr HEX.out).mono ?_; rintro e w9 ⟨rfl, x9⟩
          have X9 := Lib.hid (HEX.out.trans x9); clear x9
          have haa : (a == a) = true := by simp
          go_wp2
          go_ret
          exact ⟨rfl, X9.out⟩
theorem deskTicks_any (A : Option Addr) (n c : Nat) (p : List PNode) (B : Option Addr) (m d : Nat) (l : List Int) (mx : Int) (w : World) (hm : w.cell? ⟨0, 0, none⟩ = some (.int .i64 mx)) (h : SlN w A n p) (hn : n ≤ maxLen) (hl : Sl w B m (l.map I)) (hml : m ≤ maxLen) :
    Calls Tryd.prog 3 #[.slice A n c, .slice B m d] w fun e w' => e = .returned (.bool true) ∧ Ext w w' := by
  by_cases hb : runErr p l ≠ 0 ∨ 40 < m
  · exact ticks_bad A n c p B m d l mx w hm h hn hl hml hb
  · have h1 : runErr p l = 0 := Classical.byContradiction fun e => hb (.inl e)
    have h2 : m ≤ 40 := Classical.byContradiction fun e => hb (.inr (by omega))
    exact ticks_good A n c p B m d l mx w hm h hn hl h2 h1
end Go.Proofs.YtgohhcnmkomafaaDoor
/- How arguments that are read as data open to the words of Lib: slices of structs of one-cell fields. (open_slice_fields is the guide's page extra-structs, to be copied.) -/
namespace Go.Proofs.YtgohhcnmkomafaaDoor
set_option linter.unusedVariables false
set_option linter.unusedSimpArgs false
open Go.ChangeShapes Go.WideShapes Go.Deep Go.RowKit
section
variable {H : Type} {enc : TypeId × Value → H} {P : Program} {w : World} {base : Nat} {spare : Nat → Bool} {held : Bool}
theorem open_slice_fields {t e : TypeId} {fs : Array Field} {fuel : Nat} {cs : List Value} {x : DataW H × List MemPlace} (ht : P.underlying t = some (.slice e)) (he : P.underlying e = some (.struct fs))
    (hone : oneCellFields P fs = true) (hC : P.cellsOf e = fs.size) (h : DataW.trod enc P w base spare held fuel t cs = some x) :
    (cs = [.slice none 0 0] ∧ x = (.nil, [])) ∨
    ∃ (a : Addr) (len cap m : Nat) (D : Nat → DataW H) (Pl : Nat → List MemPlace), cs = [.slice (some a) len cap] ∧ base ≤ a.block ∧ len ≤ cap ∧ cap ≤ maxLen ∧ m = (if spare a.block then cap else len) ∧
      x = (.slice ((List.range len).map D) ((List.range (m - len)).map fun j => D (len + j)), MemPlace.row a (m * fs.size) ++ (List.range m).flatMap Pl) ∧
      ∀ i, i < m → ∃ (ys : List (DataW H × List MemPlace)) (n : Nat), D i = .agg (ys.map (·.1)) ∧ Pl i = ys.flatMap (·.2) ∧ ys.length = fs.size ∧
        ∀ (j : Nat) (f : Field), fs[j]? = some f → ∃ (v : Value) (y : DataW H × List MemPlace), w.cell? (a.add (i * fs.size + j)) = some v ∧ ys[j]? = some y ∧ DataW.trod enc P w base spare held n f.type [v] = some y := by
  rcases open_slice ht h with h0 | ⟨a, len, cap, m, n, D, Pl, hcs, hb, hl, hm, hmm, hx, hi⟩
  · exact .inl h0
  · refine .inr ⟨a, len, cap, m, D, Pl, hcs, hb, hl, hm, hmm, by rw [hC] at hx; exact hx, fun i him => ?_⟩
    obtain ⟨cs', hc, ht'⟩ := hi i him
    rw [hC] at hc
    obtain ⟨ys, n', hn', hy, hlen, hyl, hf⟩ := DataW.trod_struct he ht'
    obtain ⟨_, hcl, hat⟩ := World.cells?_some hc
    simp only [Prod.mk.injEq] at hy
    refine ⟨ys, n', hy.1, hy.2, hyl, fun j f hj => ?_⟩
    obtain ⟨ho, hk⟩ := hone_of hone j f hj
    have hjl : j < fs.size := (Array.getElem?_eq_some_iff.1 hj).1
    have hcell := hat j hjl
    have hv : cs'[j]? = some (cs'[j]'(by omega)) := List.getElem?_eq_getElem (by omega)
    have h1 := hf j f hj
    rw [ho, hk] at h1
    have hone' : (cs'.drop j).take 1 = [cs'[j]'(by omega)] := by
      rw [List.drop_eq_getElem_cons (by omega)]
      rfl
    rw [hone'] at h1
    have hys : ys[j]? = some (ys[j]'(by omega)) := List.getElem?_eq_getElem (by omega)
    refine ⟨_, _, ?_, hys, h1.trans hys⟩
    rw [← Go.Deep.add_add, hcell, hv]
end
/-- A slice of nodes that is read as data reads as a list of nodes. -/
theorem open_nodes {H : Type} {enc : TypeId × Value → H} {w : World} {base : Nat} {held : Bool} {fuel : Nat} {cs : List Value} {x : DataW H × List MemPlace}
    (h : DataW.trod enc Tryd.prog w base (fun _ => true) held fuel 22 cs = some x) :
    ∃ (A : Option Addr) (n c : Nat) (p : List PNode), cs = [.slice A n c] ∧ Sl2 (fun x : PNode => I x.kind) (fun x => I x.sig) w A n p ∧ n ≤ c ∧ c ≤ maxLen ∧
      ∀ y ∈ p, (Lit.int .i64 y.kind).wf = true ∧ (Lit.int .i64 y.sig).wf = true := by
  rcases open_slice_fields (P := Tryd.prog) (fs := _) Tryd.underlying22 Tryd.underlying70 (by kernel_rfl) (by kernel_rfl) h with ⟨rfl, rfl⟩ | ⟨a, len, cap, m, D, Pl, rfl, hb, hl, hm, hmm, hx, hf⟩
  · exact ⟨none, 0, 0, [], rfl, Sl2.nil _ _ _ _, Nat.le_refl _, Nat.zero_le _, by simp⟩
  · simp only [if_true] at hmm
    have each : ∀ i, i < len → ∃ y : PNode, w.cell? (a.add (i * 2)) = some (I y.kind) ∧ w.cell? (a.add (i * 2 + 1)) = some (I y.sig) ∧ (Lit.int .i64 y.kind).wf = true ∧ (Lit.int .i64 y.sig).wf = true := by
      intro i hi
      obtain ⟨ys, n, _, _, _, hff⟩ := hf i (by omega)
      obtain ⟨v0, y0, hc0, hy0, ht0⟩ := hff 0 _ rfl
      obtain ⟨v1, y1, hc1, hy1, ht1⟩ := hff 1 _ rfl
      obtain ⟨k0, e0, _, wf0⟩ := DataW.trod_int Tryd.underlying3 ht0
      obtain ⟨k1, e1, _, wf1⟩ := DataW.trod_int Tryd.underlying3 ht1
      simp only [List.cons.injEq, and_true] at e0 e1
      subst e0; subst e1
      exact ⟨⟨k0, k1⟩, hc0, hc1, wf0, wf1⟩
    have hlist : ∀ m, m ≤ len → ∃ p : List PNode, p.length = m ∧ ∀ i y, p[i]? = some y → w.cell? (a.add (i * 2)) = some (I y.kind) ∧ w.cell? (a.add (i * 2 + 1)) = some (I y.sig) ∧ (Lit.int .i64 y.kind).wf = true ∧ (Lit.int .i64 y.sig).wf = true := by
      intro m
      induction m with
      | zero => exact fun _ => ⟨[], rfl, by simp⟩
      | succ m ih =>
        intro hm
        obtain ⟨p, hp, hp2⟩ := ih (by omega)
        obtain ⟨y, hy⟩ := each m (by omega)
        refine ⟨p ++ [y], by simp [hp], fun i z hz => ?_⟩
        rw [List.getElem?_append] at hz
        split at hz
        · exact hp2 i z hz
        · rename_i hlt
          have hi : i = m := by
            rcases Nat.eq_or_lt_of_le (show m ≤ i by omega) with e | e
            · exact e.symm
            · rw [List.getElem?_eq_none (by simp; omega)] at hz; cases hz
          subst hi
          simp [hp] at hz; subst hz
          exact hy
    obtain ⟨p, hp, hp2⟩ := hlist len (Nat.le_refl _)
    refine ⟨some a, len, cap, p, rfl, ⟨hp, fun k y hxk => ?_⟩, hl, hm, fun y hy => ?_⟩
    · obtain ⟨h0, h1, _⟩ := hp2 k y hxk
      have hs : a.spot = none := by
        have h00 := World.cell?_spot h0
        unfold Addr.add at h00; split at h00
        · exact h00
        · rename_i hk
          obtain ⟨b, o, s⟩ := a
          have h01 := (hp2 0 (p[0]'(by have := (List.getElem?_eq_some_iff.1 hxk).1; omega)) (List.getElem?_eq_getElem _)).1
          simpa [Addr.add] using World.cell?_spot h01
      obtain ⟨b, o, s⟩ := a
      subst hs
      rw [add_plain'] at h0 h1
      exact ⟨b, o, rfl, h0, by rw [Nat.add_assoc]; exact h1⟩
    · obtain ⟨i, hi⟩ := List.mem_iff_getElem?.1 hy
      exact (hp2 i y hi).2.2
end Go.Proofs.YtgohhcnmkomafaaDoor
