/- SameRows walked. -/
import Derived.Test.YtjagbnaacfhokaaRc11
import Derived.Test.YtjagbnaacfhokaaRc01
import Derived.Test.YtjagbnaacfhokaaRc05
import Derived.RegionTactic
import Derived.Deep.RegionHeld3
import Derived.Test.YtjagbnaacfhokaaChecked
import Derived.Test.YtjagbnaacfhokaaRc10
import Derived.Test.YtjagbnaacfhokaaRc03
import Derived.Test.YtjagbnaacfhokaaRc02
import Derived.Test.YtjagbnaacfhokaaRc08
namespace Go.Proofs.Ytjagbnaacfhokaa
set_option linter.unusedVariables false
set_option linter.unusedSimpArgs false
open Go.RowKit

set_option maxHeartbeats 2000000 in
theorem sameRows_any (A B : Option Addr) (n m c d : Nat) (xs ys : List (List Int)) (w : World) (h : SlRows w A n xs) (h' : SlRows w B m ys) (hn : n ≤ maxLen) (hm : m ≤ maxLen) :
    Calls Try.prog 51 #[.slice A n c, .slice B m d] w fun e w' => e = .returned (.bool (decide (xs = ys))) ∧ Ext w w' := by
  generalize hM : decide (xs = ys) = M
  have hxl := h.1; have hyl := h'.1
  have H := Lib.hid h; have H' := Lib.hid h'; have HM := Lib.hid hM
  unfold maxLen at hn hm
  clear h h' hM
  by_cases hnm : n = m
  · subst hnm
    go_enter Try.func51, Try.ntmps51
    go_wp2_with fail
    go_loopw [5] (fun j wr => ∃ k : Nat, k ≤ n ∧ j = .int .i64 k ∧ Ext w wr ∧ decide (xs.drop k = ys.drop k) = M) (fun j _ => n - (intOf j).toNat)
    case atStart => exact ⟨0, Nat.zero_le _, rfl, Ext.refl _, by simpa using HM.out⟩
    case round =>
      obtain ⟨k, hk, rfl, hext, hR⟩ := hrel
      by_cases hlt : k < n
      · have hx : xs[k]? = some xs[k] := List.getElem?_eq_getElem (by omega)
        have hy : ys[k]? = some ys[k] := List.getElem?_eq_getElem (by omega)
        rw [List.drop_eq_getElem_cons (show k < xs.length by omega), List.drop_eq_getElem_cons (show k < ys.length by omega)] at hR
        generalize xs[k] = x at hx hR
        generalize ys[k] = y at hy hR
        obtain ⟨b1, o1, A1', c1, rfl, hc1, hs1, l1, m1⟩ := H.out.2 k x hx
        obtain ⟨b2, o2, A2, c2, rfl, hc2, hs2, l2, m2⟩ := H'.out.2 k y hy
        have C1 := Lib.hid (hext.keeps _ _ hc1); have C2 := Lib.hid (hext.keeps _ _ hc2); have S1 := Lib.hid (hs1.keep hext.keeps); have S2 := Lib.hid (hs2.keep hext.keeps)
        have L1 := Lib.hid (Nat.le_trans l1 m1); have L2 := Lib.hid (Nat.le_trans l2 m2)
        have HR := Lib.hid hR; have HE := Lib.hid hext
        clear hc1 hc2 hs1 hs2 hR hext hx hy l1 l2 m1 m2
        by_cases hxy : x = y
        · subst hxy
          go_wp2_with fail
          refine wp_flow3 10 0 [isV (.slice (some ⟨b1, o1, none⟩) n c), isV (.int .i64 k), isV (.pointer (some ⟨b1, o1 + k, none⟩)), isV (.slice A1' x.length c1), isV (.slice (some ⟨b2, o2, none⟩) n d), isV (.int .i64 k), isV (.pointer (some ⟨b2, o2 + k, none⟩)), isV (.slice A2 x.length c2), isV (.bool true), isV (.bool false)] (by kernel_rfl) rfl rfl (by kernel_rfl) (by kernel_rfl) ⟨isV_mono, isV_mono, isV_mono, isV_mono, isV_mono, isV_mono, isV_mono, isV_mono, isV_mono, isV_mono, trivial⟩ ?each ?rest
          case each =>
            refine .cons ?_ (.cons ?_ (.cons ?_ (.cons ?_ (.cons ?_ (.cons ?_ (.cons ?_ (.cons ?_ (.cons ?_ (.cons ?_ (.nil))))))))))
            · intro fa fw hx hs hb
              have s0 : fa.tmps[(0 : Nat)]? = some (.slice (some ⟨b1, o1, none⟩) n c) := (hb 0 (by kernel_rfl)).trans (by rfl)
              refine .inl ⟨wanted_free rfl, fun K hK => ?_⟩
              clear hs hb hx
              go_simp
              exact hK _ _ rfl (Ext.refl _)
            · intro fa fw hx hs hb
              have s5 : fa.tmps[(5 : Nat)]? = some (.int .i64 k) := (hb 5 (by kernel_rfl)).trans (by rfl)
              refine .inl ⟨wanted_free rfl, fun K hK => ?_⟩
              clear hs hb hx
              go_simp
              exact hK _ _ rfl (Ext.refl _)
            · intro fa fw hx hs hb
              obtain ⟨_, s17, rfl⟩ := hs 0 17 (by kernel_rfl) (by kernel_rfl)
              obtain ⟨_, s18, rfl⟩ := hs 1 18 (by kernel_rfl) (by kernel_rfl)
              refine .inl ⟨wanted_free rfl, fun K hK => ?_⟩
              clear hs hb hx
              go_simp
              exact hK _ _ rfl (Ext.refl _)
            · intro fa fw hx hs hb
              obtain ⟨_, s19, rfl⟩ := hs 2 19 (by kernel_rfl) (by kernel_rfl)
              have c0 := hx.keeps _ _ C1.out
              refine .inl ⟨wanted_free rfl, fun K hK => ?_⟩
              clear hs hb hx
              go_simp
              exact hK _ _ rfl (Ext.refl _)
            · intro fa fw hx hs hb
              have s1 : fa.tmps[(1 : Nat)]? = some (.slice (some ⟨b2, o2, none⟩) n d) := (hb 1 (by kernel_rfl)).trans (by rfl)
              refine .inl ⟨wanted_free rfl, fun K hK => ?_⟩
              clear hs hb hx
              go_simp
              exact hK _ _ rfl (Ext.refl _)
            · intro fa fw hx hs hb
              have s5 : fa.tmps[(5 : Nat)]? = some (.int .i64 k) := (hb 5 (by kernel_rfl)).trans (by rfl)
              refine .inl ⟨wanted_free rfl, fun K hK => ?_⟩
              clear hs hb hx
              go_simp
              exact hK _ _ rfl (Ext.refl _)
            · intro fa fw hx hs hb
              obtain ⟨_, s21, rfl⟩ := hs 4 21 (by kernel_rfl) (by kernel_rfl)
              obtain ⟨_, s22, rfl⟩ := hs 5 22 (by kernel_rfl) (by kernel_rfl)
              refine .inl ⟨wanted_free rfl, fun K hK => ?_⟩
              clear hs hb hx
              go_simp
              exact hK _ _ rfl (Ext.refl _)
            · intro fa fw hx hs hb
              obtain ⟨_, s23, rfl⟩ := hs 6 23 (by kernel_rfl) (by kernel_rfl)
              have c0 := hx.keeps _ _ C2.out
              refine .inl ⟨wanted_free rfl, fun K hK => ?_⟩
              clear hs hb hx
              go_simp
              exact hK _ _ rfl (Ext.refl _)
            · intro fa fw hx hs hb
              obtain ⟨_, s20, rfl⟩ := hs 3 20 (by kernel_rfl) (by kernel_rfl)
              obtain ⟨_, s24, rfl⟩ := hs 7 24 (by kernel_rfl) (by kernel_rfl)
              refine .inl ⟨wanted_free rfl, fun K hK => ?_⟩
              clear hs hb
              go_simp
              refine (sameInts_any A1' A2 x.length x.length c1 c2 x x fw (S1.out.keep hx.keeps) (S2.out.keep hx.keeps) L1.out L2.out).mono ?_
              rintro e w' ⟨rfl, mm, rfl⟩; rw [decide_eq_true rfl]
              exact hK _ _ rfl ((Ext.refl _).drewN _)
            · intro fa fw hx hs hb
              obtain ⟨_, s25, rfl⟩ := hs 8 25 (by kernel_rfl) (by kernel_rfl)
              refine .inl ⟨wanted_free rfl, fun K hK => ?_⟩
              clear hs hb hx
              go_simp
              exact hK _ _ rfl (Ext.refl _)
          case rest =>
            intro w2 hxw2
            rintro _ rfl
            rintro _ rfl
            rintro _ rfl
            rintro _ rfl
            rintro _ rfl
            rintro _ rfl
            rintro _ rfl
            rintro _ rfl
            rintro _ rfl
            rintro _ rfl
            simp only [putAll, List.take, Act.put, List.setIfInBounds_toArray, List.set_cons_zero, List.set_cons_succ]
            refine wpAny_done (by kernel_rfl) ?_ _
            go_wp2
            go_roundw
            case rel => exact ⟨k + 1, by omega, by go_num, HE.out.trans hxw2, by have := HR.out; simpa using this⟩
            case measure => simp [intOf]; omega
        · have HXY := Lib.hid hxy; clear hxy
          go_wp2_with fail
          refine wp_flow3 10 0 [isV (.slice (some ⟨b1, o1, none⟩) n c), isV (.int .i64 k), isV (.pointer (some ⟨b1, o1 + k, none⟩)), isV (.slice A1' x.length c1), isV (.slice (some ⟨b2, o2, none⟩) n d), isV (.int .i64 k), isV (.pointer (some ⟨b2, o2 + k, none⟩)), isV (.slice A2 y.length c2), isV (.bool false), isV (.bool true)] (by kernel_rfl) rfl rfl (by kernel_rfl) (by kernel_rfl) ⟨isV_mono, isV_mono, isV_mono, isV_mono, isV_mono, isV_mono, isV_mono, isV_mono, isV_mono, isV_mono, trivial⟩ ?each ?rest
          case each =>
            refine .cons ?_ (.cons ?_ (.cons ?_ (.cons ?_ (.cons ?_ (.cons ?_ (.cons ?_ (.cons ?_ (.cons ?_ (.cons ?_ (.nil))))))))))
            · intro fa fw hx hs hb
              have s0 : fa.tmps[(0 : Nat)]? = some (.slice (some ⟨b1, o1, none⟩) n c) := (hb 0 (by kernel_rfl)).trans (by rfl)
              refine .inl ⟨wanted_free rfl, fun K hK => ?_⟩
              clear hs hb hx
              go_simp
              exact hK _ _ rfl (Ext.refl _)
            · intro fa fw hx hs hb
              have s5 : fa.tmps[(5 : Nat)]? = some (.int .i64 k) := (hb 5 (by kernel_rfl)).trans (by rfl)
              refine .inl ⟨wanted_free rfl, fun K hK => ?_⟩
              clear hs hb hx
              go_simp
              exact hK _ _ rfl (Ext.refl _)
            · intro fa fw hx hs hb
              obtain ⟨_, s17, rfl⟩ := hs 0 17 (by kernel_rfl) (by kernel_rfl)
              obtain ⟨_, s18, rfl⟩ := hs 1 18 (by kernel_rfl) (by kernel_rfl)
              refine .inl ⟨wanted_free rfl, fun K hK => ?_⟩
              clear hs hb hx
              go_simp
              exact hK _ _ rfl (Ext.refl _)
            · intro fa fw hx hs hb
              obtain ⟨_, s19, rfl⟩ := hs 2 19 (by kernel_rfl) (by kernel_rfl)
              have c0 := hx.keeps _ _ C1.out
              refine .inl ⟨wanted_free rfl, fun K hK => ?_⟩
              clear hs hb hx
              go_simp
              exact hK _ _ rfl (Ext.refl _)
            · intro fa fw hx hs hb
              have s1 : fa.tmps[(1 : Nat)]? = some (.slice (some ⟨b2, o2, none⟩) n d) := (hb 1 (by kernel_rfl)).trans (by rfl)
              refine .inl ⟨wanted_free rfl, fun K hK => ?_⟩
              clear hs hb hx
              go_simp
              exact hK _ _ rfl (Ext.refl _)
            · intro fa fw hx hs hb
              have s5 : fa.tmps[(5 : Nat)]? = some (.int .i64 k) := (hb 5 (by kernel_rfl)).trans (by rfl)
              refine .inl ⟨wanted_free rfl, fun K hK => ?_⟩
              clear hs hb hx
              go_simp
              exact hK _ _ rfl (Ext.refl _)
            · intro fa fw hx hs hb
              obtain ⟨_, s21, rfl⟩ := hs 4 21 (by kernel_rfl) (by kernel_rfl)
              obtain ⟨_, s22, rfl⟩ := hs 5 22 (by kernel_rfl) (by kernel_rfl)
              refine .inl ⟨wanted_free rfl, fun K hK => ?_⟩
              clear hs hb hx
              go_simp
              exact hK _ _ rfl (Ext.refl _)
            · intro fa fw hx hs hb
              obtain ⟨_, s23, rfl⟩ := hs 6 23 (by kernel_rfl) (by kernel_rfl)
              have c0 := hx.keeps _ _ C2.out
              refine .inl ⟨wanted_free rfl, fun K hK => ?_⟩
              clear hs hb hx
              go_simp
              exact hK _ _ rfl (Ext.refl _)
            · intro fa fw hx hs hb
              obtain ⟨_, s20, rfl⟩ := hs 3 20 (by kernel_rfl) (by kernel_rfl)
              obtain ⟨_, s24, rfl⟩ := hs 7 24 (by kernel_rfl) (by kernel_rfl)
              refine .inl ⟨wanted_free rfl, fun K hK => ?_⟩
              clear hs hb
              go_simp
              refine (sameInts_any A1' A2 x.length y.length c1 c2 x y fw (S1.out.keep hx.keeps) (S2.out.keep hx.keeps) L1.out L2.out).mono ?_
              rintro e w' ⟨rfl, mm, rfl⟩; rw [decide_eq_false HXY.out]
              exact hK _ _ rfl ((Ext.refl _).drewN _)
            · intro fa fw hx hs hb
              obtain ⟨_, s25, rfl⟩ := hs 8 25 (by kernel_rfl) (by kernel_rfl)
              refine .inl ⟨wanted_free rfl, fun K hK => ?_⟩
              clear hs hb hx
              go_simp
              exact hK _ _ rfl (Ext.refl _)
          case rest =>
            intro w2 hxw2
            rintro _ rfl
            rintro _ rfl
            rintro _ rfl
            rintro _ rfl
            rintro _ rfl
            rintro _ rfl
            rintro _ rfl
            rintro _ rfl
            rintro _ rfl
            rintro _ rfl
            simp only [putAll, List.take, Act.put, List.setIfInBounds_toArray, List.set_cons_zero, List.set_cons_succ]
            refine wpAny_done (by kernel_rfl) ?_ _
            go_wp2
            go_ret
            exact ⟨ret_bool (by rw [← HR.out]; simp [HXY.out]), HE.out.trans hxw2⟩
      · have hkn : k = n := by omega
        rw [List.drop_eq_nil_of_le (by omega), List.drop_eq_nil_of_le (by omega)] at hR
        have HR := Lib.hid hR; clear hR
        go_wp2
        go_ret
        exact ⟨ret_bool (by rw [← HR.out]; simp), hext⟩
  · have hne : ((n : Int) != (m : Int)) = true := by simp; omega
    have hxy : M = false := by rw [← HM.out]; simp; intro e; rw [e] at hxl; omega
    have HF := Lib.hid hxy; clear hxy
    go_enter Try.func51, Try.ntmps51
    go_wp2
    go_ret
    exact ⟨ret_bool HF.out.symm, Ext.refl _⟩
end Go.Proofs.Ytjagbnaacfhokaa
/- Package prog walked. -/
namespace Go.Proofs.Ytjagbnaacfhokaa
set_option linter.unusedVariables false
set_option linter.unusedSimpArgs false
open Go.RowKit

abbrev PK (x : PNode) : Value := I x.kind
abbrev PS (x : PNode) : Value := I x.sig
/-- A list of nodes, as a slice. -/
abbrev SlN := Sl2 PK PS

end Go.Proofs.Ytjagbnaacfhokaa
/- prog.Of, prog.Parts. -/
namespace Go.Proofs.Ytjagbnaacfhokaa
set_option linter.unusedVariables false
set_option linter.unusedSimpArgs false
open Go.RowKit

end Go.Proofs.Ytjagbnaacfhokaa
/- prog.Waits. -/
namespace Go.Proofs.Ytjagbnaacfhokaa
set_option linter.unusedVariables false
set_option linter.unusedSimpArgs false
open Go.RowKit

theorem tab_bool : (Try.prog.info? 4).map (fun i => (i.zero, i.size, i.bytes)) = some (some (.bool false), 1, 1) := by kernel_rfl

end Go.Proofs.Ytjagbnaacfhokaa
/- net.Needed and net.Needs walked. -/
namespace Go.Proofs.Ytjagbnaacfhokaa
set_option linter.unusedVariables false
set_option linter.unusedSimpArgs false
open Go.RowKit

theorem needs1_any (b : Nat) (i : Int) (GA : Option Addr) (gn gc : Nat) (RA : Option Addr) (rn rc : Nat) (OA : Option Addr) (on oc : Nat) (x : Int) (w : World) (hb : NetBox w b i GA gn gc RA rn rc OA on oc) (hgm : gn ≤ maxLen) :
    Calls Try.prog 71 #[I x, .pointer (some ⟨b, 0, none⟩)] w fun e w' => e = .returned (.bool (badPlace gn x)) ∧ w = w' := by
  obtain ⟨q0, q1, q2, q3⟩ := hb
  unfold maxLen at hgm
  go_enter Try.func71, Try.ntmps71
  go_wp2
  all_goals go_ret
  all_goals exact ⟨ret_bool (by simp [badPlace, *] <;> omega), rfl⟩
theorem enter_needs1 : ∀ args W, (callFunc 71 args).run Try.prog W = .ok (.enter 71 args) W := by
  intro args W
  go_simp
theorem asks_needs1 (b : Nat) (i : Int) (GA : Option Addr) (gn gc : Nat) (RA : Option Addr) (rn rc : Nat) (OA : Option Addr) (on oc : Nat) (w : World) (hb : NetBox w b i GA gn gc RA rn rc OA on oc) (hgm : gn ≤ maxLen) :
    Asks Try.prog 71 #[.pointer (some ⟨b, 0, none⟩)] w (badPlace gn) := ⟨enter_needs1, fun x => needs1_any b i GA gn gc RA rn rc OA on oc x w hb hgm⟩

theorem onI_nth {o : List Bool} {k : Nat} {b : Bool} (h : o[k]? = some b) : onI o (k : Int) = b := by simp [onI, h]

set_option maxRecDepth 100000 in
set_option maxHeartbeats 4000000 in
theorem needed_any (i : Int) (GA : Option Addr) (gn gc : Nat) (RA : Option Addr) (rn rc : Nat) (OA : Option Addr) (on oc : Nat) (N : NetM) (A : Option Addr) (n c : Nat) (l : List Int) (w : World)
    (h : NetC w i GA gn gc RA rn rc OA on oc N) (hs : Sl w A n (l.map I)) (ok : NetOK N) (hl : inR N.gates.length l) (hn : n * 8 ≤ 140737488355328) :
    Calls Try.prog 72 #[netV i GA gn gc RA rn rc OA on oc, .slice A n c] w fun e w' => ∃ v, e = .returned v ∧ w'.ownsRow w.heap.size 4 1 v gn ((needsM N.gates l).map Bv) ∧ Ext w w' := by
  have hgl : N.gates.length = gn := h.gates.1
  have hg200 : gn ≤ 200 := by rw [← hgl]; exact ok.gl
  have hmk := fun W => run_make1 (P := Try.prog) 27 4 tab_bool Try.underlying27 rfl gn (by omega) (by omega) W
  have HN := Lib.hid h; have HS := Lib.hid hs; have HOK := Lib.hid ok; have HL := Lib.hid hl; have HGL := Lib.hid hgl
  clear h hs ok hl hgl
  obtain ⟨W, hW⟩ : ∃ W, W = w.alloc (.cells #[I i, .slice GA gn gc, .slice RA rn rc, .slice OA on oc] 26) := ⟨_, rfl⟩
  have hxW : Ext w W := by rw [hW]; exact (Ext.refl _).alloc _
  have hsW : W.heap.size = w.heap.size + 1 := by rw [hW]; simp
  have HBox : Hid (NetBox W w.heap.size i GA gn gc RA rn rc OA on oc) := by unfold Hid; rw [hW]; exact NetBox.new w i GA gn gc RA rn rc OA on oc _
  have HW := Lib.hid hW; have HSW := Lib.hid hsW; clear hW hsW
  go_enter Try.func72, Try.ntmps72
  go_wp2_with fail
  rw [← HW.out]
  refine (cloneInts_any A n c l _ ((HS.out.keep hxW.keeps).keep (Keeps.alloc W _)) hn).mono ?_; rintro e w1 ⟨v, rfl, hown, hx1⟩
  have hxa : Ext W w1 := ((Ext.refl W).alloc _).trans hx1
  have hB := own_ext (own_made W 4 (.bool false) gn W.heap.size (Nat.le_refl _) (by unfold maxLen; omega)) hx1
  have hvb : v.ownBlock ≠ some W.heap.size := fun e => by have := (hown.lt _ e).1; rw [World.size_alloc] at this; omega
  have hown := own_base hown (base' := W.heap.size) (by simp)
  have hln := HS.out.len
  have hszW : W.heap.size < w1.heap.size := by have := hx1.size; simp at this; omega
  have es := HSW.out
  rw [es] at hvb
  have hB : w1.ownsRow W.heap.size 4 1 (.slice (some ⟨w.heap.size + 1, 0, none⟩) gn gn) gn (List.replicate gn (.bool false)) := by rw [← es]; exact hB
  clear es
  have HB := Lib.hid hB; have HO := Lib.hid hown; have HV := Lib.hid hvb; have HLN := Lib.hid hln; have HZ := Lib.hid hszW
  clear hB hown hvb hx1 hln hszW
  go_wp2
  go_loopg [6, 7] (n + 3200) (fun gk v _ wr => ∃ (o : List Bool) (work : List Int), Ext W wr ∧ W.heap.size < wr.heap.size ∧ wr.ownsRow W.heap.size 4 1 (.slice (some ⟨w.heap.size + 1, 0, none⟩) gn gn) gn (o.map Bv) ∧
    wr.ownsRow W.heap.size 3 1 v work.length (work.map I) ∧ v.ownBlock ≠ some (w.heap.size + 1) ∧ NeedInv N.gates l o work ∧ work.length + costN N.gates o ≤ gk ∧ gk ≤ n + 3200)
  case atStart =>
    have hc := costN_le 16 N.gates (List.replicate N.gates.length false) HOK.out.al
    have e1 := HGL.out; have e2 := HLN.out
    refine ⟨List.replicate N.gates.length false, l, hxa, HZ.out, by rw [e1]; have := HB.out; simpa using this, by have := HO.out; rw [e2]; exact this, HV.out, NeedInv.start _ _, by omega, Nat.le_refl _⟩
  case round =>
    obtain ⟨o, work, hext, hsz, hown, hwk, hvb, hinv, hm, hmx⟩ := hrel
    rcases List.eq_nil_or_concat work with rfl | ⟨ys, y, rfl⟩
    · -- nothing is left
      obtain ⟨C, cc, rfl, -, -, -⟩ := own_sl hwk
      have HI := Lib.hid hinv; have HO2 := Lib.hid hown; have HX := Lib.hid hext
      clear hinv hown hwk hvb hm hmx hext hsz
      go_wp2
      go_ret
      refine ⟨_, rfl, ?_, hxW.trans HX.out⟩
      have := HI.out.done HOK.out.args HL.out
      rw [← this]; exact own_base HO2.out hxW.size
    · simp only [List.concat_eq_append] at *
      have hlen : (ys ++ [y]).length = ys.length + 1 := by simp
      rw [hlen] at hwk hm
      obtain ⟨g, cc, rfl⟩ := own_form hwk (Nat.succ_pos _)
      have hcc : ys.length + 1 ≤ cc := by obtain ⟨_, _, e, h1, _⟩ := own_slice hwk; injection e with _ _ e; omega
      have hcc' : ys.length ≤ cc := by omega
      have hgW : g ≠ w.heap.size + 1 := by simpa [Value.ownBlock] using hvb
      rw [List.map_append] at hwk
      obtain ⟨hyk, hyc⟩ := own_drop_last (y := I y) hwk
      have hrg := hinv.range HOK.out.args HL.out
      have e1 := HGL.out
      obtain ⟨yn, rfl⟩ := Int.eq_ofNat_of_zero_le hrg.1
      have hyn : yn < gn := by omega
      obtain ⟨⟨u, hu, hcu⟩, hfz, hbg⟩ := own_at hown hyn
      have hub : ∃ b, u = Bv b ∧ o[yn]? = some b := by
        rw [List.getElem?_map] at hu
        cases ho : o[yn]? with
        | none => rw [ho] at hu; cases hu
        | some b => rw [ho] at hu; exact ⟨b, by simpa using hu.symm, rfl⟩
      obtain ⟨bb, rfl, hob⟩ := hub
      have hon := onI_nth hob
      have hyl : ys.length + 1 ≤ 9223372036854775807 := by omega
      have HI := Lib.hid hinv; have HO2 := Lib.hid hown; have HX := Lib.hid hext; have HY := Lib.hid hyk; have HGW := Lib.hid hgW; have HON := Lib.hid hon; have HOB := Lib.hid hob; have HM := Lib.hid hm; have HMX := Lib.hid hmx; have HSZ := Lib.hid hsz
      clear hinv hown hwk hvb hm hmx hext hyk hgW hon hob hu hlen hrg e1 hbg hsz
      cases bb
      · -- marked now
        obtain ⟨b, off, A', m, c', gt, rfl, g0, g1, g2, hsg, hmc, hcm, hd, hgt⟩ := HN.out.gates.next hyn
        have hml := hsg.len
        have hm16 : m ≤ 16 := by have := HOK.out.al gt (List.mem_of_getElem? hgt); omega
        have hx2 : Ext W (wr.setCell ⟨w.heap.size + 1, yn, none⟩ (Bv true)) := HX.out.setCell (by have := HSW.out; show W.heap.size ≤ w.heap.size + 1; omega) _
        have c2 := hx2.keeps _ _ (hxW.keeps _ _ g2)
        have hSG := hsg.keep (hxW.trans hx2).keeps
        have hq1 := (HBox.out.keep hx2.keeps).2.1
        have hst := HO2.out.stored yn (Bv true)
        have hyo := own_other (g := w.heap.size + 1) (j := yn) (u := Bv true) HY.out (fun e => HGW.out (Option.some.inj e))
        have HST := Lib.hid hst; have HYO := Lib.hid hyo; have HSG := Lib.hid hSG; have HGT := Lib.hid hgt; have HML := Lib.hid hml; have H16 := Lib.hid hm16; have HX2 := Lib.hid hx2
        clear hst hyo hSG hgt hml hm16 hd hsg g0 g1 g2 hmc hcm hx2
        go_wp2_with (at_builtin; refine wpList_appendBig rfl (.tmp 36) (.tmp 42) 24 3 rfl tab_int' Try.underlying24 rfl (by decide) W HX2.out _ ys.length (ys.map I) rfl HYO.out A' m c' _ rfl HSG.out (ints_one gt.args) (by have := H16.out; have := HM.out; have := HMX.out; omega) (by have := H16.out; have := HM.out; have := HMX.out; omega) ?_; intro v' w2 hown2 hx3 hgr hbl)
        have hargs : argsI N.gates (yn : Int) = gt.args := by have := HGT.out; simp [argsI, this]
        have hcost := costN_set N.gates o yn gt HGT.out HOB.out
        go_roundg ((ys ++ gt.args).length + costN N.gates (o.set yn true))
        case measure => have := HM.out; simp; omega
        case rel =>
          have hne : v'.ownBlock ≠ some (w.heap.size + 1) := by
            intro e
            rcases hbl _ e with e2 | e2
            · exact HGW.out (Option.some.inj e2)
            · have := HSZ.out; have := HSW.out; simp at e2; omega
          refine ⟨o.set yn true, ys ++ gt.args, hx3, Nat.lt_of_lt_of_le HSZ.out (by have := hgr.size; simpa using this), ?_, ?_, hne, ?_, Nat.le_refl _, ?_⟩
          · have := HST.out.1.kept hgr (by right; exact fun e => HGW.out (Option.some.inj e).symm)
            simpa [List.map_set] using this
          · simpa [HML.out] using hown2
          · have := HI.out.mark HOK.out.args HL.out
            rw [hargs] at this; simpa using this
          · have := HM.out; have := HMX.out; simp; omega
      · go_wp2
        go_roundg (ys.length + costN N.gates o)
        case measure => have := HM.out; omega
        case rel => exact ⟨o, ys, HX.out, HSZ.out, HO2.out, HY.out, fun e => HGW.out (Option.some.inj e), HI.out.skip HON.out, Nat.le_refl _, by have := HM.out; have := HMX.out; omega⟩
end Go.Proofs.Ytjagbnaacfhokaa
/- net.Needs, and the reference's NeedsError, NeedsOf walked. -/
namespace Go.Proofs.Ytjagbnaacfhokaa
set_option linter.unusedVariables false
set_option linter.unusedSimpArgs false
open Go.RowKit

def needsE (N : NetM) (l : List Int) : Int := if checkN N ≠ 0 then checkN N else if l.any (badPlace N.gates.length) then 3 else 0
theorem needsE_ok {N : NetM} {l : List Int} (h : needsE N l = 0) : checkN N = 0 ∧ inR N.gates.length l := by
  unfold needsE at h
  by_cases h0 : checkN N = 0
  · rw [if_neg (by simp [h0])] at h
    refine ⟨h0, fun k hk => ?_⟩
    cases hb : l.any (badPlace N.gates.length) with
    | true => rw [hb] at h; simp at h
    | false => have := List.any_eq_false.1 hb k hk; simp [badPlace] at this; omega
  · rw [if_pos h0] at h; exact absurd h h0
theorem inR_any {n : Nat} {l : List Int} (h : inR n l) : l.any (badPlace n) = false := List.any_eq_false.2 fun k hk => by have := h k hk; simp [badPlace]; omega

section
variable (i : Int) (GA : Option Addr) (gn gc : Nat) (RA : Option Addr) (rn rc : Nat) (OA : Option Addr) (on oc : Nat) (N : NetM) (A : Option Addr) (n c : Nat) (l : List Int) (w : World)

theorem netNeeds_err (h : NetC w i GA gn gc RA rn rc OA on oc N) (hs : Sl w A n (l.map I)) (hn : n ≤ maxLen) (e : Int) (he : needsE N l = e) (h0 : (e != 0) = true) :
    Calls Try.prog 26 #[netV i GA gn gc RA rn rc OA on oc, .slice A n c] w fun e' w' => e' = .returned (Pr (.slice none 0 0) (I e)) ∧ Ext w w' := by
  have hgl : N.gates.length = gn := h.gates.1
  have hgm : gn ≤ maxLen := Nat.le_trans h.gl.1 h.gl.2
  unfold needsE at he
  obtain ⟨W, hW⟩ : ∃ W, W = w.alloc (.cells #[I i, .slice GA gn gc, .slice RA rn rc, .slice OA on oc] 26) := ⟨_, rfl⟩
  have hxW : Ext w W := by rw [hW]; exact (Ext.refl _).alloc _
  have HBox : Hid (NetBox W w.heap.size i GA gn gc RA rn rc OA on oc) := by unfold Hid; rw [hW]; exact NetBox.new w i GA gn gc RA rn rc OA on oc _
  have HN := Lib.hid (h.keep hxW.keeps); have HS := Lib.hid (hs.keep hxW.keeps)
  have HW := Lib.hid hW; clear hW h hs
  by_cases hc : checkN N = 0
  · rw [if_neg (by simp [hc]), hgl] at he
    have hb : l.any (badPlace gn) = true := by
      cases hb : l.any (badPlace gn) with
      | true => rfl
      | false => rw [hb] at he; simp at he; subst he; cases h0
    rw [hb] at he
    have he3 : e = 3 := by simpa using he.symm
    subst he3
    have HC := Lib.hid hc; have HB := Lib.hid hb; clear hc hb he h0
    go_enter Try.func26, Try.ntmps26
    go_wp2_with fail
    rw [← HW.out]
    refine (netCheck_any i GA gn gc RA rn rc OA on oc N W HN.out).mono ?_; rintro e' w1 ⟨rfl, h1⟩; rw [HC.out]
    go_wp2_with fail
    refine (containsFunc_any A n c l _ _ _ w1 (HS.out.keep h1.keeps) hn (asks_needs1 w.heap.size i GA gn gc RA rn rc OA on oc w1 (HBox.out.keep h1.keeps) hgm)).mono ?_; rintro e' w' ⟨rfl, rfl⟩; rw [HB.out]
    go_wp2
    go_ret2
    exact ⟨rfl, hxW.trans h1⟩
  · rw [if_pos hc] at he
    have HE := Lib.hid he; clear he hc
    go_enter Try.func26, Try.ntmps26
    go_wp2_with fail
    rw [← HW.out]
    refine (netCheck_any i GA gn gc RA rn rc OA on oc N W HN.out).mono ?_; rintro e' w1 ⟨rfl, h1⟩; rw [HE.out]
    go_wp2
    go_ret2
    exact ⟨rfl, hxW.trans h1⟩

theorem netNeeds_ok (h : NetC w i GA gn gc RA rn rc OA on oc N) (hs : Sl w A n (l.map I)) (hn : n * 8 ≤ 140737488355328) (he : needsE N l = 0) :
    Calls Try.prog 26 #[netV i GA gn gc RA rn rc OA on oc, .slice A n c] w fun e' w' => ∃ v, e' = .returned (Pr v (I 0)) ∧ w'.ownsRow w.heap.size 4 1 v gn ((needsM N.gates l).map Bv) ∧ Ext w w' := by
  have hgl : N.gates.length = gn := h.gates.1
  have hgm : gn ≤ maxLen := Nat.le_trans h.gl.1 h.gl.2
  obtain ⟨hc, hr⟩ := needsE_ok he
  have ok := checkN_ok hc
  have hb := inR_any hr
  rw [hgl] at hb
  obtain ⟨W, hW⟩ : ∃ W, W = w.alloc (.cells #[I i, .slice GA gn gc, .slice RA rn rc, .slice OA on oc] 26) := ⟨_, rfl⟩
  have hxW : Ext w W := by rw [hW]; exact (Ext.refl _).alloc _
  have hbox : NetBox W w.heap.size i GA gn gc RA rn rc OA on oc := by rw [hW]; exact NetBox.new w i GA gn gc RA rn rc OA on oc _
  have HBox := Lib.hid hbox
  have HN := Lib.hid (h.keep hxW.keeps); have HS := Lib.hid (hs.keep hxW.keeps)
  have HW := Lib.hid hW; have HC := Lib.hid hc; have HB := Lib.hid hb; have HR := Lib.hid hr; have HOK := Lib.hid ok
  clear hW h hs hc hb hr ok he hgl hbox
  go_enter Try.func26, Try.ntmps26
  go_wp2_with fail
  rw [← HW.out]
  refine (netCheck_any i GA gn gc RA rn rc OA on oc N W HN.out).mono ?_; rintro e' w1 ⟨rfl, h1⟩; rw [HC.out]
  obtain ⟨q0, q1, q2, q3⟩ := HBox.out.keep h1.keeps
  go_wp2_with fail
  refine (containsFunc_any A n c l _ _ _ w1 (HS.out.keep h1.keeps) (by unfold maxLen; omega) (asks_needs1 w.heap.size i GA gn gc RA rn rc OA on oc w1 (HBox.out.keep h1.keeps) hgm)).mono ?_; rintro e' w' ⟨rfl, rfl⟩; rw [HB.out]
  go_wp2_with fail
  refine (needed_any i GA gn gc RA rn rc OA on oc N A n c l w1 (HN.out.keep h1.keeps) (HS.out.keep h1.keeps) HOK.out HR.out hn).mono ?_; rintro e' w2 ⟨v, rfl, hown, h2⟩
  have HO := Lib.hid hown; clear hown
  go_wp2
  go_ret2
  exact ⟨_, rfl, own_base HO.out (hxW.trans h1).size, (hxW.trans h1).trans h2⟩

end
end Go.Proofs.Ytjagbnaacfhokaa
