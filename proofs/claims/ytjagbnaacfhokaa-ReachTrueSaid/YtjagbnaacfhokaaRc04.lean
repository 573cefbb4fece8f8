/- net.form, slices.Clone at []int. -/
import Derived.Test.YtjagbnaacfhokaaRc03
import Derived.Deep.RegionHeld3
import Derived.Deep.DrawnRows
import Derived.StillTailTactics
namespace Go.Proofs.Ytjagbnaacfhokaa
set_option linter.unusedVariables false
set_option linter.unusedSimpArgs false
open Go.RowKit

set_option maxHeartbeats 2000000 in
theorem form_any (i : Int) (GA : Option Addr) (gn gc : Nat) (RA : Option Addr) (rn rc : Nat) (OA : Option Addr) (on oc : Nat) (A' : Option Addr) (m c' : Nat) (N : NetM) (g : GateM) (w : World)
    (hi : N.ins = i) (hi0 : 0 ≤ i) (hi3 : i ≤ 3) (hr : N.regs.length = rn) (hr2 : rn ≤ 20) (hm : g.args.length = m) (hm2 : m ≤ 16) :
    Calls Try.prog 114 #[netV i GA gn gc RA rn rc OA on oc, .agg #[I g.kind, I g.num, .slice A' m c']] w fun e w' => e = .returned (.bool (formM N g)) ∧ Ext w w' := by
  obtain ⟨kd, nm, ags⟩ := g
  simp only at hm
  have h5 : kd = 2 ∨ kd = 3 ∨ kd = 4 ∨ kd = 5 ∨ kd = 6 ∨ (kd ≠ 2 ∧ kd ≠ 3 ∧ kd ≠ 4 ∧ kd ≠ 5 ∧ kd ≠ 6) := by omega
  generalize hF : formM N ⟨kd, nm, ags⟩ = F
  unfold formM at hF
  simp only [hi, hr, hm] at hF
  clear hi hr hm
  rcases h5 with rfl | rfl | rfl | rfl | rfl | ⟨n2, n3, n4, n5, n6⟩
  · simp only [reduceIte, Int.reduceEq, false_or, or_false, true_or, or_true, or_self] at hF
    have HF := Lib.hid hF; clear hF
    go_enter Try.func114, Try.ntmps114
    go_wp2
    all_goals go_ret
    all_goals exact ⟨ret_bool (by rw [← HF.out, Bool.eq_iff_iff]; simp_all <;> omega), ((Ext.refl w).alloc _).alloc _⟩
  · simp only [reduceIte, Int.reduceEq, false_or, or_false, true_or, or_true, or_self] at hF
    have HF := Lib.hid hF; clear hF
    go_enter Try.func114, Try.ntmps114
    go_wp2
    all_goals go_ret
    all_goals exact ⟨ret_bool (by rw [← HF.out, Bool.eq_iff_iff]; simp_all <;> omega), ((Ext.refl w).alloc _).alloc _⟩
  · simp only [reduceIte, Int.reduceEq, false_or, or_false, true_or, or_true, or_self] at hF
    have HF := Lib.hid hF; clear hF
    go_enter Try.func114, Try.ntmps114
    go_wp2
    all_goals go_ret
    all_goals exact ⟨ret_bool (by rw [← HF.out, Bool.eq_iff_iff]; simp_all <;> omega), ((Ext.refl w).alloc _).alloc _⟩
  · simp only [reduceIte, Int.reduceEq, false_or, or_false, true_or, or_true, or_self] at hF
    have HF := Lib.hid hF; clear hF
    go_enter Try.func114, Try.ntmps114
    go_wp2
    all_goals go_ret
    all_goals exact ⟨ret_bool (by rw [← HF.out, Bool.eq_iff_iff]; simp_all <;> omega), ((Ext.refl w).alloc _).alloc _⟩
  · simp only [reduceIte, Int.reduceEq, false_or, or_false, true_or, or_true, or_self] at hF
    have HF := Lib.hid hF; clear hF
    go_enter Try.func114, Try.ntmps114
    go_wp2
    all_goals go_ret
    all_goals exact ⟨ret_bool (by rw [← HF.out, Bool.eq_iff_iff]; simp_all <;> omega), ((Ext.refl w).alloc _).alloc _⟩
  · simp only [n2, n3, n4, n5, n6, if_false, false_or, or_self] at hF
    have HF := Lib.hid hF; clear hF
    go_enter Try.func114, Try.ntmps114
    go_wp2
    all_goals go_ret
    all_goals exact ⟨ret_bool (by rw [← HF.out, Bool.eq_iff_iff]; simp_all <;> omega), ((Ext.refl w).alloc _).alloc _⟩

theorem tab_int' : (Try.prog.info? 3).map (fun i => (i.zero, i.size, i.bytes)) = some (some (.int .i64 0), 1, 8) := by kernel_rfl
theorem ints_one (xs : List Int) : ∀ u ∈ xs.map I, u.oneCell' = true := by
  intro u hu; obtain ⟨x, _, rfl⟩ := List.mem_map.1 hu; rfl

/-- slices.Clone of ints: a row of the call's own. -/
theorem cloneInts_any (A : Option Addr) (n c : Nat) (xs : List Int) (w : World) (h : Sl w A n (xs.map I)) (hn : n * 8 ≤ 140737488355328) :
    Calls Try.prog 106 #[.slice A n c] w fun e w' => ∃ v, e = .returned v ∧ w'.ownsRow w.heap.size 3 1 v n (xs.map I) ∧ Ext w w' := by
  have hnil := fun W a l c => Lib.run_eql_slice_nil (P := Try.prog) W 24 3 a l c 0 0 Try.underlying24
  cases A with
  | none =>
    have hm : n = 0 := by
      rcases Nat.eq_zero_or_pos n with e | e
      · exact e
      · obtain ⟨b, off, x, e2, _⟩ := h.at_ e; cases e2
    subst hm
    have hx : xs = [] := List.eq_nil_of_length_eq_zero h.len
    subst hx
    go_enter Try.func106, Try.ntmps106
    go_wp2
    go_ret
    exact ⟨_, rfl, World.ownsRow_nil _ _ _ _, Ext.refl _⟩
  | some ad =>
    have H := Lib.hid (h.keep (Keeps.alloc w (.cells #[] 3))); clear h
    go_enter Try.func106, Try.ntmps106
    go_wp2_with (at_builtin; refine wpList_appendAll rfl (.tmp 5) (.tmp 6) 24 3 rfl tab_int' Try.underlying24 rfl w ((Ext.refl w).alloc _) _ 0 [] rfl (own_empty w _ _ _ (Nat.le_refl _)) (some ad) n c _ rfl H.out (ints_one xs) (by unfold maxLen; omega) (by omega) ?_; intro v' w2 hown2 hx3 _)
    go_ret
    exact ⟨_, rfl, by simpa using hown2, hx3⟩
end Go.Proofs.Ytjagbnaacfhokaa
/- A gate's value, by the program and by the reference. -/
namespace Go.Proofs.Ytjagbnaacfhokaa
set_option linter.unusedVariables false
set_option linter.unusedSimpArgs false
open Go.RowKit

abbrev handV (RA : Option Addr) (rn rc : Nat) (IA : Option Addr) (jn jc : Nat) : Value := .agg #[.slice RA rn rc, .slice IA jn jc]
abbrev gateV (k n : Int) (AA : Option Addr) (an ac : Nat) : Value := .agg #[I k, I n, .slice AA an ac]
theorem box2 (w : World) (x y : Value) (T : TypeId) {W : World} (h : W = w.alloc (.cells #[x, y] T)) : W.cell? ⟨w.heap.size, 0, none⟩ = some x ∧ W.cell? ⟨w.heap.size, 1, none⟩ = some y ∧ Ext w W := by
  subst h
  exact ⟨by rw [World.cell?_alloc_new]; rfl, by rw [World.cell?_alloc_new]; rfl, (Ext.refl _).alloc _⟩
theorem box3 (w : World) (x y z : Value) (T : TypeId) {W : World} (h : W = w.alloc (.cells #[x, y, z] T)) : W.cell? ⟨w.heap.size, 0, none⟩ = some x ∧ W.cell? ⟨w.heap.size, 1, none⟩ = some y ∧ W.cell? ⟨w.heap.size, 2, none⟩ = some z ∧ Ext w W := by
  subst h
  exact ⟨by rw [World.cell?_alloc_new]; rfl, by rw [World.cell?_alloc_new]; rfl, by rw [World.cell?_alloc_new]; rfl, (Ext.refl _).alloc _⟩
theorem valI_at {v : List Int} {k : Nat} {x : Int} (h : v[k]? = some x) : valI v (k : Int) = x := by simp [valI, h]
theorem take_next {α β : Type} (f : α → β) (l : List α) {k : Nat} {x : α} (h : l[k]? = some x) : (l.take (k + 1)).map f = (l.take k).map f ++ [f x] := by
  rw [List.take_add_one, h]; simp

set_option maxHeartbeats 2000000 in
theorem handOf_any (RA : Option Addr) (rn rc : Nat) (IA : Option Addr) (jn jc : Nat) (AA : Option Addr) (an ac : Nat) (VA : Option Addr) (vn vc : Nat) (regs ins v : List Int) (g : GateM) (w : World)
    (hr : Sl w RA rn (regs.map I)) (hi : Sl w IA jn (ins.map I)) (ha : Sl w AA an (g.args.map I)) (hv : Sl w VA vn (v.map I)) (hg : GateR vn rn jn g) (hvg : goodL v) :
    Calls Try.prog 80 #[handV RA rn rc IA jn jc, gateV g.kind g.num AA an ac, .slice VA vn vc] w fun e w' => e = .returned (I (worthM regs ins v g)) ∧ Ext w w' := by
  obtain ⟨kd, nm, args⟩ := g
  simp only at ha ⊢
  generalize hM : worthM regs ins v ⟨kd, nm, args⟩ = M
  unfold worthM at hM
  simp only at hM
  have hkd := hg.kind; simp only at hkd
  have hinp := hg.inp; have hreg := hg.reg; have hone := hg.one; have hargs := hg.args; have hal := hg.al
  simp only at hinp hreg hone hargs hal
  have han := ha.len
  obtain ⟨W, hW⟩ : ∃ W, W = w.alloc (.cells #[.slice RA rn rc, .slice IA jn jc] 87) := ⟨_, rfl⟩
  obtain ⟨W2, hW2⟩ : ∃ W2, W2 = W.alloc (.cells #[I kd, I nm, .slice AA an ac] 34) := ⟨_, rfl⟩
  obtain ⟨p0, p1, x1⟩ := box2 w _ _ _ hW
  obtain ⟨y0, y1, y2, x2⟩ := box3 W _ _ _ _ hW2
  have q0 := x2.keeps _ _ p0; have q1 := x2.keeps _ _ p1
  have hWs : W.heap.size = w.heap.size + 1 := by rw [hW]; simp
  rw [hWs] at y0 y1 y2
  have hx := x1.trans x2
  have hW3 : W2 = (w.alloc (.cells #[.slice RA rn rc, .slice IA jn jc] 87)).alloc (.cells #[I kd, I nm, .slice AA an ac] 34) := by rw [hW2, hW]
  have HW := Lib.hid hW3; have HX := Lib.hid hx
  have HR := Lib.hid (hr.keep hx.keeps); have HI := Lib.hid (hi.keep hx.keeps); have HA := Lib.hid (ha.keep hx.keeps); have HV := Lib.hid (hv.keep hx.keeps)
  have HG := Lib.hid hvg; have HAR := Lib.hid hargs
  clear hW hW2 hW3 x1 x2 hx p0 p1 hWs hr hi ha hv hvg hg hargs
  have hk : kd = 0 ∨ kd = 1 ∨ kd = 2 ∨ kd = 3 ∨ kd = 4 ∨ kd = 5 ∨ kd = 6 := by omega
  clear hkd
  rcases hk with rfl | rfl | rfl | rfl | hk
  · have HM := Lib.hid hM; clear hM hinp hreg hone
    go_enter Try.func80, Try.ntmps80
    go_wp2_with fail
    rw [← HW.out]
    go_wp2
    go_ret
    exact ⟨ret_int (by rw [← HM.out]; rfl), HX.out⟩
  · have HM := Lib.hid hM; clear hM hinp hreg hone
    go_enter Try.func80, Try.ntmps80
    go_wp2_with fail
    rw [← HW.out]
    go_wp2
    go_ret
    exact ⟨ret_int (by rw [← HM.out]; rfl), HX.out⟩
  · obtain ⟨h0, h1⟩ := hinp rfl
    obtain ⟨k, rfl⟩ : ∃ k : Nat, nm = k := ⟨nm.toNat, by omega⟩
    have hk : k < jn := by omega
    obtain ⟨b, off, x, rfl, hc, hx⟩ := HI.out.at_ hk
    have HM : Hid (x = M) := by unfold Hid; rw [← hM]; simp [valI, hx]
    clear hM hinp hreg hone hx h0 h1
    rw [HW.out] at hc
    go_enter Try.func80, Try.ntmps80
    go_wp2
    go_ret
    rw [← HW.out]
    exact ⟨ret_int HM.out, HX.out⟩
  · obtain ⟨h0, h1⟩ := hreg rfl
    obtain ⟨k, rfl⟩ : ∃ k : Nat, nm = k := ⟨nm.toNat, by omega⟩
    have hk : k < rn := by omega
    obtain ⟨b, off, x, rfl, hc, hx⟩ := HR.out.at_ hk
    have HM : Hid (x = M) := by unfold Hid; rw [← hM]; simp [valI, hx]
    clear hM hinp hreg hone hx h0 h1
    rw [HW.out] at hc
    go_enter Try.func80, Try.ntmps80
    go_wp2
    go_ret
    rw [← HW.out]
    exact ⟨ret_int HM.out, HX.out⟩
  · rw [if_neg (by omega), if_neg (by omega), if_neg (by omega), if_neg (by omega)] at hM
    have k0 : (kd == 0) = false := by simpa using (show ¬ kd = 0 by omega)
    have k1 : (kd == 1) = false := by simpa using (show ¬ kd = 1 by omega)
    have k2 : (kd == 2) = false := by simpa using (show ¬ kd = 2 by omega)
    have k3 : (kd == 3) = false := by simpa using (show ¬ kd = 3 by omega)
    have HM := Lib.hid hM; have HO := Lib.hid hone; have HK := Lib.hid hk; clear hM hinp hreg hone hk
    go_enter Try.func80, Try.ntmps80
    go_wp2_with fail
    rw [← HW.out]
    go_wp2
    go_loopw [7, 35] (fun s i wr => ∃ (k : Nat), k ≤ an ∧ i = .int .i64 k ∧ Ext W2 wr ∧ wr.ownsRow W2.heap.size 3 1 s k (((args.take k).map (valI v)).map I)) (fun _ i _ => an - (intOf i).toNat)
    case atStart => exact ⟨0, Nat.zero_le _, rfl, Ext.refl _, World.ownsRow_nil _ _ _ _⟩
    case round =>
      obtain ⟨k, hk, rfl, hext, hown⟩ := hrel
      by_cases hlt : k < an
      · obtain ⟨b, off, x, rfl, hc0, hx⟩ := HA.out.at_ hlt
        have hc := hext.keeps _ _ hc0
        obtain ⟨ha0, ha1⟩ := HAR.out x (List.mem_of_getElem? hx)
        obtain ⟨j, rfl⟩ : ∃ j : Nat, x = j := ⟨x.toNat, by omega⟩
        have hj : j < vn := by omega
        obtain ⟨b', off', y, rfl, hd0, hy⟩ := HV.out.at_ hj
        have hd := hext.keeps _ _ hd0
        have hn := take_next (valI v) args hx
        rw [valI_at hy] at hn
        have HN := Lib.hid hn; have HOwn := Lib.hid hown
        clear hn hown hx hy hc0 hd0 ha0 ha1
        go_wp2_with (at_builtin; refine wpList_push rfl (.tmp 39) (.tmp 44) 24 3 rfl tab_int' Try.underlying24 rfl (by omega) W2 wr hext _ k _ rfl HOwn.out [I y] rfl rfl rfl (by simp [Value.oneCell']) (by unfold maxLen; omega) (by omega) ?_; intro v' w2 hown2 hx3 _)
        go_roundw
        case rel => exact ⟨k + 1, by omega, by go_num, hx3, by rw [HN.out]; simpa using hown2⟩
        case measure => simp [intOf]; omega
      · have hkn : k = an := by omega
        subst hkn
        have ht : args.take k = args := List.take_of_length_le (by omega)
        rw [ht] at hown
        obtain ⟨S, sc, rfl, hs1, hs2, hsl⟩ := own_sl hown
        have HS := Lib.hid hsl
        have z0 := hext.keeps _ _ y0
        clear ht hown hsl hk hlt
        rcases HK.out with rfl | rfl | rfl
        · have HX2 := Lib.hid (HX.out.trans hext); clear hext
          go_wp2_with fail
          refine (ofAll_any _ k sc _ wr HS.out (by unfold maxLen; omega)).mono ?_; rintro e w' ⟨rfl, rfl⟩
          go_wp2
          go_ret
          exact ⟨ret_int HM.out, HX2.out⟩
        · have HX2 := Lib.hid (HX.out.trans hext); clear hext
          go_wp2_with fail
          refine (ofAny_any _ k sc _ wr HS.out (by unfold maxLen; omega)).mono ?_; rintro e w' ⟨rfl, rfl⟩
          go_wp2
          go_ret
          exact ⟨ret_int HM.out, HX2.out⟩
        · have HX2 := Lib.hid (HX.out.trans hext); clear hext
          obtain ⟨a, rfl⟩ : ∃ a, args = [a] := by
            have := HO.out rfl
            match args, this with
            | [a], _ => exact ⟨a, rfl⟩
          have hb : bad3 (valI v a) = false := by rcases valI_good HG.out a with e | e | e <;> rw [e] <;> rfl
          have HB := Lib.hid hb; clear hb
          go_wp2_with fail
          refine (ofNot_any _ k sc (valI v a) [] wr HS.out (by unfold maxLen; omega) HB.out).mono ?_; rintro e w' ⟨rfl, rfl⟩
          go_wp2
          go_ret
          exact ⟨ret_int HM.out, HX2.out⟩
end Go.Proofs.Ytjagbnaacfhokaa
