/- net.form, slices.Clone at []int. -/
import Derived.Test.YtlafiddfplhafaaFc03
import Derived.Test.YtlafiddfplhafaaFc02
import Derived.Deep.RegionHeld3
import Derived.Deep.DrawnRows
import Derived.StillTailTactics
import Derived.Maps.GroupsBeside
namespace Go.Proofs.Ytlafiddfplhafaa
set_option linter.unusedVariables false
set_option linter.unusedSimpArgs false
set_option linter.unusedVariables false
set_option linter.unusedSimpArgs false
open Go.RowKit
set_option maxHeartbeats 2000000 in
theorem form_any (i : Int) (GA : Option Addr) (gn gc : Nat) (RA : Option Addr) (rn rc : Nat) (OA : Option Addr) (on oc : Nat) (A' : Option Addr) (m c' : Nat) (N : NetM) (g : GateM) (w : World)
    (hi : N.ins = i) (hi0 : 0 ≤ i) (hi3 : i ≤ 3) (hr : N.regs.length = rn) (hr2 : rn ≤ 20) (hm : g.args.length = m) (hm2 : m ≤ 16) :
    Calls Try.prog 49 #[netV i GA gn gc RA rn rc OA on oc, .agg #[I g.kind, I g.num, .slice A' m c']] w fun e w' => e = .returned (.bool (formM N g)) ∧ Ext w w' := by
  obtain ⟨kd, nm, ags⟩ := g
  simp only at hm
  have h5 : kd = 2 ∨ kd = 3 ∨ kd = 4 ∨ kd = 5 ∨ kd = 6 ∨ (kd ≠ 2 ∧ kd ≠ 3 ∧ kd ≠ 4 ∧ kd ≠ 5 ∧ kd ≠ 6) := by omega
  generalize hF : formM N ⟨kd, nm, ags⟩ = F
  unfold formM at hF
  simp only [hi, hr, hm] at hF
  clear hi hr hm
  rcases h5 with rfl | rfl | rfl | rfl | rfl | ⟨n2, n3, n4, n5, n6⟩
  · simp only [reduceIte, Int.reduceEq, false_or, or_false, true_or, or_true, or_self] at hF
    have HF := Lib.hid hF; clear hF
    go_enter Try.func49, Try.ntmps49
    go_wp2
    all_goals go_ret
    all_goals exact ⟨ret_bool (by rw [← HF.out, Bool.eq_iff_iff]; simp_all <;> omega), ((Ext.refl w).alloc _).alloc _⟩
  · simp only [reduceIte, Int.reduceEq, false_or, or_false, true_or, or_true, or_self] at hF
    have HF := Lib.hid hF; clear hF
    go_enter Try.func49, Try.ntmps49
    go_wp2
    all_goals go_ret
    all_goals exact ⟨ret_bool (by rw [← HF.out, Bool.eq_iff_iff]; simp_all <;> omega), ((Ext.refl w).alloc _).alloc _⟩
  · simp only [reduceIte, Int.reduceEq, false_or, or_false, true_or, or_true, or_self] at hF
    have HF := Lib.hid hF; clear hF
    go_enter Try.func49, Try.ntmps49
    go_wp2
    all_goals go_ret
    all_goals exact ⟨ret_bool (by rw [← HF.out, Bool.eq_iff_iff]; simp_all <;> omega), ((Ext.refl w).alloc _).alloc _⟩
  · simp only [reduceIte, Int.reduceEq, false_or, or_false, true_or, or_true, or_self] at hF
    have HF := Lib.hid hF; clear hF
    go_enter Try.func49, Try.ntmps49
    go_wp2
    all_goals go_ret
    all_goals exact ⟨ret_bool (by rw [← HF.out, Bool.eq_iff_iff]; simp_all <;> omega), ((Ext.refl w).alloc _).alloc _⟩
  · simp only [reduceIte, Int.reduceEq, false_or, or_false, true_or, or_true, or_self] at hF
    have HF := Lib.hid hF; clear hF
    go_enter Try.func49, Try.ntmps49
    go_wp2
    all_goals go_ret
    all_goals exact ⟨ret_bool (by rw [← HF.out, Bool.eq_iff_iff]; simp_all <;> omega), ((Ext.refl w).alloc _).alloc _⟩
  · simp only [n2, n3, n4, n5, n6, if_false, false_or, or_self] at hF
    have HF := Lib.hid hF; clear hF
    go_enter Try.func49, Try.ntmps49
    go_wp2
    all_goals go_ret
    all_goals exact ⟨ret_bool (by rw [← HF.out, Bool.eq_iff_iff]; simp_all <;> omega), ((Ext.refl w).alloc _).alloc _⟩
theorem tab_int' : (Try.prog.info? 3).map (fun i => (i.zero, i.size, i.bytes)) = some (some (.int .i64 0), 1, 8) := by kernel_rfl
theorem ints_one (xs : List Int) : ∀ u ∈ xs.map I, u.oneCell' = true := by
  intro u hu; obtain ⟨x, _, rfl⟩ := List.mem_map.1 hu; rfl
/-- slices.Clone of ints: a row of the call's own. -/
theorem cloneInts_any (A : Option Addr) (n c : Nat) (xs : List Int) (w : World) (h : Sl w A n (xs.map I)) (hn : n * 8 ≤ 140737488355328) :
    Calls Try.prog 48 #[.slice A n c] w fun e w' => ∃ v, e = .returned v ∧ w'.ownsRow w.heap.size 3 1 v n (xs.map I) ∧ Ext w w' := by
  have hnil := fun W a l c => Lib.run_eql_slice_nil (P := Try.prog) W 23 3 a l c 0 0 Try.underlying23
  cases A with
  | none =>
    have hm : n = 0 := by
      rcases Nat.eq_zero_or_pos n with e | e
      · exact e
      · obtain ⟨b, off, x, e2, _⟩ := h.at_ e; cases e2
    subst hm
    have hx : xs = [] := List.eq_nil_of_length_eq_zero h.len
    subst hx
    go_enter Try.func48, Try.ntmps48
    go_wp2
    go_ret
    exact ⟨_, rfl, World.ownsRow_nil _ _ _ _, Ext.refl _⟩
  | some ad =>
    have H := Lib.hid (h.keep (Keeps.alloc w (.cells #[] 3))); clear h
    go_enter Try.func48, Try.ntmps48
    go_wp2_with (at_builtin; refine wpList_appendAll rfl (.tmp 5) (.tmp 6) 23 3 rfl tab_int' Try.underlying23 rfl w ((Ext.refl w).alloc _) _ 0 [] rfl (own_empty w _ _ _ (Nat.le_refl _)) (some ad) n c _ rfl H.out (ints_one xs) (by unfold maxLen; omega) (by omega) ?_; intro v' w2 hown2 hx3 _)
    go_ret
    exact ⟨_, rfl, by simpa using hown2, hx3⟩
end Go.Proofs.Ytlafiddfplhafaa
/- A gate's value, by the program and by the reference. -/
namespace Go.Proofs.Ytlafiddfplhafaa
set_option linter.unusedVariables false
set_option linter.unusedSimpArgs false
open Go.RowKit
abbrev handV (RA : Option Addr) (rn rc : Nat) (IA : Option Addr) (jn jc : Nat) : Value := .agg #[.slice RA rn rc, .slice IA jn jc]
abbrev gateV (k n : Int) (AA : Option Addr) (an ac : Nat) : Value := .agg #[I k, I n, .slice AA an ac]
theorem box2 (w : World) (x y : Value) (T : TypeId) {W : World} (h : W = w.alloc (.cells #[x, y] T)) : W.cell? ⟨w.heap.size, 0, none⟩ = some x ∧ W.cell? ⟨w.heap.size, 1, none⟩ = some y ∧ Ext w W := by
  subst h
  exact ⟨by rw [World.cell?_alloc_new]; rfl, by rw [World.cell?_alloc_new]; rfl, (Ext.refl _).alloc _⟩
theorem box3 (w : World) (x y z : Value) (T : TypeId) {W : World} (h : W = w.alloc (.cells #[x, y, z] T)) : W.cell? ⟨w.heap.size, 0, none⟩ = some x ∧ W.cell? ⟨w.heap.size, 1, none⟩ = some y ∧ W.cell? ⟨w.heap.size, 2, none⟩ = some z ∧ Ext w W := by
  subst h
  exact ⟨by rw [World.cell?_alloc_new]; rfl, by rw [World.cell?_alloc_new]; rfl, by rw [World.cell?_alloc_new]; rfl, (Ext.refl _).alloc _⟩
theorem valI_at {v : List Int} {k : Nat} {x : Int} (h : v[k]? = some x) : valI v (k : Int) = x := by simp [valI, h]
theorem take_next {α β : Type} (f : α → β) (l : List α) {k : Nat} {x : α} (h : l[k]? = some x) : (l.take (k + 1)).map f = (l.take k).map f ++ [f x] := by
  rw [List.take_add_one, h]; simp
set_option maxHeartbeats 2000000 in
theorem handOf_any (RA : Option Addr) (rn rc : Nat) (IA : Option Addr) (jn jc : Nat) (AA : Option Addr) (an ac : Nat) (VA : Option Addr) (vn vc : Nat) (regs ins v : List Int) (g : GateM) (w : World)
    (hr : Sl w RA rn (regs.map I)) (hi : Sl w IA jn (ins.map I)) (ha : Sl w AA an (g.args.map I)) (hv : Sl w VA vn (v.map I)) (hg : GateR vn rn jn g) (hvg : goodL v) :
    Calls Try.prog 87 #[handV RA rn rc IA jn jc, gateV g.kind g.num AA an ac, .slice VA vn vc] w fun e w' => e = .returned (I (worthM regs ins v g)) ∧ Ext w w' := by
  obtain ⟨kd, nm, args⟩ := g
  simp only at ha ⊢
  generalize hM : worthM regs ins v ⟨kd, nm, args⟩ = M
  unfold worthM at hM
  simp only at hM
  have hkd := hg.kind; simp only at hkd
  have hinp := hg.inp; have hreg := hg.reg; have hone := hg.one; have hargs := hg.args; have hal := hg.al
  simp only at hinp hreg hone hargs hal
  have han := ha.len
  obtain ⟨W, hW⟩ : ∃ W, W = w.alloc (.cells #[.slice RA rn rc, .slice IA jn jc] 110) := ⟨_, rfl⟩
  obtain ⟨W2, hW2⟩ : ∃ W2, W2 = W.alloc (.cells #[I kd, I nm, .slice AA an ac] 95) := ⟨_, rfl⟩
  obtain ⟨p0, p1, x1⟩ := box2 w _ _ _ hW
  obtain ⟨y0, y1, y2, x2⟩ := box3 W _ _ _ _ hW2
  have q0 := x2.keeps _ _ p0; have q1 := x2.keeps _ _ p1
  have hWs : W.heap.size = w.heap.size + 1 := by rw [hW]; simp
  rw [hWs] at y0 y1 y2
  have hx := x1.trans x2
  have hW3 : W2 = (w.alloc (.cells #[.slice RA rn rc, .slice IA jn jc] 110)).alloc (.cells #[I kd, I nm, .slice AA an ac] 95) := by rw [hW2, hW]
  have HW := Lib.hid hW3; have HX := Lib.hid hx
  have HR := Lib.hid (hr.keep hx.keeps); have HI := Lib.hid (hi.keep hx.keeps); have HA := Lib.hid (ha.keep hx.keeps); have HV := Lib.hid (hv.keep hx.keeps)
  have HG := Lib.hid hvg; have HAR := Lib.hid hargs
  clear hW hW2 hW3 x1 x2 hx p0 p1 hWs hr hi ha hv hvg hg hargs
  have hk : kd = 0 ∨ kd = 1 ∨ kd = 2 ∨ kd = 3 ∨ kd = 4 ∨ kd = 5 ∨ kd = 6 := by omega
  clear hkd
  rcases hk with rfl | rfl | rfl | rfl | hk
  · have HM := Lib.hid hM; clear hM hinp hreg hone
    go_enter Try.func87, Try.ntmps87
    go_wp2_with fail
    rw [← HW.out]
    go_wp2
    go_ret
    exact ⟨ret_int (by rw [← HM.out]; rfl), HX.out⟩
  · have HM := Lib.hid hM; clear hM hinp hreg hone
    go_enter Try.func87, Try.ntmps87
    go_wp2_with fail
    rw [← HW.out]
    go_wp2
    go_ret
    exact ⟨ret_int (by rw [← HM.out]; rfl), HX.out⟩
  · obtain ⟨h0, h1⟩ := hinp rfl
    obtain ⟨k, rfl⟩ : ∃ k : Nat, nm = k := ⟨nm.toNat, by omega⟩
    have hk : k < jn := by omega
    obtain ⟨b, off, x, rfl, hc, hx⟩ := HI.out.at_ hk
    have HM : Hid (x = M) := by unfold Hid; rw [← hM]; simp [valI, hx]
    clear hM hinp hreg hone hx h0 h1
    rw [HW.out] at hc
    go_enter Try.func87, Try.ntmps87
    go_wp2
    go_ret
    rw [← HW.out]
    exact ⟨ret_int HM.out, HX.out⟩
  · obtain ⟨h0, h1⟩ := hreg rfl
    obtain ⟨k, rfl⟩ : ∃ k : Nat, nm = k := ⟨nm.toNat, by omega⟩
    have hk : k < rn := by omega
    obtain ⟨b, off, x, rfl, hc, hx⟩ := HR.out.at_ hk
    have HM : Hid (x = M) := by unfold Hid; rw [← hM]; simp [valI, hx]
    clear hM hinp hreg hone hx h0 h1
    rw [HW.out] at hc
    go_enter Try.func87, Try.ntmps87
    go_wp2
    go_ret
    rw [← HW.out]
    exact ⟨ret_int HM.out, HX.out⟩
  · rw [if_neg (by omega), if_neg (by omega), if_neg (by omega), if_neg (by omega)] at hM
    have k0 : (kd == 0) = false := by simpa using (show ¬ kd = 0 by omega)
    have k1 : (kd == 1) = false := by simpa using (show ¬ kd = 1 by omega)
    have k2 : (kd == 2) = false := by simpa using (show ¬ kd = 2 by omega)
    have k3 : (kd == 3) = false := by simpa using (show ¬ kd = 3 by omega)
    have HM := Lib.hid hM; have HO := Lib.hid hone; have HK := Lib.hid hk; clear hM hinp hreg hone hk
    go_enter Try.func87, Try.ntmps87
    go_wp2_with fail
    rw [← HW.out]
    go_wp2
    go_loopw [7, 35] (fun s i wr => ∃ (k : Nat), k ≤ an ∧ i = .int .i64 k ∧ Ext W2 wr ∧ wr.ownsRow W2.heap.size 3 1 s k (((args.take k).map (valI v)).map I)) (fun _ i _ => an - (intOf i).toNat)
    case atStart => exact ⟨0, Nat.zero_le _, rfl, Ext.refl _, World.ownsRow_nil _ _ _ _⟩
    case round =>
      obtain ⟨k, hk, rfl, hext, hown⟩ := hrel
      by_cases hlt : k < an
      · obtain ⟨b, off, x, rfl, hc0, hx⟩ := HA.out.at_ hlt
        have hc := hext.keeps _ _ hc0
        obtain ⟨ha0, ha1⟩ := HAR.out x (List.mem_of_getElem? hx)
        obtain ⟨j, rfl⟩ : ∃ j : Nat, x = j := ⟨x.toNat, by omega⟩
        have hj : j < vn := by omega
        obtain ⟨b', off', y, rfl, hd0, hy⟩ := HV.out.at_ hj
        have hd := hext.keeps _ _ hd0
        have hn := take_next (valI v) args hx
        rw [valI_at hy] at hn
        have HN := Lib.hid hn; have HOwn := Lib.hid hown
        clear hn hown hx hy hc0 hd0 ha0 ha1
        go_wp2_with (at_builtin; refine wpList_push rfl (.tmp 39) (.tmp 44) 23 3 rfl tab_int' Try.underlying23 rfl (by omega) W2 wr hext _ k _ rfl HOwn.out [I y] rfl rfl rfl (by simp [Value.oneCell']) (by unfold maxLen; omega) (by omega) ?_; intro v' w2 hown2 hx3 _)
        go_roundw
        case rel => exact ⟨k + 1, by omega, by go_num, hx3, by rw [HN.out]; simpa using hown2⟩
        case measure => simp [intOf]; omega
      · have hkn : k = an := by omega
        subst hkn
        have ht : args.take k = args := List.take_of_length_le (by omega)
        rw [ht] at hown
        obtain ⟨S, sc, rfl, hs1, hs2, hsl⟩ := own_sl hown
        have HS := Lib.hid hsl
        have z0 := hext.keeps _ _ y0
        clear ht hown hsl hk hlt
        rcases HK.out with rfl | rfl | rfl
        · have HX2 := Lib.hid (HX.out.trans hext); clear hext
          go_wp2_with fail
          refine (ofAll_any _ k sc _ wr HS.out (by unfold maxLen; omega)).mono ?_; rintro e w' ⟨rfl, rfl⟩
          go_wp2
          go_ret
          exact ⟨ret_int HM.out, HX2.out⟩
        · have HX2 := Lib.hid (HX.out.trans hext); clear hext
          go_wp2_with fail
          refine (ofAny_any _ k sc _ wr HS.out (by unfold maxLen; omega)).mono ?_; rintro e w' ⟨rfl, rfl⟩
          go_wp2
          go_ret
          exact ⟨ret_int HM.out, HX2.out⟩
        · have HX2 := Lib.hid (HX.out.trans hext); clear hext
          obtain ⟨a, rfl⟩ : ∃ a, args = [a] := by
            have := HO.out rfl
            match args, this with
            | [a], _ => exact ⟨a, rfl⟩
          have hb : bad3 (valI v a) = false := by rcases valI_good HG.out a with e | e | e <;> rw [e] <;> rfl
          have HB := Lib.hid hb; clear hb
          go_wp2_with fail
          refine (ofNot_any _ k sc (valI v a) [] wr HS.out (by unfold maxLen; omega) HB.out).mono ?_; rintro e w' ⟨rfl, rfl⟩
          go_wp2
          go_ret
          exact ⟨ret_int HM.out, HX2.out⟩
end Go.Proofs.Ytlafiddfplhafaa
/- Whom each gate serves: users walked. -/
namespace Go.Proofs.Ytlafiddfplhafaa
set_option linter.unusedVariables false
set_option linter.unusedSimpArgs false
open Go.RowKit
theorem tab_ints : (Try.prog.info? 23).map (fun i => (i.zero, i.size, i.bytes)) = some (some (.slice none 0 0), 1, 24) := by kernel_rfl
set_option maxRecDepth 100000 in
set_option maxHeartbeats 4000000 in
theorem users_any (i : Int) (GA : Option Addr) (gn gc : Nat) (RA : Option Addr) (rn rc : Nat) (OA : Option Addr) (on oc : Nat) (N : NetM) (w : World) (h : NetC w i GA gn gc RA rn rc OA on oc N) (ok : NetOK N) :
    Calls Try.prog 86 #[netV i GA gn gc RA rn rc OA on oc] w fun e w' => ∃ g0 vs, e = .returned (.slice (some ⟨g0, 0, none⟩) gn gn) ∧ Rows2 23 3 w' w.heap.size g0 gn (usersM N.gates) vs ∧ Ext w w' := by
  have hgl : N.gates.length = gn := h.gates.1
  have hg200 : gn ≤ 200 := by have := ok.gl; omega
  obtain ⟨W, hW⟩ : ∃ W, W = w.alloc (.cells #[I i, .slice GA gn gc, .slice RA rn rc, .slice OA on oc] 39) := ⟨_, rfl⟩
  have hxW : Ext w W := by rw [hW]; exact (Ext.refl _).alloc _
  have hbox : NetBox W w.heap.size i GA gn gc RA rn rc OA on oc := by rw [hW]; exact NetBox.new w i GA gn gc RA rn rc OA on oc _
  have HN := Lib.hid (h.keep hxW.keeps); have HBox := Lib.hid hbox; have HW := Lib.hid hW; have HX := Lib.hid hxW; have HOK := Lib.hid ok
  have hmk := fun Q => run_make1 (P := Try.prog) 24 23 tab_ints Try.underlying24 rfl gn (by omega) (by omega) Q
  have hsz : W.heap.size = w.heap.size + 1 := by rw [hW]; simp
  have hst := Rows2.start (E := 23) (T := 3) (n := gn) (base := W.heap.size) W (Nat.le_refl _) (by unfold maxLen; omega) (w.heap.size + 1) hsz.symm
  have HSZ := Lib.hid hsz
  have HST := Lib.hid hst
  clear h hW hxW hbox hst ok hsz
  go_enter Try.func86, Try.ntmps86
  go_wp2_with fail
  rw [← HW.out]
  go_wp2_with fail
  clear hmk
  go_loopw [15] (fun j wr => ∃ (k : Nat) (U : List (List Int)) (vs : List Value), k ≤ gn ∧ j = .int .i64 k ∧ Ext W wr ∧ Rows2 23 3 wr W.heap.size (w.heap.size + 1) gn U vs ∧ usersFrom (N.gates.drop k) k U = usersM N.gates ∧ totalU U ≤ 16 * k) (fun j _ => gn - (intOf j).toNat)
  case atStart => exact ⟨0, _, _, Nat.zero_le _, rfl, (Ext.refl _).alloc _, HST.out, by unfold usersM; rw [HN.out.gates.1]; rfl, by simp [totalU]⟩
  case round =>
    obtain ⟨k, U, vs, hk, rfl, hext, hrows, hM, htot⟩ := hrel
    by_cases hlt : k < gn
    · obtain ⟨b, off, A', m, c', g, rfl, g0, g1, g2, hs, hmc, hcm, hd, hgk⟩ := HN.out.gates.next hlt
      have hgm : g ∈ N.gates := List.mem_of_getElem? hgk
      have hgr := HOK.out.gate hgm
      rw [HN.out.gates.1] at hgr
      have c0 := hext.keeps _ _ g0; have c1 := hext.keeps _ _ g1; have c2 := hext.keeps _ _ g2
      rw [hd] at hM
      have HM := Lib.hid hM; have HS := Lib.hid hs; have HRows := Lib.hid hrows; have HGR := Lib.hid hgr; have HT := Lib.hid htot; have HE := Lib.hid hext
      have hm16 : m ≤ 16 := by have := hs.len; have := hgr.al; omega
      clear hM hs hrows hgr htot hext g0 g1 g2 hd hgk hgm hmc hcm
      go_wp2_with fail
      have hxg : Ext W (wr.alloc (.cells #[I g.kind, I g.num, .slice A' m c'] 95)) := HE.out.alloc _
      have hrg := HRows.out.ext ((Ext.refl wr).alloc (.cells #[I g.kind, I g.num, .slice A' m c'] 95))
      have HXG := Lib.hid hxg; have HRG := Lib.hid hrg
      clear hxg hrg HRows c0 c1 c2 HE
      go_loopw [23] (fun j wr2 => ∃ (q : Nat) (U2 : List (List Int)) (vs2 : List Value), q ≤ m ∧ j = .int .i64 q ∧ Ext W wr2 ∧ Rows2 23 3 wr2 W.heap.size (w.heap.size + 1) gn U2 vs2 ∧ addUses U2 k (g.args.drop q) = addUses U k g.args ∧ totalU U2 ≤ 16 * k + q) (fun j _ => m - (intOf j).toNat)
      case atStart => exact ⟨0, U, vs, Nat.zero_le _, rfl, HXG.out, HRG.out, rfl, HT.out⟩
      case round =>
        obtain ⟨q, U2, vs2, hq, rfl, hext2, hrows2, hM2, htot2⟩ := hrel
        by_cases hltq : q < m
        · obtain ⟨b2, off2, x, rfl, hc0, hdq⟩ := HS.out.next hltq
          have hxm : x ∈ g.args := by
            have : x ∈ g.args.drop q := by rw [hdq]; simp
            exact List.mem_of_mem_drop this
          obtain ⟨hx0, hx1⟩ := HGR.out.args x hxm
          obtain ⟨a, rfl⟩ : ∃ a : Nat, x = a := ⟨x.toNat, by omega⟩
          have ha : a < gn := by omega
          obtain ⟨v, u, hv, hu, hcell, hfree, hown, hbase⟩ := hrows2.get ha
          obtain ⟨A3, c3, rfl, -, -, -⟩ := own_slice hown
          have hc := hext2.keeps _ _ hc0
          have hlen := len_le_total hu
          rw [hdq] at hM2
          have hul : u.length ≤ 3200 := by omega
          have HM2 := Lib.hid hM2; have HR2 := Lib.hid hrows2; have HT2 := Lib.hid htot2; have HE2 := Lib.hid hext2; have HO := Lib.hid hown; have HV := Lib.hid hv; have HU := Lib.hid hu; have HC := Lib.hid hcell; have HF := Lib.hid hfree
          clear hM2 hrows2 htot2 hext2 hown hc0 hdq hxm hx0 hx1 hlen hv hu hbase hfree
          go_wp2_with (at_builtin; refine wpList_appendBig rfl (.tmp 32) (.tmp 34) 23 3 rfl tab_int' Try.underlying23 rfl (by omega) W (HE2.out.alloc _) _ u.length _ rfl (own_ext HO.out ((Ext.refl _).alloc _)) (some ⟨wr.heap.size, 0, none⟩) 1 1 [I k] rfl (Sl.newAt _ _ [I k] _ rfl) (by simp [Value.oneCell']) (by omega) (by omega) ?_; intro v' w2 hown2 hx3 hg3 hf3; obtain ⟨A4, c4, rfl, -, -, -⟩ := own_slice hown2; have e1 := hg3.cell (a := ⟨w.heap.size + 1, a, none⟩) (Keeps.alloc _ _ _ _ HC.out) (fun e => HR2.out.off a _ HV.out e.symm); have e2 := (frozen_keep hg3 ((Ext.refl wr).alloc _) HC.out (fun e => HR2.out.off a _ HV.out e.symm)).trans HF.out; clear hcell)
          go_roundw
          case rel =>
            have hst := (HR2.out.ext ((Ext.refl wr).alloc (.cells #[I k] 3))).step HV.out HU.out hown2 hg3 hf3
            refine ⟨q + 1, _, _, by omega, by go_num, hx3.setCell (by show W.heap.size ≤ w.heap.size + 1; exact Nat.le_of_eq HSZ.out) _, hst, HM2.out, ?_⟩
            · have h1 := total_modify (k : Int) U2 a; have h2 := HT2.out; omega
          case measure => simp [intOf]; omega
        · have hqm : q = m := by omega
          subst hqm
          rw [HS.out.drop_end hltq] at hM2
          have HM2 := Lib.hid hM2; have HR2 := Lib.hid hrows2; have HT2 := Lib.hid htot2; have HE2 := Lib.hid hext2
          clear hM2 hrows2 htot2 hext2 hltq hq
          go_wp2
          go_roundw
          case rel => exact ⟨k + 1, U2, vs2, by omega, by go_num, HE2.out, HR2.out, by rw [← HM.out, show U2 = addUses U k g.args from HM2.out]; rfl, by have := HT2.out; omega⟩
          case measure => simp [intOf]; omega
    · have hkn : k = gn := by omega
      subst hkn
      rw [HN.out.gates.drop_end hlt] at hM
      have hU : U = usersM N.gates := hM
      subst hU
      have HRows := Lib.hid hrows; have HE := Lib.hid hext
      clear hM hrows hext htot hlt hk
      go_wp2
      go_ret
      exact ⟨_, _, rfl, HRows.out.base_le HX.out.size, HX.out.trans HE.out⟩
end Go.Proofs.Ytlafiddfplhafaa
/- A map of slices of ints, keyed by ints, that the call itself makes: its rows as a function. -/
namespace Go.Proofs.Ytlafiddfplhafaa
set_option linter.unusedVariables false
set_option linter.unusedSimpArgs false
open Go.RowKit Go.Maps Go.WideElems Go.MapKept Go.ChangeShapes
abbrev GD := DataW Unit
/-- A datum reads as a list of ints: nil, and nothing; or the list. -/
def rdIs (d : GD) (z : List Int) : Prop := (d = .nil ∧ z = []) ∨ d = .slice (lits .i64 z) []
theorem lits_inj {a b : List Int} (h : (lits .i64 a : List GD) = lits .i64 b) : a = b := by
  unfold lits at h
  exact (List.map_inj_right (fun x y hxy => by injection hxy with hxy; injection hxy)).1 h
theorem rdIs_one {d : GD} {y z : List Int} (h : rdIs d y) (k : rdIs d z) : y = z := by
  rcases h with ⟨h, rfl⟩ | h <;> rcases k with ⟨k, rfl⟩ | k
  · rfl
  · rw [h] at k; cases k
  · rw [k] at h; cases h
  · rw [h] at k; injection k with k; exact lits_inj k
theorem rdIs_own {w : World} {base : Nat} {v : Value} {z : List Int} (h : w.ownsInts base 3 .i64 v z) : rdIs (rowDatum .i64 v z) z := by
  rcases h.datum (H := Unit) with ⟨h1, h2⟩ | h1
  · exact .inl ⟨h1, h2⟩
  · exact .inr h1
/-- Block b is a map of at most n entries; at k stands a slice of f k, of at most n; the rows lie from base on, each apart. -/
def Grp (w : World) (base b n : Nat) (f : Int → List Int) : Prop :=
  ∃ D : GD, w.ownsGroups Try.prog 3 base 3 .i64 b n D ∧ IsMap D ∧ ∀ k, 0 ≤ k → rdIs (D.atKey (.int .i64 k) .nil) (f k)
theorem grp_law : Keyed Try.prog 3 := int_keyed Try.underlying3
theorem grp_key (k : Int) : WideAt.IsKeyLit (.int .i64 k) := by trivial
theorem grp_zero (w : World) : (zeroValue 23).run Try.prog w = .ok (.slice none 0 0) w := by kernel_rfl
section
variable {w w' : World} {base b n : Nat} {f : Int → List Int}
theorem Grp.made (w : World) : Grp (w.alloc (.map #[] 0)) (w.heap.size + 1) w.heap.size 0 (fun _ => []) := ⟨.map [], World.ownsGroups_made _ _ _ _ _, isMap_empty, fun _ _ => .inl ⟨rfl, rfl⟩⟩
theorem Grp.congr (h : Grp w base b n f) {g : Int → List Int} (hg : ∀ j, 0 ≤ j → f j = g j) : Grp w base b n g := by
  obtain ⟨D, h1, h2, h3⟩ := h
  exact ⟨D, h1, h2, fun k hk => by rw [← hg k hk]; exact h3 k hk⟩
theorem Grp.more (h : Grp w base b n f) {m : Nat} (hm : n ≤ m) : Grp w base b m f := by
  obtain ⟨D, ⟨es, clock, hb, F, hs, hD, hbb, hlen, hap⟩, hi, hf⟩ := h
  exact ⟨D, ⟨es, clock, hb, F, by omega, hD, hbb, fun x hx zs ho => Nat.le_trans (hlen x hx zs ho) hm, hap⟩, hi, hf⟩
theorem Grp.lt (h : Grp w base b n f) : b < w.heap.size := by
  obtain ⟨D, ⟨es, clock, hb, _⟩, _⟩ := h; exact (Array.getElem?_eq_some_iff.1 hb).1
theorem Grp.below (h : Grp w base b n f) : b < base := by
  obtain ⟨D, ⟨es, clock, hb, F, hs, _, hbb, _⟩, _⟩ := h; exact hbb
/-- Where nothing from b on that was there is another thing, the map is the same. -/
theorem Grp.agree (h : Grp w base b n f) (ha : ∀ k, b ≤ k → k < w.heap.size → w'.heap[k]? = w.heap[k]?) : Grp w' base b n f := by
  obtain ⟨D, ⟨es, clock, hb, F, hs, hD, hbb, hlen, hap⟩, hi, hf⟩ := h
  have hblt : b < w.heap.size := (Array.getElem?_eq_some_iff.1 hb).1
  have keep : ∀ {v : Value} {zs : List Int}, w.ownsInts base 3 .i64 v zs → w'.ownsInts base 3 .i64 v zs := fun {v zs} ho => by
    refine ⟨?_, ho.2⟩
    rcases ho.1 with ⟨hl, h0 | ⟨g, cap, cur, hv, hg, hh, r⟩⟩
    · exact ⟨hl, .inl h0⟩
    · exact ⟨hl, .inr ⟨g, cap, cur, hv, hg, by rw [ha g (by omega) (Array.getElem?_eq_some_iff.1 hh).1]; exact hh, r⟩⟩
  have hst : ∀ x ∈ es.toList, ∀ z, rowElem (H := Unit) w base 3 .i64 x.val = some z → rowElem w' base 3 .i64 x.val = some z := fun x hx z hz => by
    obtain ⟨zs, ho, rfl⟩ := rowElem_inv hz
    exact rowElem_mk (keep ho)
  obtain ⟨F1, hmap, _⟩ := F.stay hst
  refine ⟨D, ⟨es, clock, (ha b (Nat.le_refl _) hblt).trans hb, F1, hs, by rw [hmap]; exact hD, hbb, fun x hx zs ho => ?_, hap⟩, hi, hf⟩
  obtain ⟨y, hy⟩ := F.reads x hx
  obtain ⟨z, hz, _⟩ := rd_val hy
  obtain ⟨zs0, ho0, _⟩ := rowElem_inv hz
  rw [ho.unique (keep ho0)]
  exact hlen x hx zs0 ho0
theorem Grp.ext (h : Grp w base b n f) (hx : Ext w w') : Grp w' base b n f := h.agree fun k _ hk => hx.block k hk
theorem Grp.set (h : Grp w base b n f) (g j : Nat) (v : Value) (hg : g < b) : Grp (w.setCell ⟨g, j, none⟩ v) base b n f :=
  h.agree fun k hk _ => heap_setCell_other w ⟨g, j, none⟩ k v (by simp; omega)
end
theorem wpList_lookupG {w : World} {ops : Array Oper} {rest : List Oper} {o : Oper} {a : Act} {Q : Exit → Act → World → Prop}
    (hg : o.guard = none) (m x : Operand) (hop : o.op = Op.lookup 139 m x false) (base b n : Nat) (f : Int → List Int) (hm : a.eval m = .map (some b)) (hown : Grp w base b n f) (hn : n < maxLen)
    (k : Int) (hx : a.eval x = I k) (h0 : 0 ≤ k) (hk : (Lit.int .i64 k).wf = true)
    (hK : ∀ v, w.ownsInts base 3 .i64 v (f k) → (f k).length ≤ n →
      (∀ (w1 w2 : World) (v' : Value) (x' : Int) (ops' : Array Oper) (rest' : List Oper) (o' : Oper) (a' : Act) (Q' : Exit → Act → World → Prop) (m' y' u' : Operand), o'.guard = none → o'.op = Op.mapUpdate 139 m' y' u' → a'.eval m' = .map (some b) → a'.eval y' = I k → a'.eval u' = v' →
        w.grownBy w1 v.ownBlock → w1.ownsInts base 3 .i64 v' (f k ++ [x']) → (v'.ownBlock = v.ownBlock ∨ ∃ g, v'.ownBlock = some g ∧ w.heap.size ≤ g) →
        (∀ w2, Grp w2 base b (n + 1) (fun j => if j = k then f k ++ [x'] else f j) → w1.grownBy w2 (some b) → wpList Try.prog ops' Q' rest' (a'.put o'.dst undef) w2) → wpList Try.prog ops' Q' (o' :: rest') a' w1) →
      wpList Try.prog ops Q rest (a.put o.dst v) w) : wpList Try.prog ops Q (o :: rest) a w := by
  obtain ⟨D, hD, hi, hf⟩ := hown
  refine wpList_lookup_groups w hg m x _ hop 3 23 3 .i64 grp_law Try.underlying139 (grp_zero w) base b n D hm hD hn (I k) (.int .i64 k) hx (keyOf_int_mk Try.underlying3 hk) fun v zs hat hoi hzl hback => ?_
  have hz : zs = f k := rdIs_one (by have := rdIs_own hoi; rw [← hat] at this; exact this) (hf k h0)
  subst hz
  refine hK v hoi hzl fun w1 _ v' x' ops' rest' o' a' Q' m' y' u' hg' hop' hm' hy' hu' hgr hown' hloc hK' => ?_
  refine wpList_mapUpdate_back w1 hg' m' y' u' _ hop' hback hm' hy' hu' hgr hown' (by simp; omega) hloc fun w2 hown2 hgr2 => ?_
  refine hK' w2 ⟨_, hown2, hi.put _ _, fun j hj => ?_⟩ hgr2
  by_cases e : j = k
  · subst e; rw [atKey_put_same hi (grp_key j)]; simp only [if_true]; exact rdIs_own hown'
  · rw [atKey_put_other (fun h => e (by injection h))]; simp only [e, if_false]; exact hf j hj
end Go.Proofs.Ytlafiddfplhafaa
