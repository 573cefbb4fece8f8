/- prog.Waits. -/
import Derived.Test.YtjagbnaacfhokaaSw13
import Derived.Test.YtjagbnaacfhokaaSw10
import Derived.Test.YtjagbnaacfhokaaSw03
import Derived.Test.YtjagbnaacfhokaaSw02
import Derived.Test.YtjagbnaacfhokaaSw08
namespace Go.Proofs.Ytjagbnaacfhokaa
set_option linter.unusedVariables false
set_option linter.unusedSimpArgs false
open Go.RowKit

theorem tab_bool : (Try.prog.info? 4).map (fun i => (i.zero, i.size, i.bytes)) = some (some (.bool false), 1, 1) := by kernel_rfl

end Go.Proofs.Ytjagbnaacfhokaa
/- net.Needed and net.Needs walked. -/
namespace Go.Proofs.Ytjagbnaacfhokaa
set_option linter.unusedVariables false
set_option linter.unusedSimpArgs false
open Go.RowKit

theorem needs1_any (b : Nat) (i : Int) (GA : Option Addr) (gn gc : Nat) (RA : Option Addr) (rn rc : Nat) (OA : Option Addr) (on oc : Nat) (x : Int) (w : World) (hb : NetBox w b i GA gn gc RA rn rc OA on oc) (hgm : gn ≤ maxLen) :
    Calls Try.prog 71 #[I x, .pointer (some ⟨b, 0, none⟩)] w fun e w' => e = .returned (.bool (badPlace gn x)) ∧ w = w' := by
  obtain ⟨q0, q1, q2, q3⟩ := hb
  unfold maxLen at hgm
  go_enter Try.func71, Try.ntmps71
  go_wp2
  all_goals go_ret
  all_goals exact ⟨ret_bool (by simp [badPlace, *] <;> omega), rfl⟩
theorem enter_needs1 : ∀ args W, (callFunc 71 args).run Try.prog W = .ok (.enter 71 args) W := by
  intro args W
  go_simp
theorem asks_needs1 (b : Nat) (i : Int) (GA : Option Addr) (gn gc : Nat) (RA : Option Addr) (rn rc : Nat) (OA : Option Addr) (on oc : Nat) (w : World) (hb : NetBox w b i GA gn gc RA rn rc OA on oc) (hgm : gn ≤ maxLen) :
    Asks Try.prog 71 #[.pointer (some ⟨b, 0, none⟩)] w (badPlace gn) := ⟨enter_needs1, fun x => needs1_any b i GA gn gc RA rn rc OA on oc x w hb hgm⟩

theorem onI_nth {o : List Bool} {k : Nat} {b : Bool} (h : o[k]? = some b) : onI o (k : Int) = b := by simp [onI, h]

set_option maxRecDepth 100000 in
set_option maxHeartbeats 4000000 in
theorem needed_any (i : Int) (GA : Option Addr) (gn gc : Nat) (RA : Option Addr) (rn rc : Nat) (OA : Option Addr) (on oc : Nat) (N : NetM) (A : Option Addr) (n c : Nat) (l : List Int) (w : World)
    (h : NetC w i GA gn gc RA rn rc OA on oc N) (hs : Sl w A n (l.map I)) (ok : NetOK N) (hl : inR N.gates.length l) (hn : n * 8 ≤ 140737488355328) :
    Calls Try.prog 72 #[netV i GA gn gc RA rn rc OA on oc, .slice A n c] w fun e w' => ∃ v, e = .returned v ∧ w'.ownsRow w.heap.size 4 1 v gn ((needsM N.gates l).map Bv) ∧ Ext w w' := by
  have hgl : N.gates.length = gn := h.gates.1
  have hg200 : gn ≤ 200 := by rw [← hgl]; exact ok.gl
  have hmk := fun W => run_make1 (P := Try.prog) 27 4 tab_bool Try.underlying27 rfl gn (by omega) (by omega) W
  have HN := Lib.hid h; have HS := Lib.hid hs; have HOK := Lib.hid ok; have HL := Lib.hid hl; have HGL := Lib.hid hgl
  clear h hs ok hl hgl
  obtain ⟨W, hW⟩ : ∃ W, W = w.alloc (.cells #[I i, .slice GA gn gc, .slice RA rn rc, .slice OA on oc] 26) := ⟨_, rfl⟩
  have hxW : Ext w W := by rw [hW]; exact (Ext.refl _).alloc _
  have hsW : W.heap.size = w.heap.size + 1 := by rw [hW]; simp
  have HBox : Hid (NetBox W w.heap.size i GA gn gc RA rn rc OA on oc) := by unfold Hid; rw [hW]; exact NetBox.new w i GA gn gc RA rn rc OA on oc _
  have HW := Lib.hid hW; have HSW := Lib.hid hsW; clear hW hsW
  go_enter Try.func72, Try.ntmps72
  go_wp2_with fail
  rw [← HW.out]
  refine (cloneInts_any A n c l _ ((HS.out.keep hxW.keeps).keep (Keeps.alloc W _)) hn).mono ?_; rintro e w1 ⟨v, rfl, hown, hx1⟩
  have hxa : Ext W w1 := ((Ext.refl W).alloc _).trans hx1
  have hB := own_ext (own_made W 4 (.bool false) gn W.heap.size (Nat.le_refl _) (by unfold maxLen; omega)) hx1
  have hvb : v.ownBlock ≠ some W.heap.size := fun e => by have := (hown.lt _ e).1; rw [World.size_alloc] at this; omega
  have hown := own_base hown (base' := W.heap.size) (by simp)
  have hln := HS.out.len
  have hszW : W.heap.size < w1.heap.size := by have := hx1.size; simp at this; omega
  have es := HSW.out
  rw [es] at hvb
  have hB : w1.ownsRow W.heap.size 4 1 (.slice (some ⟨w.heap.size + 1, 0, none⟩) gn gn) gn (List.replicate gn (.bool false)) := by rw [← es]; exact hB
  clear es
  have HB := Lib.hid hB; have HO := Lib.hid hown; have HV := Lib.hid hvb; have HLN := Lib.hid hln; have HZ := Lib.hid hszW
  clear hB hown hvb hx1 hln hszW
  go_wp2
  go_loopg [6, 7] (n + 3200) (fun gk v _ wr => ∃ (o : List Bool) (work : List Int), Ext W wr ∧ W.heap.size < wr.heap.size ∧ wr.ownsRow W.heap.size 4 1 (.slice (some ⟨w.heap.size + 1, 0, none⟩) gn gn) gn (o.map Bv) ∧
    wr.ownsRow W.heap.size 3 1 v work.length (work.map I) ∧ v.ownBlock ≠ some (w.heap.size + 1) ∧ NeedInv N.gates l o work ∧ work.length + costN N.gates o ≤ gk ∧ gk ≤ n + 3200)
  case atStart =>
    have hc := costN_le 16 N.gates (List.replicate N.gates.length false) HOK.out.al
    have e1 := HGL.out; have e2 := HLN.out
    refine ⟨List.replicate N.gates.length false, l, hxa, HZ.out, by rw [e1]; have := HB.out; simpa using this, by have := HO.out; rw [e2]; exact this, HV.out, NeedInv.start _ _, by omega, Nat.le_refl _⟩
  case round =>
    obtain ⟨o, work, hext, hsz, hown, hwk, hvb, hinv, hm, hmx⟩ := hrel
    rcases List.eq_nil_or_concat work with rfl | ⟨ys, y, rfl⟩
    · -- nothing is left
      obtain ⟨C, cc, rfl, -, -, -⟩ := own_sl hwk
      have HI := Lib.hid hinv; have HO2 := Lib.hid hown; have HX := Lib.hid hext
      clear hinv hown hwk hvb hm hmx hext hsz
      go_wp2
      go_ret
      refine ⟨_, rfl, ?_, hxW.trans HX.out⟩
      have := HI.out.done HOK.out.args HL.out
      rw [← this]; exact own_base HO2.out hxW.size
    · simp only [List.concat_eq_append] at *
      have hlen : (ys ++ [y]).length = ys.length + 1 := by simp
      rw [hlen] at hwk hm
      obtain ⟨g, cc, rfl⟩ := own_form hwk (Nat.succ_pos _)
      have hcc : ys.length + 1 ≤ cc := by obtain ⟨_, _, e, h1, _⟩ := own_slice hwk; injection e with _ _ e; omega
      have hcc' : ys.length ≤ cc := by omega
      have hgW : g ≠ w.heap.size + 1 := by simpa [Value.ownBlock] using hvb
      rw [List.map_append] at hwk
      obtain ⟨hyk, hyc⟩ := own_drop_last (y := I y) hwk
      have hrg := hinv.range HOK.out.args HL.out
      have e1 := HGL.out
      obtain ⟨yn, rfl⟩ := Int.eq_ofNat_of_zero_le hrg.1
      have hyn : yn < gn := by omega
      obtain ⟨⟨u, hu, hcu⟩, hfz, hbg⟩ := own_at hown hyn
      have hub : ∃ b, u = Bv b ∧ o[yn]? = some b := by
        rw [List.getElem?_map] at hu
        cases ho : o[yn]? with
        | none => rw [ho] at hu; cases hu
        | some b => rw [ho] at hu; exact ⟨b, by simpa using hu.symm, rfl⟩
      obtain ⟨bb, rfl, hob⟩ := hub
      have hon := onI_nth hob
      have hyl : ys.length + 1 ≤ 9223372036854775807 := by omega
      have HI := Lib.hid hinv; have HO2 := Lib.hid hown; have HX := Lib.hid hext; have HY := Lib.hid hyk; have HGW := Lib.hid hgW; have HON := Lib.hid hon; have HOB := Lib.hid hob; have HM := Lib.hid hm; have HMX := Lib.hid hmx; have HSZ := Lib.hid hsz
      clear hinv hown hwk hvb hm hmx hext hyk hgW hon hob hu hlen hrg e1 hbg hsz
      cases bb
      · -- marked now
        obtain ⟨b, off, A', m, c', gt, rfl, g0, g1, g2, hsg, hmc, hcm, hd, hgt⟩ := HN.out.gates.next hyn
        have hml := hsg.len
        have hm16 : m ≤ 16 := by have := HOK.out.al gt (List.mem_of_getElem? hgt); omega
        have hx2 : Ext W (wr.setCell ⟨w.heap.size + 1, yn, none⟩ (Bv true)) := HX.out.setCell (by have := HSW.out; show W.heap.size ≤ w.heap.size + 1; omega) _
        have c2 := hx2.keeps _ _ (hxW.keeps _ _ g2)
        have hSG := hsg.keep (hxW.trans hx2).keeps
        have hq1 := (HBox.out.keep hx2.keeps).2.1
        have hst := HO2.out.stored yn (Bv true)
        have hyo := own_other (g := w.heap.size + 1) (j := yn) (u := Bv true) HY.out (fun e => HGW.out (Option.some.inj e))
        have HST := Lib.hid hst; have HYO := Lib.hid hyo; have HSG := Lib.hid hSG; have HGT := Lib.hid hgt; have HML := Lib.hid hml; have H16 := Lib.hid hm16; have HX2 := Lib.hid hx2
        clear hst hyo hSG hgt hml hm16 hd hsg g0 g1 g2 hmc hcm hx2
        go_wp2_with (at_builtin; refine wpList_appendBig rfl (.tmp 36) (.tmp 42) 24 3 rfl tab_int' Try.underlying24 rfl (by decide) W HX2.out _ ys.length (ys.map I) rfl HYO.out A' m c' _ rfl HSG.out (ints_one gt.args) (by have := H16.out; have := HM.out; have := HMX.out; omega) (by have := H16.out; have := HM.out; have := HMX.out; omega) ?_; intro v' w2 hown2 hx3 hgr hbl)
        have hargs : argsI N.gates (yn : Int) = gt.args := by have := HGT.out; simp [argsI, this]
        have hcost := costN_set N.gates o yn gt HGT.out HOB.out
        go_roundg ((ys ++ gt.args).length + costN N.gates (o.set yn true))
        case measure => have := HM.out; simp; omega
        case rel =>
          have hne : v'.ownBlock ≠ some (w.heap.size + 1) := by
            intro e
            rcases hbl _ e with e2 | e2
            · exact HGW.out (Option.some.inj e2)
            · have := HSZ.out; have := HSW.out; simp at e2; omega
          refine ⟨o.set yn true, ys ++ gt.args, hx3, Nat.lt_of_lt_of_le HSZ.out (by have := hgr.size; simpa using this), ?_, ?_, hne, ?_, Nat.le_refl _, ?_⟩
          · have := HST.out.1.kept hgr (by right; exact fun e => HGW.out (Option.some.inj e).symm)
            simpa [List.map_set] using this
          · simpa [HML.out] using hown2
          · have := HI.out.mark HOK.out.args HL.out
            rw [hargs] at this; simpa using this
          · have := HM.out; have := HMX.out; simp; omega
      · go_wp2
        go_roundg (ys.length + costN N.gates o)
        case measure => have := HM.out; omega
        case rel => exact ⟨o, ys, HX.out, HSZ.out, HO2.out, HY.out, fun e => HGW.out (Option.some.inj e), HI.out.skip HON.out, Nat.le_refl _, by have := HM.out; have := HMX.out; omega⟩
end Go.Proofs.Ytjagbnaacfhokaa
/- net.Needs, and the reference's NeedsError, NeedsOf walked. -/
namespace Go.Proofs.Ytjagbnaacfhokaa
set_option linter.unusedVariables false
set_option linter.unusedSimpArgs false
open Go.RowKit

def needsE (N : NetM) (l : List Int) : Int := if checkN N ≠ 0 then checkN N else if l.any (badPlace N.gates.length) then 3 else 0
theorem needsE_ok {N : NetM} {l : List Int} (h : needsE N l = 0) : checkN N = 0 ∧ inR N.gates.length l := by
  unfold needsE at h
  by_cases h0 : checkN N = 0
  · rw [if_neg (by simp [h0])] at h
    refine ⟨h0, fun k hk => ?_⟩
    cases hb : l.any (badPlace N.gates.length) with
    | true => rw [hb] at h; simp at h
    | false => have := List.any_eq_false.1 hb k hk; simp [badPlace] at this; omega
  · rw [if_pos h0] at h; exact absurd h h0
theorem inR_any {n : Nat} {l : List Int} (h : inR n l) : l.any (badPlace n) = false := List.any_eq_false.2 fun k hk => by have := h k hk; simp [badPlace]; omega

section
variable (i : Int) (GA : Option Addr) (gn gc : Nat) (RA : Option Addr) (rn rc : Nat) (OA : Option Addr) (on oc : Nat) (N : NetM) (A : Option Addr) (n c : Nat) (l : List Int) (w : World)

theorem netNeeds_err (h : NetC w i GA gn gc RA rn rc OA on oc N) (hs : Sl w A n (l.map I)) (hn : n ≤ maxLen) (e : Int) (he : needsE N l = e) (h0 : (e != 0) = true) :
    Calls Try.prog 26 #[netV i GA gn gc RA rn rc OA on oc, .slice A n c] w fun e' w' => e' = .returned (Pr (.slice none 0 0) (I e)) ∧ Ext w w' := by
  have hgl : N.gates.length = gn := h.gates.1
  have hgm : gn ≤ maxLen := Nat.le_trans h.gl.1 h.gl.2
  unfold needsE at he
  obtain ⟨W, hW⟩ : ∃ W, W = w.alloc (.cells #[I i, .slice GA gn gc, .slice RA rn rc, .slice OA on oc] 26) := ⟨_, rfl⟩
  have hxW : Ext w W := by rw [hW]; exact (Ext.refl _).alloc _
  have HBox : Hid (NetBox W w.heap.size i GA gn gc RA rn rc OA on oc) := by unfold Hid; rw [hW]; exact NetBox.new w i GA gn gc RA rn rc OA on oc _
  have HN := Lib.hid (h.keep hxW.keeps); have HS := Lib.hid (hs.keep hxW.keeps)
  have HW := Lib.hid hW; clear hW h hs
  by_cases hc : checkN N = 0
  · rw [if_neg (by simp [hc]), hgl] at he
    have hb : l.any (badPlace gn) = true := by
      cases hb : l.any (badPlace gn) with
      | true => rfl
      | false => rw [hb] at he; simp at he; subst he; cases h0
    rw [hb] at he
    have he3 : e = 3 := by simpa using he.symm
    subst he3
    have HC := Lib.hid hc; have HB := Lib.hid hb; clear hc hb he h0
    go_enter Try.func26, Try.ntmps26
    go_wp2_with fail
    rw [← HW.out]
    refine (netCheck_any i GA gn gc RA rn rc OA on oc N W HN.out).mono ?_; rintro e' w1 ⟨rfl, h1⟩; rw [HC.out]
    go_wp2_with fail
    refine (containsFunc_any A n c l _ _ _ w1 (HS.out.keep h1.keeps) hn (asks_needs1 w.heap.size i GA gn gc RA rn rc OA on oc w1 (HBox.out.keep h1.keeps) hgm)).mono ?_; rintro e' w' ⟨rfl, rfl⟩; rw [HB.out]
    go_wp2
    go_ret2
    exact ⟨rfl, hxW.trans h1⟩
  · rw [if_pos hc] at he
    have HE := Lib.hid he; clear he hc
    go_enter Try.func26, Try.ntmps26
    go_wp2_with fail
    rw [← HW.out]
    refine (netCheck_any i GA gn gc RA rn rc OA on oc N W HN.out).mono ?_; rintro e' w1 ⟨rfl, h1⟩; rw [HE.out]
    go_wp2
    go_ret2
    exact ⟨rfl, hxW.trans h1⟩

theorem netNeeds_ok (h : NetC w i GA gn gc RA rn rc OA on oc N) (hs : Sl w A n (l.map I)) (hn : n * 8 ≤ 140737488355328) (he : needsE N l = 0) :
    Calls Try.prog 26 #[netV i GA gn gc RA rn rc OA on oc, .slice A n c] w fun e' w' => ∃ v, e' = .returned (Pr v (I 0)) ∧ w'.ownsRow w.heap.size 4 1 v gn ((needsM N.gates l).map Bv) ∧ Ext w w' := by
  have hgl : N.gates.length = gn := h.gates.1
  have hgm : gn ≤ maxLen := Nat.le_trans h.gl.1 h.gl.2
  obtain ⟨hc, hr⟩ := needsE_ok he
  have ok := checkN_ok hc
  have hb := inR_any hr
  rw [hgl] at hb
  obtain ⟨W, hW⟩ : ∃ W, W = w.alloc (.cells #[I i, .slice GA gn gc, .slice RA rn rc, .slice OA on oc] 26) := ⟨_, rfl⟩
  have hxW : Ext w W := by rw [hW]; exact (Ext.refl _).alloc _
  have hbox : NetBox W w.heap.size i GA gn gc RA rn rc OA on oc := by rw [hW]; exact NetBox.new w i GA gn gc RA rn rc OA on oc _
  have HBox := Lib.hid hbox
  have HN := Lib.hid (h.keep hxW.keeps); have HS := Lib.hid (hs.keep hxW.keeps)
  have HW := Lib.hid hW; have HC := Lib.hid hc; have HB := Lib.hid hb; have HR := Lib.hid hr; have HOK := Lib.hid ok
  clear hW h hs hc hb hr ok he hgl hbox
  go_enter Try.func26, Try.ntmps26
  go_wp2_with fail
  rw [← HW.out]
  refine (netCheck_any i GA gn gc RA rn rc OA on oc N W HN.out).mono ?_; rintro e' w1 ⟨rfl, h1⟩; rw [HC.out]
  obtain ⟨q0, q1, q2, q3⟩ := HBox.out.keep h1.keeps
  go_wp2_with fail
  refine (containsFunc_any A n c l _ _ _ w1 (HS.out.keep h1.keeps) (by unfold maxLen; omega) (asks_needs1 w.heap.size i GA gn gc RA rn rc OA on oc w1 (HBox.out.keep h1.keeps) hgm)).mono ?_; rintro e' w' ⟨rfl, rfl⟩; rw [HB.out]
  go_wp2_with fail
  refine (needed_any i GA gn gc RA rn rc OA on oc N A n c l w1 (HN.out.keep h1.keeps) (HS.out.keep h1.keeps) HOK.out HR.out hn).mono ?_; rintro e' w2 ⟨v, rfl, hown, h2⟩
  have HO := Lib.hid hown; clear hown
  go_wp2
  go_ret2
  exact ⟨_, rfl, own_base HO.out (hxW.trans h1).size, (hxW.trans h1).trans h2⟩

end
end Go.Proofs.Ytjagbnaacfhokaa
/- The reference's NeedsOf walked. -/
namespace Go.Proofs.Ytjagbnaacfhokaa
set_option linter.unusedVariables false
set_option linter.unusedSimpArgs false
open Go.RowKit

theorem roundsM_at {gs : List GateM} {n k : Nat} {o : List Bool} (hk : k < n) : roundsM gs (n - k) o = roundsM gs (n - (k + 1)) (roundM gs o) := by
  rw [show n - k = (n - (k + 1)) + 1 from by omega]; rfl
theorem roundFrom_cons (g : GateM) (l : List GateM) (k : Nat) (o : List Bool) : roundFrom (g :: l) k o = roundFrom l (k + 1) (if onI o k then markM o g.args else o) := rfl
theorem flag_at {o : List Bool} {k : Nat} (h : k < o.length) : o[k]? = some (onI o (k : Int)) := by simp [onI, h]
theorem own_flag {w : World} {base : Nat} {e : TypeId} {g n c : Nat} {o : List Bool} (h : w.ownsRow base e 1 (.slice (some ⟨g, 0, none⟩) n c) n (o.map Bv)) {k : Nat} (hk : k < n) :
    w.cell? ⟨g, k, none⟩ = some (Bv (onI o (k : Int))) ∧ w.frozen? ⟨g, k, none⟩ = false ∧ o.length = n := by
  have hl : o.length = n := by have := h.1; simpa using this
  refine ⟨?_, h.frozenAt k, hl⟩
  rw [h.cellAt k (by omega), List.getElem?_map, flag_at (by omega)]; rfl

set_option maxRecDepth 100000 in
set_option maxHeartbeats 8000000 in
theorem needsOf_any (i : Int) (GA : Option Addr) (gn gc : Nat) (RA : Option Addr) (rn rc : Nat) (OA : Option Addr) (on oc : Nat) (N : NetM) (A : Option Addr) (n c : Nat) (l : List Int) (w : World)
    (h : NetC w i GA gn gc RA rn rc OA on oc N) (hs : Sl w A n (l.map I)) (ok : NetOK N) (hl : inR N.gates.length l) (hn : n ≤ maxLen) :
    Calls Try.prog 115 #[netV i GA gn gc RA rn rc OA on oc, .slice A n c] w fun e w' => ∃ v, e = .returned v ∧ w'.ownsRow w.heap.size 4 1 v gn ((needsM N.gates l).map Bv) ∧ Ext w w' := by
  have hgl : N.gates.length = gn := h.gates.1
  have hg200 : gn ≤ 200 := by rw [← hgl]; exact ok.gl
  unfold maxLen at hn
  have hmk := fun W => run_make1 (P := Try.prog) 27 4 tab_bool Try.underlying27 rfl gn (by omega) (by omega) W
  have HN := Lib.hid h; have HS := Lib.hid hs; have HOK := Lib.hid ok; have HL := Lib.hid hl; have HGL := Lib.hid hgl
  clear h hs ok hl hgl
  obtain ⟨W, hW⟩ : ∃ W, W = w.alloc (.cells #[I i, .slice GA gn gc, .slice RA rn rc, .slice OA on oc] 26) := ⟨_, rfl⟩
  have hxW : Ext w W := by rw [hW]; exact (Ext.refl _).alloc _
  have hsW : W.heap.size = w.heap.size + 1 := by rw [hW]; simp
  have HBox : Hid (NetBox W w.heap.size i GA gn gc RA rn rc OA on oc) := by unfold Hid; rw [hW]; exact NetBox.new w i GA gn gc RA rn rc OA on oc _
  have HW := Lib.hid hW; have HSW := Lib.hid hsW; clear hW hsW
  obtain ⟨w1, hw1⟩ : ∃ w1, w1 = W.alloc (.cells (zeros (.bool false) gn) 4) := ⟨_, rfl⟩
  have hxa : Ext W w1 := by rw [hw1]; exact (Ext.refl W).alloc _
  have hB : w1.ownsRow W.heap.size 4 1 (.slice (some ⟨w.heap.size + 1, 0, none⟩) gn gn) gn ((List.replicate gn false).map Bv) := by
    rw [hw1, ← HSW.out]; have := own_made W 4 (.bool false) gn W.heap.size (Nat.le_refl _) (by unfold maxLen; omega); simpa using this
  have HB := Lib.hid hB; have HW1 := Lib.hid hw1; clear hB hw1
  go_enter Try.func115, Try.ntmps115
  go_wp2
  rw [← HW.out, ← HW1.out]
  go_loopw [6] (fun j wr => ∃ (k : Nat) (o : List Bool), k ≤ n ∧ j = .int .i64 k ∧ Ext W wr ∧ wr.ownsRow W.heap.size 4 1 (.slice (some ⟨w.heap.size + 1, 0, none⟩) gn gn) gn (o.map Bv) ∧ markM o (l.drop k) = markM (List.replicate gn false) l) (fun j _ => n - (intOf j).toNat)
  case atStart => exact ⟨0, _, Nat.zero_le _, rfl, hxa, HB.out, rfl⟩
  case round =>
    obtain ⟨k, o, hk, rfl, hext, hown, hM⟩ := hrel
    by_cases hlt : k < n
    · obtain ⟨b, off, x, rfl, hc0, hd⟩ := HS.out.next hlt
      have hc := (hxW.trans hext).keeps _ _ hc0
      have hxr := HL.out x (by have : x ∈ l.drop k := by rw [hd]; simp
                               exact List.mem_of_mem_drop this)
      rw [HGL.out] at hxr
      obtain ⟨xn, rfl⟩ := Int.eq_ofNat_of_zero_le hxr.1
      have hxn : xn < gn := by omega
      obtain ⟨hcu, hfz, hol⟩ := own_flag hown hxn
      rw [hd] at hM
      have hst := hown.stored xn (Bv true)
      have HM := Lib.hid hM; have HST := Lib.hid hst; have HX := Lib.hid (hext.setCell (p := ⟨w.heap.size + 1, xn, none⟩) (by have := HSW.out; show W.heap.size ≤ w.heap.size + 1; omega) (Bv true))
      clear hM hd hc0 hown hst hol hext hxr
      go_wp2
      go_roundw
      case rel => exact ⟨k + 1, o.set xn true, by omega, by go_num, HX.out, by have := HST.out.1; simpa [List.map_set] using this, by rw [← HM.out]; simp [markM]⟩
      case measure => simp [intOf]; omega
    · rw [HS.out.drop_end hlt] at hM
      have hM : o = markM (List.replicate gn false) l := hM
      have HM : Hid (roundsM N.gates (gn - 0) o = needsM N.gates l) := by unfold Hid needsM; rw [hM, HGL.out, Nat.sub_zero]
      have HO := Lib.hid hown; have HX := Lib.hid hext
      clear hM hown hext
      go_wp2
      go_loopw [7, 8, 9] (fun j _ _ wr => ∃ (k : Nat) (o : List Bool), k ≤ gn ∧ j = .int .i64 k ∧ Ext W wr ∧ wr.ownsRow W.heap.size 4 1 (.slice (some ⟨w.heap.size + 1, 0, none⟩) gn gn) gn (o.map Bv) ∧ roundsM N.gates (gn - k) o = needsM N.gates l) (fun j _ _ _ => gn - (intOf j).toNat)
      case atStart => exact ⟨0, o, Nat.zero_le _, rfl, HX.out, HO.out, HM.out⟩
      case round =>
        clear HM HO HX
        obtain ⟨k2, o2, hk2, rfl, hext, hown, hM⟩ := hrel
        obtain ⟨q0, q1, q2, q3⟩ := HBox.out.keep hext.keeps
        by_cases hlt2 : k2 < gn
        · rw [roundsM_at hlt2] at hM
          have HM := Lib.hid hM; have HO := Lib.hid hown; have HX := Lib.hid hext
          clear hM hown hext
          go_wp2
          clear q0 q1 q2 q3
          obtain ⟨wo, rfl⟩ : ∃ wo : World, wo = wr := ⟨_, rfl⟩
          go_loopw [8, 9] (fun j _ wr => ∃ (k : Nat) (o : List Bool), k ≤ gn ∧ j = .int .i64 k ∧ Ext W wr ∧ wr.ownsRow W.heap.size 4 1 (.slice (some ⟨w.heap.size + 1, 0, none⟩) gn gn) gn (o.map Bv) ∧ roundFrom (N.gates.drop k) k o = roundM N.gates o2) (fun j _ _ => gn - (intOf j).toNat)
          case atStart => exact ⟨0, o2, Nat.zero_le _, rfl, HX.out, HO.out, rfl⟩
          case round =>
            clear HO HX
            obtain ⟨k3, o3, hk3, rfl, hext, hown, hM3⟩ := hrel
            obtain ⟨q0, q1, q2, q3⟩ := HBox.out.keep hext.keeps
            by_cases hlt3 : k3 < gn
            · obtain ⟨b, off, A', m, c', g, rfl, g0, g1, g2, hsg, hmc, hcm, hd, hgx⟩ := HN.out.gates.next hlt3
              have hml := hsg.len
              have hm16 : m ≤ 16 := by have := HOK.out.al g (List.mem_of_getElem? hgx); omega
              have hra := HOK.out.args g (List.mem_of_getElem? hgx)
              rw [hd, roundFrom_cons] at hM3
              have HM3 := Lib.hid hM3; have HO := Lib.hid hown; have HX := Lib.hid hext; have HSG := Lib.hid hsg; have HRA := Lib.hid hra; have HG2 := Lib.hid g2
              clear hM3 hown hext hsg hra hd hgx g0 g1 g2 hmc hcm hml
              go_wp2
              clear q0 q1 q2 q3
              obtain ⟨wp, rfl⟩ : ∃ wp : World, wp = wr := ⟨_, rfl⟩
              go_loopw [9] (fun j wr => ∃ (q : Nat) (o : List Bool), q ≤ m ∧ j = .int .i64 q ∧ Ext W wr ∧ wr.ownsRow W.heap.size 4 1 (.slice (some ⟨w.heap.size + 1, 0, none⟩) gn gn) gn (o.map Bv) ∧ (if onI o k3 then markM o (g.args.drop q) else o) = (if onI o3 k3 then markM o3 g.args else o3)) (fun j _ => m - (intOf j).toNat)
              case atStart => exact ⟨0, o3, Nat.zero_le _, rfl, HX.out, HO.out, rfl⟩
              case round =>
                clear HO HX
                obtain ⟨q, o4, hq, rfl, hext, hown, hM4⟩ := hrel
                obtain ⟨q0, q1, q2, q3⟩ := HBox.out.keep hext.keeps
                have c2 := (hxW.trans hext).keeps _ _ HG2.out
                obtain ⟨hcu, hfz, hol⟩ := own_flag hown hlt3
                by_cases hltq : q < m
                · cases hon : onI o4 (k3 : Int)
                  · rw [hon] at hM4 hcu
                    have HM4 := Lib.hid hM4; have HO := Lib.hid hown; have HX := Lib.hid hext; clear hM4 hown hext hon hol
                    go_wp2
                    go_roundw
                    case rel => exact ⟨k3 + 1, o4, by omega, by go_num, HX.out, HO.out, by rw [← HM3.out, ← HM4.out]; simp⟩
                    case measure => simp [intOf]; omega
                  · rw [hon] at hM4 hcu
                    obtain ⟨b', off', x, rfl, ca0, hdq⟩ := HSG.out.next hltq
                    have ca := (hxW.trans hext).keeps _ _ ca0
                    have hxr := HRA.out x (by have : x ∈ g.args.drop q := by rw [hdq]; simp
                                              exact List.mem_of_mem_drop this)
                    rw [HGL.out] at hxr
                    obtain ⟨xn, rfl⟩ := Int.eq_ofNat_of_zero_le hxr.1
                    have hxn : xn < gn := by omega
                    obtain ⟨hcx, hfx, _⟩ := own_flag hown hxn
                    have hst := hown.stored xn (Bv true)
                    have hon2 : onI (o4.set xn true) (k3 : Int) = true := by
                      have := onI_set o4 xn k3 (by omega) (by omega) (by omega); rw [Int.toNat_natCast] at this; rw [this, hon]; rfl
                    rw [hdq] at hM4
                    have HM4 := Lib.hid hM4; have HST := Lib.hid hst; have HON := Lib.hid hon2
                    have HX := Lib.hid (hext.setCell (p := ⟨w.heap.size + 1, xn, none⟩) (by have := HSW.out; show W.heap.size ≤ w.heap.size + 1; omega) (Bv true))
                    clear hM4 hown hst hext hon hol hon2 hdq ca0 hxr
                    go_wp2
                    go_roundw
                    case rel => exact ⟨q + 1, o4.set xn true, by omega, by go_num, HX.out, by have := HST.out.1; simpa [List.map_set] using this, by rw [HON.out, ← HM4.out]; simp [markM]⟩
                    case measure => simp [intOf]; omega
                · rw [HSG.out.drop_end hltq] at hM4
                  have hM4' : o4 = (if onI o3 k3 then markM o3 g.args else o3) := by
                    rw [← hM4]; simp [markM]
                  have HM4 := Lib.hid hM4'; have HO := Lib.hid hown; have HX := Lib.hid hext; clear hM4 hM4' hown hext hol
                  go_wp2
                  go_roundw
                  case rel => exact ⟨k3 + 1, o4, by omega, by go_num, HX.out, HO.out, by rw [← HM3.out, ← HM4.out]⟩
                  case measure => simp [intOf]; omega
            · rw [HN.out.gates.drop_end hlt3] at hM3
              have HM3 := Lib.hid hM3; have HO := Lib.hid hown; have HX := Lib.hid hext; clear hM3 hown hext
              go_wp2
              go_roundw
              case rel => exact ⟨k2 + 1, o3, by omega, by go_num, HX.out, HO.out, by rw [← HM.out, ← HM3.out]; rfl⟩
              case measure => simp [intOf]; omega
        · have hkn : k2 = gn := by omega
          subst hkn
          have hM' : o2 = needsM N.gates l := by rw [← hM, Nat.sub_self]; rfl
          have HM := Lib.hid hM'; have HO := Lib.hid hown; have HX := Lib.hid hext; clear hM hM' hown hext
          go_wp2
          go_ret
          refine ⟨_, rfl, ?_, hxW.trans HX.out⟩
          rw [← HM.out]; exact own_base HO.out hxW.size
end Go.Proofs.Ytjagbnaacfhokaa
