/- net.Needed and net.Needs walked. -/
import Derived.Test.YtlafiddfplhafaaFc09
import Derived.Test.YtlafiddfplhafaaFc03
import Derived.Test.YtlafiddfplhafaaFc01
import Derived.Test.YtlafiddfplhafaaFc02
namespace Go.Proofs.Ytlafiddfplhafaa
set_option linter.unusedVariables false
set_option linter.unusedSimpArgs false
set_option linter.unusedVariables false
set_option linter.unusedSimpArgs false
open Go.RowKit
theorem onI_nth {o : List Bool} {k : Nat} {b : Bool} (h : o[k]? = some b) : onI o (k : Int) = b := by simp [onI, h]
set_option maxRecDepth 100000 in
set_option maxHeartbeats 4000000 in
theorem needed_any (i : Int) (GA : Option Addr) (gn gc : Nat) (RA : Option Addr) (rn rc : Nat) (OA : Option Addr) (on oc : Nat) (N : NetM) (A : Option Addr) (n c : Nat) (l : List Int) (w : World)
    (h : NetC w i GA gn gc RA rn rc OA on oc N) (hs : Sl w A n (l.map I)) (ok : NetOK N) (hl : inR N.gates.length l) (hn : n * 8 ≤ 140737488355328) :
    Calls Try.prog 57 #[netV i GA gn gc RA rn rc OA on oc, .slice A n c] w fun e w' => ∃ v, e = .returned v ∧ w'.ownsRow w.heap.size 4 1 v gn ((needsM N.gates l).map Bv) ∧ Ext w w' := by
  have hgl : N.gates.length = gn := h.gates.1
  have hg200 : gn ≤ 200 := by rw [← hgl]; exact ok.gl
  have hmk := fun W => run_make1 (P := Try.prog) 31 4 tab_bool Try.underlying31 rfl gn (by omega) (by omega) W
  have HN := Lib.hid h; have HS := Lib.hid hs; have HOK := Lib.hid ok; have HL := Lib.hid hl; have HGL := Lib.hid hgl
  clear h hs ok hl hgl
  obtain ⟨W, hW⟩ : ∃ W, W = w.alloc (.cells #[I i, .slice GA gn gc, .slice RA rn rc, .slice OA on oc] 39) := ⟨_, rfl⟩
  have hxW : Ext w W := by rw [hW]; exact (Ext.refl _).alloc _
  have hsW : W.heap.size = w.heap.size + 1 := by rw [hW]; simp
  have HBox : Hid (NetBox W w.heap.size i GA gn gc RA rn rc OA on oc) := by unfold Hid; rw [hW]; exact NetBox.new w i GA gn gc RA rn rc OA on oc _
  have HW := Lib.hid hW; have HSW := Lib.hid hsW; clear hW hsW
  go_enter Try.func57, Try.ntmps57
  go_wp2_with fail
  rw [← HW.out]
  refine (cloneInts_any A n c l _ ((HS.out.keep hxW.keeps).keep (Keeps.alloc W _)) hn).mono ?_; rintro e w1 ⟨v, rfl, hown, hx1⟩
  have hxa : Ext W w1 := ((Ext.refl W).alloc _).trans hx1
  have hB := own_ext (own_made W 4 (.bool false) gn W.heap.size (Nat.le_refl _) (by unfold maxLen; omega)) hx1
  have hvb : v.ownBlock ≠ some W.heap.size := fun e => by have := (hown.lt _ e).1; rw [World.size_alloc] at this; omega
  have hown := own_base hown (base' := W.heap.size) (by simp)
  have hln := HS.out.len
  have hszW : W.heap.size < w1.heap.size := by have := hx1.size; simp at this; omega
  have es := HSW.out
  rw [es] at hvb
  have hB : w1.ownsRow W.heap.size 4 1 (.slice (some ⟨w.heap.size + 1, 0, none⟩) gn gn) gn (List.replicate gn (.bool false)) := by rw [← es]; exact hB
  clear es
  have HB := Lib.hid hB; have HO := Lib.hid hown; have HV := Lib.hid hvb; have HLN := Lib.hid hln; have HZ := Lib.hid hszW
  clear hB hown hvb hx1 hln hszW
  go_wp2
  go_loopg [6, 7] (n + 3200) (fun gk v _ wr => ∃ (o : List Bool) (work : List Int), Ext W wr ∧ W.heap.size < wr.heap.size ∧ wr.ownsRow W.heap.size 4 1 (.slice (some ⟨w.heap.size + 1, 0, none⟩) gn gn) gn (o.map Bv) ∧
    wr.ownsRow W.heap.size 3 1 v work.length (work.map I) ∧ v.ownBlock ≠ some (w.heap.size + 1) ∧ NeedInv N.gates l o work ∧ work.length + costN N.gates o ≤ gk ∧ gk ≤ n + 3200)
  case atStart =>
    have hc := costN_le 16 N.gates (List.replicate N.gates.length false) HOK.out.al
    have e1 := HGL.out; have e2 := HLN.out
    refine ⟨List.replicate N.gates.length false, l, hxa, HZ.out, by rw [e1]; have := HB.out; simpa using this, by have := HO.out; rw [e2]; exact this, HV.out, NeedInv.start _ _, by omega, Nat.le_refl _⟩
  case round =>
    obtain ⟨o, work, hext, hsz, hown, hwk, hvb, hinv, hm, hmx⟩ := hrel
    rcases List.eq_nil_or_concat work with rfl | ⟨ys, y, rfl⟩
    · -- nothing is left
      obtain ⟨C, cc, rfl, -, -, -⟩ := own_sl hwk
      have HI := Lib.hid hinv; have HO2 := Lib.hid hown; have HX := Lib.hid hext
      clear hinv hown hwk hvb hm hmx hext hsz
      go_wp2
      go_ret
      refine ⟨_, rfl, ?_, hxW.trans HX.out⟩
      have := HI.out.done HOK.out.args HL.out
      rw [← this]; exact own_base HO2.out hxW.size
    · simp only [List.concat_eq_append] at *
      have hlen : (ys ++ [y]).length = ys.length + 1 := by simp
      rw [hlen] at hwk hm
      obtain ⟨g, cc, rfl⟩ := own_form hwk (Nat.succ_pos _)
      have hcc : ys.length + 1 ≤ cc := by obtain ⟨_, _, e, h1, _⟩ := own_slice hwk; injection e with _ _ e; omega
      have hcc' : ys.length ≤ cc := by omega
      have hgW : g ≠ w.heap.size + 1 := by simpa [Value.ownBlock] using hvb
      rw [List.map_append] at hwk
      obtain ⟨hyk, hyc⟩ := own_drop_last (y := I y) hwk
      have hrg := hinv.range HOK.out.args HL.out
      have e1 := HGL.out
      obtain ⟨yn, rfl⟩ := Int.eq_ofNat_of_zero_le hrg.1
      have hyn : yn < gn := by omega
      obtain ⟨⟨u, hu, hcu⟩, hfz, hbg⟩ := own_at hown hyn
      have hub : ∃ b, u = Bv b ∧ o[yn]? = some b := by
        rw [List.getElem?_map] at hu
        cases ho : o[yn]? with
        | none => rw [ho] at hu; cases hu
        | some b => rw [ho] at hu; exact ⟨b, by simpa using hu.symm, rfl⟩
      obtain ⟨bb, rfl, hob⟩ := hub
      have hon := onI_nth hob
      have hyl : ys.length + 1 ≤ 9223372036854775807 := by omega
      have HI := Lib.hid hinv; have HO2 := Lib.hid hown; have HX := Lib.hid hext; have HY := Lib.hid hyk; have HGW := Lib.hid hgW; have HON := Lib.hid hon; have HOB := Lib.hid hob; have HM := Lib.hid hm; have HMX := Lib.hid hmx; have HSZ := Lib.hid hsz
      clear hinv hown hwk hvb hm hmx hext hyk hgW hon hob hu hlen hrg e1 hbg hsz
      cases bb
      · -- marked now
        obtain ⟨b, off, A', m, c', gt, rfl, g0, g1, g2, hsg, hmc, hcm, hd, hgt⟩ := HN.out.gates.next hyn
        have hml := hsg.len
        have hm16 : m ≤ 16 := by have := HOK.out.al gt (List.mem_of_getElem? hgt); omega
        have hx2 : Ext W (wr.setCell ⟨w.heap.size + 1, yn, none⟩ (Bv true)) := HX.out.setCell (by have := HSW.out; show W.heap.size ≤ w.heap.size + 1; omega) _
        have c2 := hx2.keeps _ _ (hxW.keeps _ _ g2)
        have hSG := hsg.keep (hxW.trans hx2).keeps
        have hq1 := (HBox.out.keep hx2.keeps).2.1
        have hst := HO2.out.stored yn (Bv true)
        have hyo := own_other (g := w.heap.size + 1) (j := yn) (u := Bv true) HY.out (fun e => HGW.out (Option.some.inj e))
        have HST := Lib.hid hst; have HYO := Lib.hid hyo; have HSG := Lib.hid hSG; have HGT := Lib.hid hgt; have HML := Lib.hid hml; have H16 := Lib.hid hm16; have HX2 := Lib.hid hx2
        clear hst hyo hSG hgt hml hm16 hd hsg g0 g1 g2 hmc hcm hx2
        go_wp2_with (at_builtin; refine wpList_appendBig rfl (.tmp 36) (.tmp 42) 23 3 rfl tab_int' Try.underlying23 rfl (by decide) W HX2.out _ ys.length (ys.map I) rfl HYO.out A' m c' _ rfl HSG.out (ints_one gt.args) (by have := H16.out; have := HM.out; have := HMX.out; omega) (by have := H16.out; have := HM.out; have := HMX.out; omega) ?_; intro v' w2 hown2 hx3 hgr hbl)
        have hargs : argsI N.gates (yn : Int) = gt.args := by have := HGT.out; simp [argsI, this]
        have hcost := costN_set N.gates o yn gt HGT.out HOB.out
        go_roundg ((ys ++ gt.args).length + costN N.gates (o.set yn true))
        case measure => have := HM.out; simp; omega
        case rel =>
          have hne : v'.ownBlock ≠ some (w.heap.size + 1) := by
            intro e
            rcases hbl _ e with e2 | e2
            · exact HGW.out (Option.some.inj e2)
            · have := HSZ.out; have := HSW.out; simp at e2; omega
          refine ⟨o.set yn true, ys ++ gt.args, hx3, Nat.lt_of_lt_of_le HSZ.out (by have := hgr.size; simpa using this), ?_, ?_, hne, ?_, Nat.le_refl _, ?_⟩
          · have := HST.out.1.kept hgr (by right; exact fun e => HGW.out (Option.some.inj e).symm)
            simpa [List.map_set] using this
          · simpa [HML.out] using hown2
          · have := HI.out.mark HOK.out.args HL.out
            rw [hargs] at this; simpa using this
          · have := HM.out; have := HMX.out; simp; omega
      · go_wp2
        go_roundg (ys.length + costN N.gates o)
        case measure => have := HM.out; omega
        case rel => exact ⟨o, ys, HX.out, HSZ.out, HO2.out, HY.out, fun e => HGW.out (Option.some.inj e), HI.out.skip HON.out, Nat.le_refl _, by have := HM.out; have := HMX.out; omega⟩
end Go.Proofs.Ytlafiddfplhafaa
/- The reference's order walked; Order, OrderOf. -/
namespace Go.Proofs.Ytlafiddfplhafaa
set_option linter.unusedVariables false
set_option linter.unusedSimpArgs false
open Go.RowKit Go.Maps
end Go.Proofs.Ytlafiddfplhafaa
