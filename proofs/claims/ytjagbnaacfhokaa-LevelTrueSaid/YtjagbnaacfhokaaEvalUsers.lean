/- Whom each gate serves: users walked. -/
import Derived.Test.YtjagbnaacfhokaaRows2
import Derived.Test.YtjagbnaacfhokaaEvalHand
namespace Go.Proofs.Ytjagbnaacfhokaa
set_option linter.unusedVariables false
set_option linter.unusedSimpArgs false
open Go.RowKit

theorem tab_ints : (Try.prog.info? 24).map (fun i => (i.zero, i.size, i.bytes)) = some (some (.slice none 0 0), 1, 24) := by kernel_rfl

set_option maxRecDepth 100000 in
set_option maxHeartbeats 4000000 in
theorem users_any (i : Int) (GA : Option Addr) (gn gc : Nat) (RA : Option Addr) (rn rc : Nat) (OA : Option Addr) (on oc : Nat) (N : NetM) (w : World) (h : NetC w i GA gn gc RA rn rc OA on oc N) (ok : NetOK N) :
    Calls Try.prog 117 #[netV i GA gn gc RA rn rc OA on oc] w fun e w' => ∃ g0 vs, e = .returned (.slice (some ⟨g0, 0, none⟩) gn gn) ∧ Rows2 24 3 w' w.heap.size g0 gn (usersM N.gates) vs ∧ Ext w w' := by
  have hgl : N.gates.length = gn := h.gates.1
  have hg200 : gn ≤ 200 := by have := ok.gl; omega
  obtain ⟨W, hW⟩ : ∃ W, W = w.alloc (.cells #[I i, .slice GA gn gc, .slice RA rn rc, .slice OA on oc] 26) := ⟨_, rfl⟩
  have hxW : Ext w W := by rw [hW]; exact (Ext.refl _).alloc _
  have hbox : NetBox W w.heap.size i GA gn gc RA rn rc OA on oc := by rw [hW]; exact NetBox.new w i GA gn gc RA rn rc OA on oc _
  have HN := Lib.hid (h.keep hxW.keeps); have HBox := Lib.hid hbox; have HW := Lib.hid hW; have HX := Lib.hid hxW; have HOK := Lib.hid ok
  have hmk := fun Q => run_make1 (P := Try.prog) 57 24 tab_ints Try.underlying57 rfl gn (by omega) (by omega) Q
  have hsz : W.heap.size = w.heap.size + 1 := by rw [hW]; simp
  have hst := Rows2.start (E := 24) (T := 3) (n := gn) (base := W.heap.size) W (Nat.le_refl _) (by unfold maxLen; omega) (w.heap.size + 1) hsz.symm
  have HSZ := Lib.hid hsz
  have HST := Lib.hid hst
  clear h hW hxW hbox hst ok hsz
  go_enter Try.func117, Try.ntmps117
  go_wp2_with fail
  rw [← HW.out]
  go_wp2_with fail
  clear hmk
  go_loopw [15] (fun j wr => ∃ (k : Nat) (U : List (List Int)) (vs : List Value), k ≤ gn ∧ j = .int .i64 k ∧ Ext W wr ∧ Rows2 24 3 wr W.heap.size (w.heap.size + 1) gn U vs ∧ usersFrom (N.gates.drop k) k U = usersM N.gates ∧ totalU U ≤ 16 * k) (fun j _ => gn - (intOf j).toNat)
  case atStart => exact ⟨0, _, _, Nat.zero_le _, rfl, (Ext.refl _).alloc _, HST.out, by unfold usersM; rw [HN.out.gates.1]; rfl, by simp [totalU]⟩
  case round =>
    obtain ⟨k, U, vs, hk, rfl, hext, hrows, hM, htot⟩ := hrel
    by_cases hlt : k < gn
    · obtain ⟨b, off, A', m, c', g, rfl, g0, g1, g2, hs, hmc, hcm, hd, hgk⟩ := HN.out.gates.next hlt
      have hgm : g ∈ N.gates := List.mem_of_getElem? hgk
      have hgr := HOK.out.gate hgm
      rw [HN.out.gates.1] at hgr
      have c0 := hext.keeps _ _ g0; have c1 := hext.keeps _ _ g1; have c2 := hext.keeps _ _ g2
      rw [hd] at hM
      have HM := Lib.hid hM; have HS := Lib.hid hs; have HRows := Lib.hid hrows; have HGR := Lib.hid hgr; have HT := Lib.hid htot; have HE := Lib.hid hext
      have hm16 : m ≤ 16 := by have := hs.len; have := hgr.al; omega
      clear hM hs hrows hgr htot hext g0 g1 g2 hd hgk hgm hmc hcm
      go_wp2_with fail
      have hxg : Ext W (wr.alloc (.cells #[I g.kind, I g.num, .slice A' m c'] 34)) := HE.out.alloc _
      have hrg := HRows.out.ext ((Ext.refl wr).alloc (.cells #[I g.kind, I g.num, .slice A' m c'] 34))
      have HXG := Lib.hid hxg; have HRG := Lib.hid hrg
      clear hxg hrg HRows c0 c1 c2 HE
      go_loopw [23] (fun j wr2 => ∃ (q : Nat) (U2 : List (List Int)) (vs2 : List Value), q ≤ m ∧ j = .int .i64 q ∧ Ext W wr2 ∧ Rows2 24 3 wr2 W.heap.size (w.heap.size + 1) gn U2 vs2 ∧ addUses U2 k (g.args.drop q) = addUses U k g.args ∧ totalU U2 ≤ 16 * k + q) (fun j _ => m - (intOf j).toNat)
      case atStart => exact ⟨0, U, vs, Nat.zero_le _, rfl, HXG.out, HRG.out, rfl, HT.out⟩
      case round =>
        obtain ⟨q, U2, vs2, hq, rfl, hext2, hrows2, hM2, htot2⟩ := hrel
        by_cases hltq : q < m
        · obtain ⟨b2, off2, x, rfl, hc0, hdq⟩ := HS.out.next hltq
          have hxm : x ∈ g.args := by
            have : x ∈ g.args.drop q := by rw [hdq]; simp
            exact List.mem_of_mem_drop this
          obtain ⟨hx0, hx1⟩ := HGR.out.args x hxm
          obtain ⟨a, rfl⟩ : ∃ a : Nat, x = a := ⟨x.toNat, by omega⟩
          have ha : a < gn := by omega
          obtain ⟨v, u, hv, hu, hcell, hfree, hown, hbase⟩ := hrows2.get ha
          obtain ⟨A3, c3, rfl, -, -, -⟩ := own_slice hown
          have hc := hext2.keeps _ _ hc0
          have hlen := len_le_total hu
          rw [hdq] at hM2
          have hul : u.length ≤ 3200 := by omega
          have HM2 := Lib.hid hM2; have HR2 := Lib.hid hrows2; have HT2 := Lib.hid htot2; have HE2 := Lib.hid hext2; have HO := Lib.hid hown; have HV := Lib.hid hv; have HU := Lib.hid hu; have HC := Lib.hid hcell; have HF := Lib.hid hfree
          clear hM2 hrows2 htot2 hext2 hown hc0 hdq hxm hx0 hx1 hlen hv hu hbase hfree
          go_wp2_with (at_builtin; refine wpList_appendBig rfl (.tmp 32) (.tmp 34) 24 3 rfl tab_int' Try.underlying24 rfl (by omega) W (HE2.out.alloc _) _ u.length _ rfl (own_ext HO.out ((Ext.refl _).alloc _)) (some ⟨wr.heap.size, 0, none⟩) 1 1 [I k] rfl (Sl.newAt _ _ [I k] _ rfl) (by simp [Value.oneCell']) (by omega) (by omega) ?_; intro v' w2 hown2 hx3 hg3 hf3; obtain ⟨A4, c4, rfl, -, -, -⟩ := own_slice hown2; have e1 := hg3.cell (a := ⟨w.heap.size + 1, a, none⟩) (Keeps.alloc _ _ _ _ HC.out) (fun e => HR2.out.off a _ HV.out e.symm); have e2 := (frozen_keep hg3 ((Ext.refl wr).alloc _) HC.out (fun e => HR2.out.off a _ HV.out e.symm)).trans HF.out; clear hcell)
          go_roundw
          case rel =>
            have hst := (HR2.out.ext ((Ext.refl wr).alloc (.cells #[I k] 3))).step HV.out HU.out hown2 hg3 hf3
            refine ⟨q + 1, _, _, by omega, by go_num, hx3.setCell (by show W.heap.size ≤ w.heap.size + 1; exact Nat.le_of_eq HSZ.out) _, hst, HM2.out, ?_⟩
            · have h1 := total_modify (k : Int) U2 a; have h2 := HT2.out; omega
          case measure => simp [intOf]; omega
        · have hqm : q = m := by omega
          subst hqm
          rw [HS.out.drop_end hltq] at hM2
          have HM2 := Lib.hid hM2; have HR2 := Lib.hid hrows2; have HT2 := Lib.hid htot2; have HE2 := Lib.hid hext2
          clear hM2 hrows2 htot2 hext2 hltq hq
          go_wp2
          go_roundw
          case rel => exact ⟨k + 1, U2, vs2, by omega, by go_num, HE2.out, HR2.out, by rw [← HM.out, show U2 = addUses U k g.args from HM2.out]; rfl, by have := HT2.out; omega⟩
          case measure => simp [intOf]; omega
    · have hkn : k = gn := by omega
      subst hkn
      rw [HN.out.gates.drop_end hlt] at hM
      have hU : U = usersM N.gates := hM
      subst hU
      have HRows := Lib.hid hrows; have HE := Lib.hid hext
      clear hM hrows hext htot hlt hk
      go_wp2
      go_ret
      exact ⟨_, _, rfl, HRows.out.base_le HX.out.size, HX.out.trans HE.out⟩
end Go.Proofs.Ytjagbnaacfhokaa
