/- The reference's worth of a gate. -/
import Derived.Test.YtjagbnaacfhokaaEvalHand
namespace Go.Proofs.Ytjagbnaacfhokaa
set_option linter.unusedVariables false
set_option linter.unusedSimpArgs false
open Go.RowKit

set_option maxHeartbeats 2000000 in
theorem worth_any (AA : Option Addr) (an ac : Nat) (RA : Option Addr) (rn rc : Nat) (IA : Option Addr) (jn jc : Nat) (VA : Option Addr) (vn vc : Nat) (regs ins v : List Int) (g : GateM) (w : World)
    (ha : Sl w AA an (g.args.map I)) (hr : Sl w RA rn (regs.map I)) (hi : Sl w IA jn (ins.map I)) (hv : Sl w VA vn (v.map I)) (hg : GateR vn rn jn g) (hvg : goodL v) :
    Calls Try.prog 118 #[gateV g.kind g.num AA an ac, .slice RA rn rc, .slice IA jn jc, .slice VA vn vc] w fun e w' => e = .returned (I (worthM regs ins v g)) ∧ Ext w w' := by
  obtain ⟨kd, nm, args⟩ := g
  simp only at ha ⊢
  generalize hM : worthM regs ins v ⟨kd, nm, args⟩ = M
  unfold worthM at hM
  simp only at hM
  have hkd := hg.kind; simp only at hkd
  have hinp := hg.inp; have hreg := hg.reg; have hone := hg.one; have hargs := hg.args; have hal := hg.al
  simp only at hinp hreg hone hargs hal
  have han := ha.len
  obtain ⟨W2, hW2⟩ : ∃ W2, W2 = w.alloc (.cells #[I kd, I nm, .slice AA an ac] 34) := ⟨_, rfl⟩
  obtain ⟨y0, y1, y2, hx⟩ := box3 w _ _ _ _ hW2
  have HW := Lib.hid hW2; have HX := Lib.hid hx
  have HR := Lib.hid (hr.keep hx.keeps); have HI := Lib.hid (hi.keep hx.keeps); have HA := Lib.hid (ha.keep hx.keeps); have HV := Lib.hid (hv.keep hx.keeps)
  have HG := Lib.hid hvg; have HAR := Lib.hid hargs; have HNM := Lib.hid hM; have HO := Lib.hid hone; have HIN := Lib.hid hinp; have HRE := Lib.hid hreg; have HKD := Lib.hid hkd
  clear hW2 hx hr hi ha hv hvg hg hargs hM hone hinp hreg hkd
  go_enter Try.func118, Try.ntmps118
  go_wp2_with fail
  rw [← HW.out]
  go_loopw [9, 10] (fun s i wr => ∃ (k : Nat), k ≤ an ∧ i = .int .i64 k ∧ Ext W2 wr ∧ wr.ownsRow W2.heap.size 3 1 s k (((args.take k).map (valI v)).map I)) (fun _ i _ => an - (intOf i).toNat)
  case atStart => exact ⟨0, Nat.zero_le _, rfl, Ext.refl _, World.ownsRow_nil _ _ _ _⟩
  case round =>
    obtain ⟨k, hk, rfl, hext, hown⟩ := hrel
    have z0 := hext.keeps _ _ y0; have z1 := hext.keeps _ _ y1; have z2 := hext.keeps _ _ y2
    by_cases hlt : k < an
    · obtain ⟨b, off, x, rfl, hc0, hx⟩ := HA.out.at_ hlt
      have hc := hext.keeps _ _ hc0
      obtain ⟨ha0, ha1⟩ := HAR.out x (List.mem_of_getElem? hx)
      obtain ⟨j, rfl⟩ : ∃ j : Nat, x = j := ⟨x.toNat, by omega⟩
      have hj : j < vn := by omega
      obtain ⟨b', off', y, rfl, hd0, hy⟩ := HV.out.at_ hj
      have hd := hext.keeps _ _ hd0
      have hn := take_next (valI v) args hx
      rw [valI_at hy] at hn
      have HN := Lib.hid hn; have HOwn := Lib.hid hown
      clear hn hown hx hy hc0 hd0 ha0 ha1
      go_wp2_with (at_builtin; refine wpList_push rfl (.tmp 18) (.tmp 27) 24 3 rfl tab_int' Try.underlying24 rfl (by omega) W2 wr hext _ k _ rfl HOwn.out [I y] rfl rfl rfl (by simp [Value.oneCell']) (by unfold maxLen; omega) (by omega) ?_; intro v' w2 hown2 hx3 _)
      go_roundw
      case rel => exact ⟨k + 1, by omega, by go_num, hx3, by rw [HN.out]; simpa using hown2⟩
      case measure => simp [intOf]; omega
    · have hkn : k = an := by omega
      subst hkn
      have ht : args.take k = args := List.take_of_length_le (by omega)
      rw [ht] at hown
      obtain ⟨S, sc, rfl, hs1, hs2, hsl⟩ := own_sl hown
      have HS := Lib.hid hsl
      have HX2 := Lib.hid (HX.out.trans hext)
      have HE := Lib.hid hext
      clear ht hown hsl hk hlt hext
      have hk : kd = 0 ∨ kd = 1 ∨ kd = 2 ∨ kd = 3 ∨ kd = 4 ∨ kd = 5 ∨ kd = 6 := by have := HKD.out; omega
      rcases hk with rfl | rfl | rfl | rfl | rfl | rfl | rfl
      · go_wp2
        go_ret
        exact ⟨ret_int HNM.out, HX2.out⟩
      · go_wp2
        go_ret
        exact ⟨ret_int HNM.out, HX2.out⟩
      · obtain ⟨h0, h1⟩ := HIN.out rfl
        obtain ⟨j, rfl⟩ : ∃ j : Nat, nm = j := ⟨nm.toNat, by omega⟩
        have hj : j < jn := by omega
        obtain ⟨b, off, x, rfl, hc, hx⟩ := HI.out.at_ hj
        have hd := HE.out.keeps _ _ hc
        have HM : Hid (x = M) := by unfold Hid; rw [← HNM.out]; simp [valI, hx]
        clear hx h0 h1 hc
        go_wp2
        go_ret
        exact ⟨ret_int HM.out, HX2.out⟩
      · obtain ⟨h0, h1⟩ := HRE.out rfl
        obtain ⟨j, rfl⟩ : ∃ j : Nat, nm = j := ⟨nm.toNat, by omega⟩
        have hj : j < rn := by omega
        obtain ⟨b, off, x, rfl, hc, hx⟩ := HR.out.at_ hj
        have hd := HE.out.keeps _ _ hc
        have HM : Hid (x = M) := by unfold Hid; rw [← HNM.out]; simp [valI, hx]
        clear hx h0 h1 hc
        go_wp2
        go_ret
        exact ⟨ret_int HM.out, HX2.out⟩
      · go_wp2_with fail
        refine (refAll_any _ k sc _ wr HS.out (by unfold maxLen; omega)).mono ?_; rintro e w' ⟨rfl, rfl⟩
        go_wp2
        go_ret
        exact ⟨ret_int (by rw [← HNM.out, allM_eq]; rfl), HX2.out⟩
      · go_wp2_with fail
        refine (refAny_any _ k sc _ wr HS.out (by unfold maxLen; omega)).mono ?_; rintro e w' ⟨rfl, rfl⟩
        go_wp2
        go_ret
        exact ⟨ret_int (by rw [← HNM.out, anyM_eq]; rfl), HX2.out⟩
      · obtain ⟨a, rfl⟩ : ∃ a, args = [a] := by
          have := HO.out rfl
          match args, this with
          | [a], _ => exact ⟨a, rfl⟩
        have hb : 0 ≤ valI v a ∧ valI v a ≤ 2 := by rcases valI_good HG.out a with e | e | e <;> rw [e] <;> decide
        have hk1 : 0 < k := by simp at han; omega
        obtain ⟨b, off, x, rfl, hc, hx⟩ := HS.out.at_ hk1
        have hx : x = valI v a := by simpa using hx.symm
        subst hx
        have hc0 : wr.cell? ⟨b, off, none⟩ = some (I (valI v a)) := hc
        have HB := Lib.hid hb; clear hb hc
        go_wp2_with fail
        refine (refNot_any (valI v a) wr HB.out.1 HB.out.2).mono ?_; rintro e w' ⟨rfl, rfl⟩
        go_wp2
        go_ret
        exact ⟨ret_int (by rw [← HNM.out, rnotM_eq _ HB.out.1 HB.out.2]; rfl), HX2.out⟩
end Go.Proofs.Ytjagbnaacfhokaa
