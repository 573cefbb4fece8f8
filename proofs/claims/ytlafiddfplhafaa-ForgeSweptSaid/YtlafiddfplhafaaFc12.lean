/- The board of pack: of, pick, play, lay. -/
import Derived.Test.YtlafiddfplhafaaFc11
import Derived.Test.YtlafiddfplhafaaFc02
import Derived.Test.YtlafiddfplhafaaFc04
namespace Go.Proofs.Ytlafiddfplhafaa
set_option linter.unusedVariables false
set_option linter.unusedSimpArgs false
set_option linter.unusedVariables false
set_option linter.unusedSimpArgs false
open Go.RowKit
theorem tab_u64 : (Try.prog.info? 55).map (fun i => (i.zero, i.size, i.bytes)) = some (some (.int .u64 0), 1, 8) := by kernel_rfl
theorem valW_at {v : List (BitVec 64)} {k : Nat} {x : BitVec 64} (h : v[k]? = some x) : valW v (k : Int) = x := by simp [valW, h]
theorem ret_u {a b : BitVec 64} (h : a = b) : Ending.returned (U a) = .returned (U b) := by rw [h]
theorem uI_not (x : BitVec 64) : bits .xor .u64 IntKind.u64.max (uI x) = uI (~~~ x) := by
  rw [show IntKind.u64.max = 18446744073709551615 from rfl]
  show IntKind.u64.wrap ((BitVec.ofInt 64 18446744073709551615 ^^^ BitVec.ofInt 64 (uI x)).toNat : Int) = _
  have h1 : BitVec.ofInt 64 18446744073709551615 = BitVec.allOnes 64 := by decide
  have h2 : BitVec.ofInt 64 (uI x) = x := by unfold uI; rw [BitVec.ofInt_natCast, BitVec.ofNat_toNat]; simp
  have h3 := (~~~ x).isLt
  rw [h1, h2, BitVec.allOnes_xor, IntKind.wrap_u64]
  unfold uI
  omega
set_option maxHeartbeats 4000000 in
theorem wordOf_any (bb : Nat) (VA : Option Addr) (vn vc : Nat) (AA : Option Addr) (an ac : Nat) (RA : Option Addr) (rn rc : Nat) (IA : Option Addr) (jn jc : Nat) (regs ins v : List (BitVec 64)) (g : GateM) (w : World)
    (hb : w.cell? ⟨bb, 2, none⟩ = some (.slice VA vn vc)) (hr : Sl w RA rn (regs.map U)) (hi : Sl w IA jn (ins.map U)) (ha : Sl w AA an (g.args.map I)) (hv : Sl w VA vn (v.map U)) (hg : GateR vn rn jn g) :
    Calls Try.prog 90 #[.pointer (some ⟨bb, 0, none⟩), gateV g.kind g.num AA an ac, .slice RA rn rc, .slice IA jn jc] w fun e w' => e = .returned (U (ofW regs ins v g)) ∧ Ext w w' := by
  obtain ⟨kd, nm, args⟩ := g
  simp only at ha ⊢
  generalize hM : ofW regs ins v ⟨kd, nm, args⟩ = M
  unfold ofW at hM
  simp only at hM
  have hkd := hg.kind; simp only at hkd
  have hinp := hg.inp; have hreg := hg.reg; have hone := hg.one; have hargs := hg.args; have hal := hg.al
  simp only at hinp hreg hone hargs hal
  have han := ha.len
  obtain ⟨W, hW⟩ : ∃ W, W = w.alloc (.cells #[I kd, I nm, .slice AA an ac] 95) := ⟨_, rfl⟩
  obtain ⟨y0, y1, y2, hx⟩ := box3 w _ _ _ _ hW
  have hbw := hx.keeps _ _ hb
  have HW := Lib.hid hW; have HX := Lib.hid hx
  have HR := Lib.hid (hr.keep hx.keeps); have HI := Lib.hid (hi.keep hx.keeps); have HA := Lib.hid (ha.keep hx.keeps); have HV := Lib.hid (hv.keep hx.keeps)
  have HAR := Lib.hid hargs
  clear hW hx hr hi ha hv hg hargs hb
  have hk : kd = 0 ∨ kd = 1 ∨ kd = 2 ∨ kd = 3 ∨ kd = 4 ∨ kd = 5 ∨ kd = 6 := by omega
  clear hkd
  have hones := uI_not 0#64
  rw [show uI 0#64 = 0 from rfl] at hones
  rcases hk with rfl | rfl | rfl | rfl | rfl | rfl | rfl
  · have HM := Lib.hid hM; clear hM hinp hreg hone
    go_enter Try.func90, Try.ntmps90
    go_wp2_with fail
    rw [← HW.out]
    go_wp2
    go_ret
    exact ⟨ret_int (by rw [← HM.out]; rfl), HX.out⟩
  · have HM := Lib.hid hM; clear hM hinp hreg hone
    go_enter Try.func90, Try.ntmps90
    go_wp2_with fail
    rw [← HW.out]
    go_wp2
    go_ret
    exact ⟨ret_int (hones.trans (by rw [← HM.out]; rfl)), HX.out⟩
  · obtain ⟨h0, h1⟩ := hinp rfl
    obtain ⟨k, rfl⟩ : ∃ k : Nat, nm = k := ⟨nm.toNat, by omega⟩
    have hk : k < jn := by omega
    obtain ⟨b, off, x, rfl, hc, hx⟩ := HI.out.at_ hk
    have HM : Hid (x = M) := by unfold Hid; rw [← hM]; simp [valW, hx]
    clear hM hinp hreg hone hx h0 h1
    rw [HW.out] at hc
    go_enter Try.func90, Try.ntmps90
    go_wp2
    go_ret
    rw [← HW.out]
    exact ⟨ret_u HM.out, HX.out⟩
  · obtain ⟨h0, h1⟩ := hreg rfl
    obtain ⟨k, rfl⟩ : ∃ k : Nat, nm = k := ⟨nm.toNat, by omega⟩
    have hk : k < rn := by omega
    obtain ⟨b, off, x, rfl, hc, hx⟩ := HR.out.at_ hk
    have HM : Hid (x = M) := by unfold Hid; rw [← hM]; simp [valW, hx]
    clear hM hinp hreg hone hx h0 h1
    rw [HW.out] at hc
    go_enter Try.func90, Try.ntmps90
    go_wp2
    go_ret
    rw [← HW.out]
    exact ⟨ret_u HM.out, HX.out⟩
  · have hM' : andW v args (BitVec.allOnes 64) = M := hM
    have HM := Lib.hid hM'; clear hM hM' hinp hreg hone
    go_enter Try.func90, Try.ntmps90
    go_wp2_with fail
    rw [← HW.out]
    go_wp2
    go_loop [9, 41] (fun o i => ∃ (k : Nat) (x : BitVec 64), k ≤ an ∧ i = .int .i64 k ∧ o = U x ∧ andW v (args.drop k) x = M) (fun _ i => an - (intOf i).toNat)
    case atStart => exact ⟨0, BitVec.allOnes 64, Nat.zero_le _, rfl, rfl, HM.out⟩
    case round =>
      obtain ⟨k, o, hk, rfl, rfl, hR⟩ := hrel
      by_cases hlt : k < an
      · obtain ⟨b, off, x, rfl, hc0, hd⟩ := HA.out.next hlt
        have hxm : x ∈ args := by
          have : x ∈ args.drop k := by rw [hd]; simp
          exact List.mem_of_mem_drop this
        obtain ⟨ha0, ha1⟩ := HAR.out x hxm
        obtain ⟨j, rfl⟩ : ∃ j : Nat, x = j := ⟨x.toNat, by omega⟩
        have hj : j < vn := by omega
        obtain ⟨b', off', y, rfl, hd0, hy⟩ := HV.out.at_ hj
        rw [hd] at hR
        simp only [andW, List.foldl_cons] at hR
        rw [valW_at hy] at hR
        have HN := Lib.hid hR
        have hand := uI_and o y
        clear hR hy ha0 ha1 hxm hd
        go_wp2
        go_round
        case rel => exact ⟨k + 1, o &&& y, by omega, by go_num, rfl, HN.out⟩
        case measure => simp [intOf]; omega
      · rw [HA.out.drop_end hlt] at hR
        have HN : Hid (o = M) := hR
        clear hR
        go_wp2
        go_ret
        exact ⟨ret_u HN.out, HX.out⟩
  · have hM' : orW v args 0#64 = M := hM
    have HM := Lib.hid hM'; clear hM hM' hinp hreg hone
    go_enter Try.func90, Try.ntmps90
    go_wp2_with fail
    rw [← HW.out]
    go_wp2
    go_loop [9, 60] (fun o i => ∃ (k : Nat) (x : BitVec 64), k ≤ an ∧ i = .int .i64 k ∧ o = U x ∧ orW v (args.drop k) x = M) (fun _ i => an - (intOf i).toNat)
    case atStart => exact ⟨0, 0#64, Nat.zero_le _, rfl, rfl, HM.out⟩
    case round =>
      obtain ⟨k, o, hk, rfl, rfl, hR⟩ := hrel
      by_cases hlt : k < an
      · obtain ⟨b, off, x, rfl, hc0, hd⟩ := HA.out.next hlt
        have hxm : x ∈ args := by
          have : x ∈ args.drop k := by rw [hd]; simp
          exact List.mem_of_mem_drop this
        obtain ⟨ha0, ha1⟩ := HAR.out x hxm
        obtain ⟨j, rfl⟩ : ∃ j : Nat, x = j := ⟨x.toNat, by omega⟩
        have hj : j < vn := by omega
        obtain ⟨b', off', y, rfl, hd0, hy⟩ := HV.out.at_ hj
        rw [hd] at hR
        simp only [orW, List.foldl_cons] at hR
        rw [valW_at hy] at hR
        have HN := Lib.hid hR
        have hand := uI_or o y
        clear hR hy ha0 ha1 hxm hd
        go_wp2
        go_round
        case rel => exact ⟨k + 1, o ||| y, by omega, by go_num, rfl, HN.out⟩
        case measure => simp [intOf]; omega
      · rw [HA.out.drop_end hlt] at hR
        have HN : Hid (o = M) := hR
        clear hR
        go_wp2
        go_ret
        exact ⟨ret_u HN.out, HX.out⟩
  · obtain ⟨a, rfl⟩ : ∃ a, args = [a] := by
      have := hone rfl
      match args, this with
      | [a], _ => exact ⟨a, rfl⟩
    obtain rfl : 1 = an := han
    obtain ⟨b, off, x, rfl, hc0, hx⟩ := HA.out.at_ (show 0 < 1 by omega)
    obtain rfl : a = x := by simpa using hx
    obtain ⟨ha0, ha1⟩ := HAR.out a (by simp)
    obtain ⟨j, rfl⟩ : ∃ j : Nat, a = j := ⟨a.toNat, by omega⟩
    have hj : j < vn := by omega
    obtain ⟨b', off', y, rfl, hd0, hy⟩ := HV.out.at_ hj
    have HM : Hid (~~~ y = M) := by unfold Hid; rw [← hM]; simp [valW, hy]
    have hnot := uI_not y
    rw [Nat.add_zero] at hc0
    clear hM hinp hreg hone hx ha0 ha1 hy
    go_enter Try.func90, Try.ntmps90
    go_wp2_with fail
    rw [← HW.out]
    go_quiet (fail)
    go_wp2
    go_ret
    exact ⟨ret_int (congrArg uI HM.out), HX.out.drewN _⟩
theorem pickW_next {v : List (BitVec 64)} {l : List Int} {k : Nat} {x : Int} (h : l[k]? = some x) : (pickW v (l.take (k + 1))).map U = (pickW v (l.take k)).map U ++ [U (valW v x)] := by
  unfold pickW; rw [take_next (valW v) l h, List.map_append]; rfl
set_option maxHeartbeats 1000000 in
theorem pickW_any (bb : Nat) (VA : Option Addr) (vn vc : Nat) (LA : Option Addr) (ln lc : Nat) (v : List (BitVec 64)) (l : List Int) (w : World) (hb : w.cell? ⟨bb, 2, none⟩ = some (.slice VA vn vc)) (hv : Sl w VA vn (v.map U)) (hl : Sl w LA ln (l.map I)) (hr : inR vn l) (hn : ln ≤ 1000000) :
    Calls Try.prog 91 #[.pointer (some ⟨bb, 0, none⟩), .slice LA ln lc] w fun e w' => ∃ r, e = .returned r ∧ w'.ownsRow w.heap.size 55 1 r ln ((pickW v l).map U) ∧ Ext w w' := by
  have HB := Lib.hid hb; have HV := Lib.hid hv; have HL := Lib.hid hl; have HR := Lib.hid hr; clear hv hl hr hb
  go_enter Try.func91, Try.ntmps91
  go_wp2
  go_loopw [5, 10] (fun s i wr => ∃ (k : Nat), k ≤ ln ∧ i = .int .i64 k ∧ Ext w wr ∧ wr.ownsRow w.heap.size 55 1 s k ((pickW v (l.take k)).map U)) (fun _ i _ => ln - (intOf i).toNat)
  case atStart => exact ⟨0, Nat.zero_le _, rfl, Ext.refl _, World.ownsRow_nil _ _ _ _⟩
  case round =>
    obtain ⟨k, hk, rfl, hext, hown⟩ := hrel
    by_cases hlt : k < ln
    · obtain ⟨b, off, x, rfl, hc0, hx⟩ := HL.out.at_ hlt
      have hc := hext.keeps _ _ hc0
      obtain ⟨h0, h1⟩ := HR.out x (List.mem_of_getElem? hx)
      obtain ⟨j, rfl⟩ : ∃ j : Nat, x = j := ⟨x.toNat, by omega⟩
      have hj : j < vn := by omega
      obtain ⟨b', off', y, rfl, hd0, hy⟩ := HV.out.at_ hj
      have hd := hext.keeps _ _ hd0
      have hbb := hext.keeps _ _ HB.out
      have hn2 := pickW_next (v := v) hx
      rw [valW_at hy] at hn2
      have HN := Lib.hid hn2; have HO := Lib.hid hown
      clear hn2 hown hx hy hc0 hd0 h0 h1
      go_wp2_with (at_builtin; refine wpList_push rfl (.tmp 14) (.tmp 22) 54 55 rfl tab_u64 Try.underlying54 rfl (by omega) w wr hext _ k _ rfl HO.out [U y] rfl rfl rfl (by simp [Value.oneCell']) (by unfold maxLen; omega) (by omega) ?_; intro v' w2 hown2 hx3 _)
      go_roundw
      case rel => exact ⟨k + 1, by omega, by go_num, hx3, by rw [HN.out]; exact hown2⟩
      case measure => simp [intOf]; omega
    · have hkn : k = ln := by omega
      subst hkn
      have ht : l.take k = l := List.take_of_length_le (by have := HL.out.len; omega)
      rw [ht] at hown
      have HO := Lib.hid hown; clear hown ht
      go_wp2
      go_ret
      exact ⟨_, rfl, HO.out, hext⟩
end Go.Proofs.Ytlafiddfplhafaa
/- power and bits of the reference. -/
namespace Go.Proofs.Ytlafiddfplhafaa
set_option linter.unusedVariables false
set_option linter.unusedSimpArgs false
open Go.RowKit
end Go.Proofs.Ytlafiddfplhafaa
