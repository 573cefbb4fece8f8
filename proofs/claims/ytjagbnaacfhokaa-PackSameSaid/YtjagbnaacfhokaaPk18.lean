/- The board of pack: lay, play. -/
import Derived.Test.YtjagbnaacfhokaaPk16
import Derived.Test.YtjagbnaacfhokaaPk17
import Derived.Test.YtjagbnaacfhokaaPk14
import Derived.Test.YtjagbnaacfhokaaPk02
import Derived.RegionTactic
namespace Go.Proofs.Ytjagbnaacfhokaa
set_option linter.unusedVariables false
set_option linter.unusedSimpArgs false
open Go.RowKit

structure Board (w : World) (base bb nb vb : Nat) (LA : Option Addr) (lc gn : Nat) (l : List Int) (v : List (BitVec 64)) : Prop where
  c0 : w.cell? ⟨bb, 0, none⟩ = some (.pointer (some ⟨nb, 0, none⟩))
  c1 : w.cell? ⟨bb, 1, none⟩ = some (.slice LA l.length lc)
  c2 : w.cell? ⟨bb, 2, none⟩ = some (.slice (some ⟨vb, 0, none⟩) gn gn)
  lm : l.length ≤ lc ∧ lc ≤ maxLen
  sl : Sl w LA l.length (l.map I)
  row : w.ownsRow base 79 1 (.slice (some ⟨vb, 0, none⟩) gn gn) gn (v.map U)
  bne : bb ≠ vb
  lne : ∀ p, LA = some p → p.block ≠ vb
section
variable {w w' : World} {base bb nb vb : Nat} {LA : Option Addr} {lc gn : Nat} {l : List Int} {v v' : List (BitVec 64)}
theorem Board.vl (h : Board w base bb nb vb LA lc gn l v) : v.length = gn := by have := h.row.1; simpa using this
theorem Board.vbase (h : Board w base bb nb vb LA lc gn l v) : base ≤ vb := (h.row.lt vb rfl).1
theorem Board.ext (h : Board w base bb nb vb LA lc gn l v) (k : Ext w w') : Board w' base bb nb vb LA lc gn l v :=
  ⟨k.keeps _ _ h.c0, k.keeps _ _ h.c1, k.keeps _ _ h.c2, h.lm, h.sl.keep k.keeps, own_ext h.row k, h.bne, h.lne⟩
theorem Board.aside (h : Board w base bb nb vb LA lc gn l v) (k : Aside vb vb w w') (hr : w'.ownsRow base 79 1 (.slice (some ⟨vb, 0, none⟩) gn gn) gn (v'.map U)) : Board w' base bb nb vb LA lc gn l v' :=
  ⟨k.cell h.c0 h.bne h.bne, k.cell h.c1 h.bne h.bne, k.cell h.c2 h.bne h.bne, h.lm, h.sl.aside k (fun p e => ⟨h.lne p e, h.lne p e⟩), hr, h.bne, h.lne⟩
theorem Board.base_le {base' : Nat} (h : Board w base bb nb vb LA lc gn l v) (hb : base' ≤ base) : Board w base' bb nb vb LA lc gn l v :=
  ⟨h.c0, h.c1, h.c2, h.lm, h.sl, own_base h.row hb, h.bne, h.lne⟩
end

theorem Sl.aside0 {vb : Nat} {a b : World} {A : Option Addr} {n : Nat} {cs : List Value} (h : Sl a A n cs) (k : Aside vb vb a b) (hA : ∀ p, A = some p → 0 < n → p.block ≠ vb) : Sl b A n cs := by
  rcases Nat.eq_zero_or_pos n with e | e
  · subst e
    rw [List.eq_nil_of_length_eq_zero h.1]; exact Sl.nil _ _
  · exact h.aside k (fun p hp => ⟨hA p hp e, hA p hp e⟩)
section
variable (i : Int) (GA : Option Addr) (gn gc : Nat) (RA : Option Addr) (rn rc : Nat) (OA : Option Addr) (on oc : Nat) (N : NetM) (nb : Nat)
theorem lay_bad (w : World) (hb : NetBox w nb i GA gn gc RA rn rc OA on oc) (h : NetC w i GA gn gc RA rn rc OA on oc N) (hbad : (orderV N).2 ≠ 0) :
    Calls Try.prog 85 #[.pointer (some ⟨nb, 0, none⟩)] w fun e w' => e = .returned (Pr (.pointer none) (I (orderV N).2)) ∧ Ext w w' := by
  have hno := order_any i GA gn gc RA rn rc OA on oc N w h
  have g : ((orderV N).2 != 0) = true := by simpa using hbad
  generalize (orderV N).2 = E at *
  obtain ⟨q0, q1, q2, q3⟩ := hb
  have HNO := Lib.hid hno; clear hno h hbad
  go_enter Try.func85, Try.ntmps85
  go_wp2_with fail
  refine HNO.out.mono ?_; rintro e w1 ⟨v, rfl, -, x1⟩
  have X1 := Lib.hid x1; clear x1 q0 q1 q2 q3 HNO
  go_wp2
  go_ret2
  exact ⟨rfl, X1.out⟩
set_option maxHeartbeats 2000000 in
theorem lay_good (w : World) (hb : NetBox w nb i GA gn gc RA rn rc OA on oc) (h : NetC w i GA gn gc RA rn rc OA on oc N) (l : List Int) (hO : orderV N = (l, 0)) (hgn : gn ≤ 200) :
    Calls Try.prog 85 #[.pointer (some ⟨nb, 0, none⟩)] w fun e w' => ∃ bb vb LA lc, e = .returned (Pr (.pointer (some ⟨bb, 0, none⟩)) (I 0)) ∧ Board w' w.heap.size bb nb vb LA lc gn l (List.replicate gn 0#64) ∧ Ext w w' := by
  have hno := order_any i GA gn gc RA rn rc OA on oc N w h
  rw [hO] at hno
  have HB := Lib.hid hb
  have HNO := Lib.hid hno; clear hno h hO hb
  obtain ⟨q0, q1, q2, q3⟩ := HB.out
  go_enter Try.func85, Try.ntmps85
  go_wp2_with fail
  refine HNO.out.mono ?_; rintro e w1 ⟨v, rfl, hown, x1⟩
  have hlt := hown.lt
  obtain ⟨LA, lc, rfl, hlc, hlm, hls⟩ := own_sl hown
  obtain ⟨W2, hW2⟩ : ∃ W2, W2 = w1.alloc (.cells (zeros (.int .u64 0) gn) 79) := ⟨_, rfl⟩
  obtain ⟨W3, hW3⟩ : ∃ W3, W3 = W2.alloc (.cells #[.pointer (some ⟨nb, 0, none⟩), .slice LA l.length lc, .slice (some ⟨w1.heap.size, 0, none⟩) gn gn] 138) := ⟨_, rfl⟩
  have xw2 : Ext w1 W2 := by rw [hW2]; exact (Ext.refl _).alloc _
  obtain ⟨y0, y1, y2, x3⟩ := box3 W2 _ _ _ _ hW3
  have hsz : W2.heap.size = w1.heap.size + 1 := by rw [hW2]; simp
  rw [hsz] at y0 y1 y2
  have hown0 : W2.ownsRow w.heap.size 79 1 (.slice (some ⟨w1.heap.size, 0, none⟩) gn gn) gn ((List.replicate gn 0#64).map U) := by
    have := own_made w1 79 (.int .u64 0) gn w.heap.size x1.size (by unfold maxLen; omega)
    rw [show (List.replicate gn (0#64 : BitVec 64)).map U = List.replicate gn (.int .u64 0) from by rw [List.map_replicate]; rfl, hW2]
    exact this
  have hfin : Board W3 w.heap.size (w1.heap.size + 1) nb w1.heap.size LA lc gn l (List.replicate gn 0#64) :=
    ⟨y0, y1, y2, ⟨hlc, hlm⟩, hls.keep (xw2.trans x3).keeps, own_ext hown0 x3, by omega, fun p e => by
      subst e
      have hs := hls.2
      have := (hlt p.block rfl).2
      omega⟩
  have HF := Lib.hid hfin; have HX := Lib.hid ((x1.trans xw2).trans x3)
  have HW3 : Hid (W3 = (w1.alloc (.cells (zeros (.int .u64 0) gn) 79)).alloc (.cells #[.pointer (some ⟨nb, 0, none⟩), .slice LA l.length lc, .slice (some ⟨w1.heap.size, 0, none⟩) gn gn] 138)) := by unfold Hid; rw [hW3, hW2]
  have hmk := fun Q => run_make1 (P := Try.prog) 48 79 tab_u64 Try.underlying48 rfl gn (by omega) (by omega) Q
  obtain ⟨q0, q1, q2, q3⟩ := HB.out.keep x1.keeps
  clear hown hlt hls hW2 hW3 y0 y1 y2 x3 xw2 x1 hsz hown0 hfin hlc hlm HNO
  go_wp2
  rw [← HW3.out]
  go_ret2
  exact ⟨_, _, _, _, rfl, HF.out, HX.out⟩

set_option maxRecDepth 100000 in
set_option maxHeartbeats 4000000 in
theorem playWord_any (w0 w : World) (base bb vb : Nat) (LA : Option Addr) (lc : Nat) (l : List Int) (v : List (BitVec 64)) (RB : Option Addr) (pc : Nat) (IA : Option Addr) (jn jc : Nat) (regs ins : List (BitVec 64))
    (hx : Ext w0 w) (hbase : w0.heap.size ≤ base) (hb : NetBox w0 nb i GA gn gc RA rn rc OA on oc) (h : NetC w0 i GA gn gc RA rn rc OA on oc N) (B : Board w base bb nb vb LA lc gn l v) (ok : NetOK N) (hO : orderM N.gates = some l)
    (hr : Sl w RB rn (regs.map U)) (hrne : ∀ p, RB = some p → 0 < rn → p.block ≠ vb) (hi : Sl w0 IA jn (ins.map U)) (hjn : (jn : Int) = N.ins) :
    Calls Try.prog 86 #[.pointer (some ⟨bb, 0, none⟩), .slice RB rn pc, .slice IA jn jc] w fun e w' => ∃ vo vn v', e = .returned (Pr vo vn) ∧ w'.ownsRow w.heap.size 79 1 vo on ((playW N regs ins).1.map U) ∧ w'.ownsRow w.heap.size 79 1 vn rn ((playW N regs ins).2.map U) ∧
      Board w' base bb nb vb LA lc gn l v' ∧ Aside vb vb w w' := by
  have hgl : N.gates.length = gn := h.gates.1
  have hrl : N.regs.length = rn := h.regs.1
  have hol : N.outs.length = on := h.outs.len
  have hvl := B.vl
  have hll := (orderM_ord hO).1
  rw [hgl] at hll
  have hgn : gn ≤ 200 := by have := ok.gl; omega
  have hpq := play_any ok hO regs ins (v := v) (by rw [hvl, hgl])
  generalize hF : alongW N.gates regs ins l v = F at *
  have hFl : F.length = gn := by rw [← hF, alongW_len, hvl]
  have hmL : LA = LA := rfl
  have HB := Lib.hid B; have HX := Lib.hid hx; have HBox := Lib.hid hb; have HN := Lib.hid h; have HOK := Lib.hid ok; have HR := Lib.hid hr; have HI := Lib.hid hi; have HPQ := Lib.hid hpq; have HF := Lib.hid hF; have HO := Lib.hid hO; have HRN := Lib.hid hrne; have HJN := Lib.hid hjn; have HFL := Lib.hid hFl; have HVL := Lib.hid hvl
  have hl200 : l.length ≤ 200 := by omega
  have c1 := B.c1
  have hlcm := B.lm
  unfold maxLen at hlcm
  have HGL := Lib.hid hgl; have HRL := Lib.hid hrl; have HOL := Lib.hid hol
  clear B hx hb h ok hr hi hpq hF hO hrne hmL hjn hFl hvl hgl hrl hol hll
  go_enter Try.func86, Try.ntmps86
  go_wp2_with fail
  clear c1
  go_loopw [15] (fun j wr => ∃ (q : Nat) (vv : List (BitVec 64)), q ≤ l.length ∧ j = .int .i64 q ∧ Aside vb vb w wr ∧ Board wr base bb nb vb LA lc gn l vv ∧ alongW N.gates regs ins (l.drop q) vv = F) (fun j _ => l.length - (intOf j).toNat)
  case atStart => exact ⟨0, v, Nat.zero_le _, rfl, Aside.refl _ _ _, HB.out, HF.out⟩
  case round =>
    obtain ⟨q, vv, hq, rfl, has, hbd, hAL⟩ := hrel
    have hx0 : Ext w0 wr := has.ext HX.out (Nat.le_trans hbase HB.out.vbase) (Nat.le_trans hbase HB.out.vbase)
    by_cases hlt : q < l.length
    · obtain ⟨bL, oL, x, rfl, hcL, hdL⟩ := hbd.sl.next hlt
      have hxm : x ∈ l := by
        have : x ∈ l.drop q := by rw [hdL]; simp
        exact List.mem_of_mem_drop this
      obtain ⟨hx0', g, hxg⟩ := ord_range (orderM_ord HO.out).2 x hxm
      obtain ⟨j, rfl⟩ : ∃ j : Nat, x = j := ⟨x.toNat, by omega⟩
      rw [Int.toNat_natCast] at hxg
      have hjl : j < gn := by have := (List.getElem?_eq_some_iff.1 hxg).1; have := HGL.out; omega
      rw [hdL, alongW, Int.toNat_natCast, hxg, Option.getD_some] at hAL
      obtain ⟨b, offg, A', m, c', gt, rfl, g0, g1, g2, hsg, hmc, hcm2, hd, hgt⟩ := HN.out.gates.next hjl
      obtain rfl : g = gt := by rw [hxg] at hgt; exact Option.some.inj hgt
      have k0 := hx0.keeps _ _ g0; have k1 := hx0.keeps _ _ g1; have k2 := hx0.keeps _ _ g2
      have hgr := HOK.out.gate (List.mem_of_getElem? hgt)
      rw [HGL.out] at hgr
      have hjn2 : jn = N.ins.toNat := by have := HJN.out; omega
      rw [← hjn2, HRL.out] at hgr
      have hrr : Sl wr RB rn (regs.map U) := HR.out.aside0 has HRN.out
      have hwv : Sl wr (some ⟨vb, 0, none⟩) gn (vv.map U) := by obtain ⟨A5, c5, e5, -, -, hsl⟩ := own_sl hbd.row; injection e5 with e5 _ _; rw [e5]; exact hsl
      generalize hX : ofW regs ins vv g = X at *
      have hof : ∀ Q, Ext wr Q → Calls Try.prog 121 #[.pointer (some ⟨bb, 0, none⟩), gateV g.kind g.num A' m c', .slice RB rn pc, .slice IA jn jc] Q fun e w' => e = .returned (U X) ∧ Ext Q w' := fun Q hQ => by
        rw [← hX]
        exact wordOf_any bb _ gn gn A' m c' RB rn pc IA jn jc regs ins vv g Q (hQ.keeps _ _ hbd.c2) (hrr.keep hQ.keeps) ((HI.out.keep hx0.keeps).keep hQ.keeps) ((hsg.keep hx0.keeps).keep hQ.keeps) (hwv.keep hQ.keeps) hgr
      have B0 : Hid (wr.cell? ⟨bb, 0, none⟩ = some (.pointer (some ⟨nb, 0, none⟩))) := hbd.c0
      have B2 : Hid (wr.cell? ⟨bb, 2, none⟩ = some (.slice (some ⟨vb, 0, none⟩) gn gn)) := hbd.c2
      have Q1 := Lib.hid (HBox.out.keep hx0.keeps).2.1
      have HOF := Lib.hid hof; have HA := Lib.hid has; have HAL := Lib.hid hAL; have HBD := Lib.hid hbd
      have K0 := Lib.hid k0; have K1 := Lib.hid k1; have K2 := Lib.hid k2
      clear hof has hbd hAL k0 k1 k2 g0 g1 g2 hsg hd hgt hxg hdL hxm hgr hX hmc hx0' hjn2 hrr hwv hx0 HB
      go_upto_region 4 with fail
      refine wp_flow3 19 2 [isV (.pointer (some ⟨bb, 0, none⟩)), isV (.pointer (some ⟨bb, 0, none⟩)), isV (.pointer (some ⟨bb, 2, none⟩)), isV (.slice (some ⟨vb, 0, none⟩) gn gn), isV (.int .i64 j), isV (.pointer (some ⟨bb, 0, none⟩)), isV (.pointer (some ⟨bb, 0, none⟩)), isV (.pointer (some ⟨bb, 0, none⟩)), isV (.pointer (some ⟨bb, 0, none⟩)), isV (.pointer (some ⟨nb, 0, none⟩)), isV (.pointer (some ⟨nb, 0, none⟩)), isV (.pointer (some ⟨nb, 1, none⟩)), isV (.slice (some ⟨b, offg, none⟩) gn gc), isV (.int .i64 j), isV (.pointer (some ⟨b, offg + j * 3, none⟩)), isV (.agg #[I g.kind, I g.num, .slice A' m c']), isV (.slice RB rn pc), isV (.slice IA jn jc), isV (U X)] (by kernel_rfl) rfl rfl (by kernel_rfl) (by kernel_rfl) ⟨isV_mono, isV_mono, isV_mono, isV_mono, isV_mono, isV_mono, isV_mono, isV_mono, isV_mono, isV_mono, isV_mono, isV_mono, isV_mono, isV_mono, isV_mono, isV_mono, isV_mono, isV_mono, isV_mono, trivial⟩ ?each ?rest
      case each =>
        refine .cons ?_ (.cons ?_ (.cons ?_ (.cons ?_ (.cons ?_ (.cons ?_ (.cons ?_ (.cons ?_ (.cons ?_ (.cons ?_ (.cons ?_ (.cons ?_ (.cons ?_ (.cons ?_ (.cons ?_ (.cons ?_ (.cons ?_ (.cons ?_ (.cons ?_ (.nil)))))))))))))))))))
        · intro fa fw hx hs hb
          have s0 : fa.tmps[(0 : Nat)]? = some (.pointer (some ⟨bb, 0, none⟩)) := (hb 0 (by kernel_rfl)).trans (by rfl)
          refine .inl ⟨wanted_free rfl, fun K hK => ?_⟩
          clear hs hb hx
          go_simp
          exact hK _ _ rfl (Ext.refl _)
        · intro fa fw hx hs hb
          obtain ⟨_, s19, rfl⟩ := hs 0 19 (by kernel_rfl) (by kernel_rfl)
          refine .inl ⟨wanted_free rfl, fun K hK => ?_⟩
          clear hs hb hx
          go_simp
          exact hK _ _ rfl (Ext.refl _)
        · intro fa fw hx hs hb
          obtain ⟨_, s20, rfl⟩ := hs 1 20 (by kernel_rfl) (by kernel_rfl)
          refine .inl ⟨wanted_free rfl, fun K hK => ?_⟩
          clear hs hb hx
          go_simp
          exact hK _ _ rfl (Ext.refl _)
        · intro fa fw hx hs hb
          obtain ⟨_, s21, rfl⟩ := hs 2 21 (by kernel_rfl) (by kernel_rfl)
          have c0 := hx.keeps _ _ B2.out
          refine .inl ⟨wanted_free rfl, fun K hK => ?_⟩
          clear hs hb hx
          go_simp
          exact hK _ _ rfl (Ext.refl _)
        · intro fa fw hx hs hb
          have s9 : fa.tmps[(9 : Nat)]? = some (.int .i64 j) := (hb 9 (by kernel_rfl)).trans (by rfl)
          refine .inl ⟨wanted_free rfl, fun K hK => ?_⟩
          clear hs hb hx
          go_simp
          exact hK _ _ rfl (Ext.refl _)
        · intro fa fw hx hs hb
          have s0 : fa.tmps[(0 : Nat)]? = some (.pointer (some ⟨bb, 0, none⟩)) := (hb 0 (by kernel_rfl)).trans (by rfl)
          refine .inl ⟨wanted_free rfl, fun K hK => ?_⟩
          clear hs hb hx
          go_simp
          exact hK _ _ rfl (Ext.refl _)
        · intro fa fw hx hs hb
          have s0 : fa.tmps[(0 : Nat)]? = some (.pointer (some ⟨bb, 0, none⟩)) := (hb 0 (by kernel_rfl)).trans (by rfl)
          refine .inl ⟨wanted_free rfl, fun K hK => ?_⟩
          clear hs hb hx
          go_simp
          exact hK _ _ rfl (Ext.refl _)
        · intro fa fw hx hs hb
          obtain ⟨_, s25, rfl⟩ := hs 6 25 (by kernel_rfl) (by kernel_rfl)
          refine .inl ⟨wanted_free rfl, fun K hK => ?_⟩
          clear hs hb hx
          go_simp
          exact hK _ _ rfl (Ext.refl _)
        · intro fa fw hx hs hb
          obtain ⟨_, s26, rfl⟩ := hs 7 26 (by kernel_rfl) (by kernel_rfl)
          refine .inl ⟨wanted_free rfl, fun K hK => ?_⟩
          clear hs hb hx
          go_simp
          exact hK _ _ rfl (Ext.refl _)
        · intro fa fw hx hs hb
          obtain ⟨_, s27, rfl⟩ := hs 8 27 (by kernel_rfl) (by kernel_rfl)
          have c0 := hx.keeps _ _ B0.out
          refine .inl ⟨wanted_free rfl, fun K hK => ?_⟩
          clear hs hb hx
          go_simp
          exact hK _ _ rfl (Ext.refl _)
        · intro fa fw hx hs hb
          obtain ⟨_, s28, rfl⟩ := hs 9 28 (by kernel_rfl) (by kernel_rfl)
          refine .inl ⟨wanted_free rfl, fun K hK => ?_⟩
          clear hs hb hx
          go_simp
          exact hK _ _ rfl (Ext.refl _)
        · intro fa fw hx hs hb
          obtain ⟨_, s29, rfl⟩ := hs 10 29 (by kernel_rfl) (by kernel_rfl)
          refine .inl ⟨wanted_free rfl, fun K hK => ?_⟩
          clear hs hb hx
          go_simp
          exact hK _ _ rfl (Ext.refl _)
        · intro fa fw hx hs hb
          obtain ⟨_, s30, rfl⟩ := hs 11 30 (by kernel_rfl) (by kernel_rfl)
          have c0 := hx.keeps _ _ Q1.out
          refine .inl ⟨wanted_free rfl, fun K hK => ?_⟩
          clear hs hb hx
          go_simp
          exact hK _ _ rfl (Ext.refl _)
        · intro fa fw hx hs hb
          have s9 : fa.tmps[(9 : Nat)]? = some (.int .i64 j) := (hb 9 (by kernel_rfl)).trans (by rfl)
          refine .inl ⟨wanted_free rfl, fun K hK => ?_⟩
          clear hs hb hx
          go_simp
          exact hK _ _ rfl (Ext.refl _)
        · intro fa fw hx hs hb
          obtain ⟨_, s31, rfl⟩ := hs 12 31 (by kernel_rfl) (by kernel_rfl)
          obtain ⟨_, s32, rfl⟩ := hs 13 32 (by kernel_rfl) (by kernel_rfl)
          refine .inl ⟨wanted_free rfl, fun K hK => ?_⟩
          clear hs hb hx
          go_simp
          exact hK _ _ rfl (Ext.refl _)
        · intro fa fw hx hs hb
          obtain ⟨_, s33, rfl⟩ := hs 14 33 (by kernel_rfl) (by kernel_rfl)
          have c0 := hx.keeps _ _ K0.out
          have c1 := hx.keeps _ _ K1.out
          have c2 := hx.keeps _ _ K2.out
          refine .inl ⟨wanted_free rfl, fun K hK => ?_⟩
          clear hs hb hx
          go_simp
          exact hK _ _ rfl (Ext.refl _)
        · intro fa fw hx hs hb
          have s1 : fa.tmps[(1 : Nat)]? = some (.slice RB rn pc) := (hb 1 (by kernel_rfl)).trans (by rfl)
          refine .inl ⟨wanted_free rfl, fun K hK => ?_⟩
          clear hs hb hx
          go_simp
          exact hK _ _ rfl (Ext.refl _)
        · intro fa fw hx hs hb
          have s2 : fa.tmps[(2 : Nat)]? = some (.slice IA jn jc) := (hb 2 (by kernel_rfl)).trans (by rfl)
          refine .inl ⟨wanted_free rfl, fun K hK => ?_⟩
          clear hs hb hx
          go_simp
          exact hK _ _ rfl (Ext.refl _)
        · intro fa fw hx hs hb
          obtain ⟨_, s24, rfl⟩ := hs 5 24 (by kernel_rfl) (by kernel_rfl)
          obtain ⟨_, s34, rfl⟩ := hs 15 34 (by kernel_rfl) (by kernel_rfl)
          obtain ⟨_, s35, rfl⟩ := hs 16 35 (by kernel_rfl) (by kernel_rfl)
          obtain ⟨_, s36, rfl⟩ := hs 17 36 (by kernel_rfl) (by kernel_rfl)
          refine .inl ⟨wanted_free rfl, fun K hK => ?_⟩
          clear hs hb
          go_simp
          refine (HOF.out _ hx).mono ?_
          rintro e w' ⟨rfl, xq⟩
          exact hK _ _ rfl xq
      case rest =>
        intro w2 hxw2
        rintro _ rfl
        rintro _ rfl
        rintro _ rfl
        rintro _ rfl
        rintro _ rfl
        rintro _ rfl
        rintro _ rfl
        rintro _ rfl
        rintro _ rfl
        rintro _ rfl
        rintro _ rfl
        rintro _ rfl
        rintro _ rfl
        rintro _ rfl
        rintro _ rfl
        rintro _ rfl
        rintro _ rfl
        rintro _ rfl
        rintro _ rfl
        simp only [putAll, List.take, Act.put, List.setIfInBounds_toArray, List.set_cons_zero, List.set_cons_succ]
        refine wpAny_ready (rs := [19]) (by kernel_rfl) (by simp) (AllReady.cons rfl (fun KK hKK => ?_) AllReady.nil)
        have hv2 := own_ext HBD.out.row hxw2
        obtain ⟨⟨u, hu2, hcv2⟩, hfv2, -⟩ := own_at hv2 hjl
        go_simp
        refine hKK _ _ ?_
        clear hKK KK
        refine wpAny_ready (rs := [20]) (by kernel_rfl) (by simp) (AllReady.cons rfl (fun KK hKK => ?_) AllReady.nil)
        go_simp
        refine hKK _ _ ?_
        clear hKK KK
        refine wpAny_done (by kernel_rfl) ?_ _
        have hv3 := (hv2.stored j (U X)).1
        rw [← List.map_set] at hv3
        have hA3 := (HA.out.more hxw2).set1 j (U X)
        have hb3 := (HBD.out.ext hxw2).aside ((Aside.refl vb vb w2).set1 j (U X)) hv3
        have HV3 := Lib.hid hb3; have HA3 := Lib.hid hA3
        clear hv2 hu2 hcv2 hfv2 hcL hv3 hb3 hA3
        go_wp2
        go_roundw
        case rel => exact ⟨q + 1, vv.set j X, by omega, by go_num, HA3.out, HV3.out, HAL.out⟩
        case measure => simp [intOf]; omega
    · have hql : q = l.length := by omega
      subst hql
      rw [List.drop_length, alongW] at hAL
      subst hAL
      have hwv : Sl wr (some ⟨vb, 0, none⟩) gn (vv.map U) := by obtain ⟨A5, c5, e5, -, -, hsl⟩ := own_sl hbd.row; injection e5 with e5 _ _; rw [e5]; exact hsl
      have hpk : ∀ Q (A5 : Option Addr) (n5 c5 : Nat) (ll : List Int), Ext wr Q → Sl Q A5 n5 (ll.map I) → inR gn ll → n5 ≤ 1000000 → Calls Try.prog 122 #[.pointer (some ⟨bb, 0, none⟩), .slice A5 n5 c5] Q fun e w' => ∃ r, e = .returned r ∧ w'.ownsRow Q.heap.size 79 1 r n5 ((pickW vv ll).map U) ∧ Ext Q w' := fun Q A5 n5 c5 ll hQ hs hin hn =>
        pickW_any bb _ gn gn A5 n5 c5 vv ll Q (hQ.keeps _ _ hbd.c2) (hwv.keep hQ.keeps) hs hin hn
      have hio : inR gn N.outs := by have := HOK.out.outs; rwa [HGL.out] at this
      have hin : inR gn (nextsM N) := by have := HOK.out.nexts; rwa [HGL.out] at this
      have ho3 : on ≤ 3 := by have := HOK.out.ol; have := HOL.out; omega
      have hr20 : rn ≤ 20 := by have := HOK.out.rl; have := HRL.out; omega
      have hbx := HBox.out.keep hx0.keeps
      have NN := Lib.hid (HN.out.keep hx0.keeps)
      have B0 : Hid (wr.cell? ⟨bb, 0, none⟩ = some (.pointer (some ⟨nb, 0, none⟩))) := hbd.c0
      have N0 := Lib.hid hbx.1; have N1 := Lib.hid hbx.2.1; have N2 := Lib.hid hbx.2.2.1; have N3 := Lib.hid hbx.2.2.2
      have PK := Lib.hid hpk; have HIO := Lib.hid hio; have HIN := Lib.hid hin; have HA := Lib.hid has; have HBD := Lib.hid hbd
      have e1 : Hid ((playW N regs ins).1 = pickW vv N.outs) := by unfold Hid; rw [HPQ.out]
      have e2 : Hid ((playW N regs ins).2 = pickW vv (nextsM N)) := by unfold Hid; rw [HPQ.out]
      clear hwv hpk hio hin hbx has hbd hx0 hlt hq HB
      go_wp2_with fail
      refine wp_flow3 20 0 [isV (.pointer (some ⟨bb, 0, none⟩)), isV (.pointer (some ⟨bb, 0, none⟩)), isV (.pointer (some ⟨bb, 0, none⟩)), isV (.pointer (some ⟨bb, 0, none⟩)), isV (.pointer (some ⟨nb, 0, none⟩)), isV (.pointer (some ⟨nb, 0, none⟩)), isV (.pointer (some ⟨nb, 3, none⟩)), isV (.slice OA on oc), fun v w => ∃ A c, v = .slice A on c ∧ w.ownsRow wr.heap.size 79 1 (.slice A on c) on ((pickW vv N.outs).map U), isV (.pointer (some ⟨bb, 0, none⟩)), isV (.pointer (some ⟨bb, 0, none⟩)), isV (.pointer (some ⟨bb, 0, none⟩)), isV (.pointer (some ⟨bb, 0, none⟩)), isV (.pointer (some ⟨nb, 0, none⟩)), isV (.pointer (some ⟨nb, 0, none⟩)), isV (.agg #[I i, .slice GA gn gc, .slice RA rn rc, .slice OA on oc]), fun v w => ∃ A c, v = .slice A rn c ∧ w.ownsRow wr.heap.size 3 1 (.slice A rn c) rn ((nextsM N).map I), fun v w => ∃ A c, v = .slice A rn c ∧ w.ownsRow wr.heap.size 79 1 (.slice A rn c) rn ((pickW vv (nextsM N)).map U), fun v w => ∃ A c, v = .slice A on c ∧ w.ownsRow wr.heap.size 79 1 (.slice A on c) on ((pickW vv N.outs).map U), fun v w => ∃ A c, v = .slice A rn c ∧ w.ownsRow wr.heap.size 79 1 (.slice A rn c) rn ((pickW vv (nextsM N)).map U)] (by kernel_rfl) rfl rfl (by kernel_rfl) (by kernel_rfl) ⟨isV_mono, isV_mono, isV_mono, isV_mono, isV_mono, isV_mono, isV_mono, isV_mono, fun v w w' ⟨A, c, e, h⟩ hx => ⟨A, c, e, own_ext h hx⟩, isV_mono, isV_mono, isV_mono, isV_mono, isV_mono, isV_mono, isV_mono, fun v w w' ⟨A, c, e, h⟩ hx => ⟨A, c, e, own_ext h hx⟩, fun v w w' ⟨A, c, e, h⟩ hx => ⟨A, c, e, own_ext h hx⟩, fun v w w' ⟨A, c, e, h⟩ hx => ⟨A, c, e, own_ext h hx⟩, fun v w w' ⟨A, c, e, h⟩ hx => ⟨A, c, e, own_ext h hx⟩, trivial⟩ ?each ?rest
      case each =>
        refine .cons ?_ (.cons ?_ (.cons ?_ (.cons ?_ (.cons ?_ (.cons ?_ (.cons ?_ (.cons ?_ (.cons ?_ (.cons ?_ (.cons ?_ (.cons ?_ (.cons ?_ (.cons ?_ (.cons ?_ (.cons ?_ (.cons ?_ (.cons ?_ (.cons ?_ (.cons ?_ (.nil))))))))))))))))))))
        · intro fa fw hx hs hb
          have s0 : fa.tmps[(0 : Nat)]? = some (.pointer (some ⟨bb, 0, none⟩)) := (hb 0 (by kernel_rfl)).trans (by rfl)
          refine .inl ⟨wanted_free rfl, fun K hK => ?_⟩
          clear hs hb hx
          go_simp
          exact hK _ _ rfl (Ext.refl _)
        · intro fa fw hx hs hb
          have s0 : fa.tmps[(0 : Nat)]? = some (.pointer (some ⟨bb, 0, none⟩)) := (hb 0 (by kernel_rfl)).trans (by rfl)
          refine .inl ⟨wanted_free rfl, fun K hK => ?_⟩
          clear hs hb hx
          go_simp
          exact hK _ _ rfl (Ext.refl _)
        · intro fa fw hx hs hb
          obtain ⟨_, s41, rfl⟩ := hs 1 41 (by kernel_rfl) (by kernel_rfl)
          refine .inl ⟨wanted_free rfl, fun K hK => ?_⟩
          clear hs hb hx
          go_simp
          exact hK _ _ rfl (Ext.refl _)
        · intro fa fw hx hs hb
          obtain ⟨_, s42, rfl⟩ := hs 2 42 (by kernel_rfl) (by kernel_rfl)
          refine .inl ⟨wanted_free rfl, fun K hK => ?_⟩
          clear hs hb hx
          go_simp
          exact hK _ _ rfl (Ext.refl _)
        · intro fa fw hx hs hb
          obtain ⟨_, s43, rfl⟩ := hs 3 43 (by kernel_rfl) (by kernel_rfl)
          have c0 := hx.keeps _ _ B0.out
          refine .inl ⟨wanted_free rfl, fun K hK => ?_⟩
          clear hs hb hx
          go_simp
          exact hK _ _ rfl (Ext.refl _)
        · intro fa fw hx hs hb
          obtain ⟨_, s44, rfl⟩ := hs 4 44 (by kernel_rfl) (by kernel_rfl)
          refine .inl ⟨wanted_free rfl, fun K hK => ?_⟩
          clear hs hb hx
          go_simp
          exact hK _ _ rfl (Ext.refl _)
        · intro fa fw hx hs hb
          obtain ⟨_, s45, rfl⟩ := hs 5 45 (by kernel_rfl) (by kernel_rfl)
          refine .inl ⟨wanted_free rfl, fun K hK => ?_⟩
          clear hs hb hx
          go_simp
          exact hK _ _ rfl (Ext.refl _)
        · intro fa fw hx hs hb
          obtain ⟨_, s46, rfl⟩ := hs 6 46 (by kernel_rfl) (by kernel_rfl)
          have c0 := hx.keeps _ _ N3.out
          refine .inl ⟨wanted_free rfl, fun K hK => ?_⟩
          clear hs hb hx
          go_simp
          exact hK _ _ rfl (Ext.refl _)
        · intro fa fw hx hs hb
          obtain ⟨_, s40, rfl⟩ := hs 0 40 (by kernel_rfl) (by kernel_rfl)
          obtain ⟨_, s47, rfl⟩ := hs 7 47 (by kernel_rfl) (by kernel_rfl)
          refine .inl ⟨wanted_free rfl, fun K hK => ?_⟩
          clear hs hb
          go_simp
          refine (PK.out fw OA on oc N.outs hx (NN.out.outs.keep hx.keeps) HIO.out (by omega)).mono ?_
          rintro e w' ⟨r0, rfl, ho, xq⟩
          obtain ⟨Aq, cq, rfl, -, -, -⟩ := own_sl ho
          exact hK _ _ ⟨Aq, cq, rfl, own_base ho hx.size⟩ xq
        · intro fa fw hx hs hb
          have s0 : fa.tmps[(0 : Nat)]? = some (.pointer (some ⟨bb, 0, none⟩)) := (hb 0 (by kernel_rfl)).trans (by rfl)
          refine .inl ⟨wanted_free rfl, fun K hK => ?_⟩
          clear hs hb hx
          go_simp
          exact hK _ _ rfl (Ext.refl _)
        · intro fa fw hx hs hb
          have s0 : fa.tmps[(0 : Nat)]? = some (.pointer (some ⟨bb, 0, none⟩)) := (hb 0 (by kernel_rfl)).trans (by rfl)
          refine .inl ⟨wanted_free rfl, fun K hK => ?_⟩
          clear hs hb hx
          go_simp
          exact hK _ _ rfl (Ext.refl _)
        · intro fa fw hx hs hb
          obtain ⟨_, s50, rfl⟩ := hs 10 50 (by kernel_rfl) (by kernel_rfl)
          refine .inl ⟨wanted_free rfl, fun K hK => ?_⟩
          clear hs hb hx
          go_simp
          exact hK _ _ rfl (Ext.refl _)
        · intro fa fw hx hs hb
          obtain ⟨_, s51, rfl⟩ := hs 11 51 (by kernel_rfl) (by kernel_rfl)
          refine .inl ⟨wanted_free rfl, fun K hK => ?_⟩
          clear hs hb hx
          go_simp
          exact hK _ _ rfl (Ext.refl _)
        · intro fa fw hx hs hb
          obtain ⟨_, s52, rfl⟩ := hs 12 52 (by kernel_rfl) (by kernel_rfl)
          have c0 := hx.keeps _ _ B0.out
          refine .inl ⟨wanted_free rfl, fun K hK => ?_⟩
          clear hs hb hx
          go_simp
          exact hK _ _ rfl (Ext.refl _)
        · intro fa fw hx hs hb
          obtain ⟨_, s53, rfl⟩ := hs 13 53 (by kernel_rfl) (by kernel_rfl)
          refine .inl ⟨wanted_free rfl, fun K hK => ?_⟩
          clear hs hb hx
          go_simp
          exact hK _ _ rfl (Ext.refl _)
        · intro fa fw hx hs hb
          obtain ⟨_, s54, rfl⟩ := hs 14 54 (by kernel_rfl) (by kernel_rfl)
          have c0 := hx.keeps _ _ N0.out
          have c1 := hx.keeps _ _ N1.out
          have c2 := hx.keeps _ _ N2.out
          have c3 := hx.keeps _ _ N3.out
          refine .inl ⟨wanted_free rfl, fun K hK => ?_⟩
          clear hs hb hx
          go_simp
          exact hK _ _ rfl (Ext.refl _)
        · intro fa fw hx hs hb
          obtain ⟨_, s55, rfl⟩ := hs 15 55 (by kernel_rfl) (by kernel_rfl)
          refine .inl ⟨wanted_free rfl, fun K hK => ?_⟩
          clear hs hb
          go_simp
          refine (nexts_any i GA gn gc RA rn rc OA on oc N fw (NN.out.keep hx.keeps) hr20).mono ?_
          rintro e w' ⟨r0, rfl, ho, xq⟩
          obtain ⟨Aq, cq, rfl, -, -, -⟩ := own_sl ho
          exact hK _ _ ⟨Aq, cq, rfl, own_base ho hx.size⟩ xq
        · intro fa fw hx hs hb
          obtain ⟨_, s49, rfl⟩ := hs 9 49 (by kernel_rfl) (by kernel_rfl)
          obtain ⟨_, s56, A56, c56, rfl, q56⟩ := hs 16 56 (by kernel_rfl) (by kernel_rfl)
          refine .inl ⟨wanted_free rfl, fun K hK => ?_⟩
          clear hs hb
          obtain ⟨Ar, cr, er, -, hcm, hsr⟩ := own_sl q56
          injection er with er _ ec
          subst er; subst ec
          go_simp
          refine (PK.out fw A56 rn c56 (nextsM N) hx hsr HIN.out (by omega)).mono ?_
          rintro e w' ⟨r0, rfl, ho, xq⟩
          obtain ⟨Aq, cq, rfl, -, -, -⟩ := own_sl ho
          exact hK _ _ ⟨Aq, cq, rfl, own_base ho hx.size⟩ xq
        · intro fa fw hx hs hb
          obtain ⟨_, s48, A48, c48, rfl, q48⟩ := hs 8 48 (by kernel_rfl) (by kernel_rfl)
          refine .inl ⟨wanted_free rfl, fun K hK => ?_⟩
          clear hs hb
          go_simp
          exact hK _ _ ⟨A48, c48, rfl, q48⟩ (Ext.refl _)
        · intro fa fw hx hs hb
          obtain ⟨_, s57, A57, c57, rfl, q57⟩ := hs 17 57 (by kernel_rfl) (by kernel_rfl)
          refine .inl ⟨wanted_free rfl, fun K hK => ?_⟩
          clear hs hb
          go_simp
          exact hK _ _ ⟨A57, c57, rfl, q57⟩ (Ext.refl _)
      case rest =>
        intro w2 hxw2
        rintro _ rfl
        rintro _ rfl
        rintro _ rfl
        rintro _ rfl
        rintro _ rfl
        rintro _ rfl
        rintro _ rfl
        rintro _ rfl
        rintro _ ⟨A48, c48, rfl, q48⟩
        rintro _ rfl
        rintro _ rfl
        rintro _ rfl
        rintro _ rfl
        rintro _ rfl
        rintro _ rfl
        rintro _ rfl
        rintro _ ⟨A56, c56, rfl, q56⟩
        rintro _ ⟨A57, c57, rfl, q57⟩
        rintro _ ⟨A6, c6, rfl, q6⟩
        rintro _ ⟨A7, c7, rfl, q7⟩
        simp only [putAll, List.take, Act.put, List.setIfInBounds_toArray, List.set_cons_zero, List.set_cons_succ]
        refine wpAny_done (by kernel_rfl) ?_ _
        go_wp2
        refine bodyPost_ret (v := Pr (.slice A6 on c6) (.slice A7 rn c7)) (by simp [results, Try.results86, go_sem]) rfl ⟨_, _, vv, rfl, ?_, ?_, HBD.out.ext hxw2, HA.out.more hxw2⟩
        · rw [e1.out]; exact own_base q6 HA.out.size
        · rw [e2.out]; exact own_base q7 HA.out.size
end
end Go.Proofs.Ytjagbnaacfhokaa
/- One instant: Turn and Do, by the program and by the reference. -/
namespace Go.Proofs.Ytjagbnaacfhokaa
set_option linter.unusedVariables false
set_option linter.unusedSimpArgs false
open Go.RowKit

abbrev turnQ (N : NetM) (regs ins : List Int) : List Int × List Int := (turnN N regs ins).getD ([], [])
/-- Two rows that a call made. -/
def TwoOwn (w w' : World) (vo vn : Value) (q : List Int × List Int) : Prop :=
  w'.ownsRow w.heap.size 3 1 vo q.1.length (q.1.map I) ∧ w'.ownsRow w.heap.size 3 1 vn q.2.length (q.2.map I) ∧ Ext w w'
theorem pickM_len (v l : List Int) : (pickM v l).length = l.length := by simp [pickM]

section
variable (i : Int) (GA : Option Addr) (gn gc : Nat) (RA : Option Addr) (rn rc : Nat) (OA : Option Addr) (on oc : Nat) (N : NetM) (RB : Option Addr) (pn pc : Nat) (IA : Option Addr) (jn jc : Nat) (regs ins : List Int) (w : World)

set_option maxRecDepth 100000 in
set_option maxHeartbeats 4000000 in
theorem turn_net_any (h : NetC w i GA gn gc RA rn rc OA on oc N) (hr : Sl w RB pn (regs.map I)) (hi : Sl w IA jn (ins.map I)) (ak : AskedOK N regs ins) :
    Calls Try.prog 94 #[netV i GA gn gc RA rn rc OA on oc, .slice RB pn pc, .slice IA jn jc] w fun e w' => ∃ vo vn, e = .returned (Pr3 vo vn (Bv (turnN N regs ins).isSome)) ∧ TwoOwn w w' vo vn (turnQ N regs ins) := by
  have hgl : N.gates.length = gn := h.gates.1
  have hrl : N.regs.length = rn := h.regs.1
  have hol : N.outs.length = on := h.outs.len
  obtain ⟨W, hW⟩ : ∃ W, W = w.alloc (.cells #[I i, .slice GA gn gc, .slice RA rn rc, .slice OA on oc] 26) := ⟨_, rfl⟩
  have hxW : Ext w W := by rw [hW]; exact (Ext.refl _).alloc _
  have hbox : NetBox W w.heap.size i GA gn gc RA rn rc OA on oc := by rw [hW]; exact NetBox.new w i GA gn gc RA rn rc OA on oc _
  have HN := Lib.hid (h.keep hxW.keeps); have HBox := Lib.hid hbox; have HW := Lib.hid hW; have HX := Lib.hid hxW; have HAK := Lib.hid ak
  have HR := Lib.hid (hr.keep hxW.keeps); have HI := Lib.hid (hi.keep hxW.keeps)
  have hsl : (settledM N.gates regs ins).length = gn := by rw [settled_len, hgl]
  generalize hM : turnN N regs ins = M
  have hQ : turnQ N regs ins = M.getD ([], []) := by unfold turnQ; rw [hM]
  rw [hQ]
  unfold turnN at hM
  have hgm : gn ≤ maxLen := by have := ak.net.gl; unfold maxLen; omega
  have hr20 : rn ≤ 20 := by have := ak.net.rl; omega
  have ho3 : on ≤ 3 := by have := ak.net.ol; omega
  have hio : inR gn N.outs := by have := ak.net.outs; rwa [hgl] at this
  have hin : inR gn (nextsM N) := by have := ak.net.nexts; rwa [hgl] at this
  clear h hr hi hW hxW hbox hQ ak hgl
  cases hc : (settledM N.gates regs ins).contains 2
  · rw [hc, if_neg (by simp)] at hM
    subst hM
    have HC := Lib.hid hc; have HSL := Lib.hid hsl; have HIO := Lib.hid hio; have HIN := Lib.hid hin
    have HL1 : Hid ((pickM (settledM N.gates regs ins) N.outs).length = on) := by unfold Hid; rw [pickM_len, hol]
    have HL2 : Hid ((pickM (settledM N.gates regs ins) (nextsM N)).length = rn) := by unfold Hid; rw [pickM_len]; simp [nextsM, hrl]
    clear hc hsl hio hin hrl hol
    go_enter Try.func94, Try.ntmps94
    go_wp2_with fail
    rw [← HW.out]
    refine (settle_any i GA gn gc RA rn rc OA on oc N RB pn pc IA jn jc regs ins W HN.out HR.out HI.out HAK.out).mono ?_; rintro e w1 ⟨v, rfl, hown, x1⟩
    obtain ⟨VA, vc, rfl, -, -, hs⟩ := own_sl hown
    have hbx := HBox.out.keep x1.keeps
    have S := Lib.hid hs; have X1 := Lib.hid x1; have BX := Lib.hid hbx; have NN := Lib.hid (HN.out.keep x1.keeps)
    clear hs x1 hown hbx
    go_wp2_with fail
    refine (containsInt_any VA gn vc _ 2 w1 S.out hgm).mono ?_; rintro e w2 ⟨rfl, rfl⟩; rw [HC.out]
    go_wp2_with fail
    have B0 : Hid (w1.cell? ⟨w.heap.size, 0, none⟩ = some (I i)) := BX.out.1
    have B1 : Hid (w1.cell? ⟨w.heap.size, 1, none⟩ = some (.slice GA gn gc)) := BX.out.2.1
    have B2 : Hid (w1.cell? ⟨w.heap.size, 2, none⟩ = some (.slice RA rn rc)) := BX.out.2.2.1
    have B3 : Hid (w1.cell? ⟨w.heap.size, 3, none⟩ = some (.slice OA on oc)) := BX.out.2.2.2
    generalize hS : settledM N.gates regs ins = SV at *
    refine wp_flow3 11 0 [isV (.slice VA gn vc), isV (.pointer (some ⟨w.heap.size, 3, none⟩)), isV (.slice OA on oc), fun v w => ∃ A c, v = .slice A on c ∧ w.ownsRow w1.heap.size 3 1 (.slice A on c) on ((pickM SV N.outs).map I), isV (.slice VA gn vc), isV (.agg #[.int .i64 i, .slice GA gn gc, .slice RA rn rc, .slice OA on oc]), fun v w => ∃ A c, v = .slice A rn c ∧ w.ownsRow w1.heap.size 3 1 (.slice A rn c) rn ((nextsM N).map I), fun v w => ∃ A c, v = .slice A rn c ∧ w.ownsRow w1.heap.size 3 1 (.slice A rn c) rn ((pickM SV (nextsM N)).map I), fun v w => ∃ A c, v = .slice A on c ∧ w.ownsRow w1.heap.size 3 1 (.slice A on c) on ((pickM SV N.outs).map I), fun v w => ∃ A c, v = .slice A rn c ∧ w.ownsRow w1.heap.size 3 1 (.slice A rn c) rn ((pickM SV (nextsM N)).map I), isV (.bool true)] (by kernel_rfl) rfl rfl (by kernel_rfl) (by kernel_rfl) ⟨isV_mono, isV_mono, isV_mono, fun v w w' ⟨A, c, e, h⟩ hx => ⟨A, c, e, own_ext h hx⟩, isV_mono, isV_mono, fun v w w' ⟨A, c, e, h⟩ hx => ⟨A, c, e, own_ext h hx⟩, fun v w w' ⟨A, c, e, h⟩ hx => ⟨A, c, e, own_ext h hx⟩, fun v w w' ⟨A, c, e, h⟩ hx => ⟨A, c, e, own_ext h hx⟩, fun v w w' ⟨A, c, e, h⟩ hx => ⟨A, c, e, own_ext h hx⟩, isV_mono, trivial⟩ ?each ?rest
    case each =>
      refine .cons ?_ (.cons ?_ (.cons ?_ (.cons ?_ (.cons ?_ (.cons ?_ (.cons ?_ (.cons ?_ (.cons ?_ (.cons ?_ (.cons ?_ (.nil)))))))))))
      · intro fa fw hx hs hb
        have s9 : fa.tmps[(9 : Nat)]? = some (.slice VA gn vc) := (hb 9 (by kernel_rfl)).trans (by rfl)
        refine .inl ⟨wanted_free rfl, fun K hK => ?_⟩
        clear hs hb hx
        go_simp
        exact hK _ _ rfl (Ext.refl _)
      · intro fa fw hx hs hb
        have s3 : fa.tmps[(3 : Nat)]? = some (.pointer (some ⟨w.heap.size, 0, none⟩)) := (hb 3 (by kernel_rfl)).trans (by rfl)
        refine .inl ⟨wanted_free rfl, fun K hK => ?_⟩
        clear hs hb hx
        go_simp
        exact hK _ _ rfl (Ext.refl _)
      · intro fa fw hx hs hb
        obtain ⟨_, s18, rfl⟩ := hs 1 18 (by kernel_rfl) (by kernel_rfl)
        have c0 := hx.keeps _ _ B3.out
        refine .inl ⟨wanted_free rfl, fun K hK => ?_⟩
        clear hs hb hx
        go_simp
        exact hK _ _ rfl (Ext.refl _)
      · intro fa fw hx hs hb
        obtain ⟨_, s17, rfl⟩ := hs 0 17 (by kernel_rfl) (by kernel_rfl)
        obtain ⟨_, s19, rfl⟩ := hs 2 19 (by kernel_rfl) (by kernel_rfl)
        refine .inl ⟨wanted_free rfl, fun K hK => ?_⟩
        clear hs hb
        go_simp
        refine (pick_any VA gn vc OA on oc SV N.outs fw (S.out.keep hx.keeps) (NN.out.outs.keep hx.keeps) HIO.out (by omega)).mono ?_
        rintro e w' ⟨r, rfl, ho, xq⟩
        obtain ⟨Aq, cq, rfl, -, -, -⟩ := own_sl ho
        exact hK _ _ ⟨Aq, cq, rfl, own_base ho hx.size⟩ xq
      · intro fa fw hx hs hb
        have s9 : fa.tmps[(9 : Nat)]? = some (.slice VA gn vc) := (hb 9 (by kernel_rfl)).trans (by rfl)
        refine .inl ⟨wanted_free rfl, fun K hK => ?_⟩
        clear hs hb hx
        go_simp
        exact hK _ _ rfl (Ext.refl _)
      · intro fa fw hx hs hb
        have s3 : fa.tmps[(3 : Nat)]? = some (.pointer (some ⟨w.heap.size, 0, none⟩)) := (hb 3 (by kernel_rfl)).trans (by rfl)
        have c0 := hx.keeps _ _ B0.out
        have c1 := hx.keeps _ _ B1.out
        have c2 := hx.keeps _ _ B2.out
        have c3 := hx.keeps _ _ B3.out
        refine .inl ⟨wanted_free rfl, fun K hK => ?_⟩
        clear hs hb hx
        go_simp
        exact hK _ _ rfl (Ext.refl _)
      · intro fa fw hx hs hb
        obtain ⟨_, s22, rfl⟩ := hs 5 22 (by kernel_rfl) (by kernel_rfl)
        refine .inl ⟨wanted_free rfl, fun K hK => ?_⟩
        clear hs hb
        go_simp
        refine (nexts_any i GA gn gc RA rn rc OA on oc N fw (NN.out.keep hx.keeps) hr20).mono ?_
        rintro e w' ⟨r, rfl, ho, xq⟩
        obtain ⟨Aq, cq, rfl, -, -, -⟩ := own_sl ho
        exact hK _ _ ⟨Aq, cq, rfl, own_base ho hx.size⟩ xq
      · intro fa fw hx hs hb
        obtain ⟨_, s21, rfl⟩ := hs 4 21 (by kernel_rfl) (by kernel_rfl)
        obtain ⟨_, s23, A23, c23, rfl, q23⟩ := hs 6 23 (by kernel_rfl) (by kernel_rfl)
        refine .inl ⟨wanted_free rfl, fun K hK => ?_⟩
        clear hs hb
        obtain ⟨Ar, cr, er, -, -, hsr⟩ := own_sl q23
        injection er with er _ ec
        subst er; subst ec
        go_simp
        refine (pick_any VA gn vc A23 rn c23 SV (nextsM N) fw (S.out.keep hx.keeps) hsr HIN.out (by omega)).mono ?_
        rintro e w' ⟨r, rfl, ho, xq⟩
        obtain ⟨Aq, cq, rfl, -, -, -⟩ := own_sl ho
        exact hK _ _ ⟨Aq, cq, rfl, own_base ho hx.size⟩ xq
      · intro fa fw hx hs hb
        obtain ⟨_, s20, A20, c20, rfl, q20⟩ := hs 3 20 (by kernel_rfl) (by kernel_rfl)
        refine .inl ⟨wanted_free rfl, fun K hK => ?_⟩
        clear hs hb
        go_simp
        exact hK _ _ ⟨A20, c20, rfl, q20⟩ (Ext.refl _)
      · intro fa fw hx hs hb
        obtain ⟨_, s24, A24, c24, rfl, q24⟩ := hs 7 24 (by kernel_rfl) (by kernel_rfl)
        refine .inl ⟨wanted_free rfl, fun K hK => ?_⟩
        clear hs hb
        go_simp
        exact hK _ _ ⟨A24, c24, rfl, q24⟩ (Ext.refl _)
      · intro fa fw hx hs hb
        refine .inl ⟨wanted_free rfl, fun K hK => ?_⟩
        clear hs hb hx
        go_simp
        exact hK _ _ rfl (Ext.refl _)
    case rest =>
      intro w2 hxw2
      rintro _ rfl
      rintro _ rfl
      rintro _ rfl
      rintro _ ⟨A20, c20, rfl, q20⟩
      rintro _ rfl
      rintro _ rfl
      rintro _ ⟨A23, c23, rfl, q23⟩
      rintro _ ⟨A24, c24, rfl, q24⟩
      rintro _ ⟨A6, c6, rfl, q6⟩
      rintro _ ⟨A7, c7, rfl, q7⟩
      rintro _ rfl
      simp only [putAll, List.take, Act.put, List.setIfInBounds_toArray, List.set_cons_zero, List.set_cons_succ]
      refine wpAny_done (by kernel_rfl) ?_ _
      go_wp2
      refine bodyPost_ret (v := Pr3 (.slice A6 on c6) (.slice A7 rn c7) (.bool true)) (by simp [results, Try.results94, go_sem]) rfl ⟨_, _, rfl, ?_, ?_, ?_⟩
      · rw [hS, show (Option.getD (some (pickM SV N.outs, pickM SV (nextsM N))) ([], [])).1.length = on from HL1.out]; exact own_base q6 (HX.out.trans X1.out).size
      · rw [hS, show (Option.getD (some (pickM SV N.outs, pickM SV (nextsM N))) ([], [])).2.length = rn from HL2.out]; exact own_base q7 (HX.out.trans X1.out).size
      · exact (HX.out.trans X1.out).trans hxw2
  · rw [hc, if_pos rfl] at hM
    subst hM
    have HC := Lib.hid hc; have HSL := Lib.hid hsl
    clear hc hsl hio hin hrl hol
    go_enter Try.func94, Try.ntmps94
    go_wp2_with fail
    rw [← HW.out]
    refine (settle_any i GA gn gc RA rn rc OA on oc N RB pn pc IA jn jc regs ins W HN.out HR.out HI.out HAK.out).mono ?_; rintro e w1 ⟨v, rfl, hown, x1⟩
    obtain ⟨VA, vc, rfl, -, -, hs⟩ := own_sl hown
    have S := Lib.hid hs; have X1 := Lib.hid x1
    clear hs x1 hown
    go_wp2_with fail
    refine (containsInt_any VA gn vc _ 2 w1 S.out hgm).mono ?_; rintro e w2 ⟨rfl, rfl⟩; rw [HC.out]
    go_wp2
    refine bodyPost_ret (v := Pr3 (.slice none 0 0) (.slice none 0 0) (.bool false)) (by simp [results, Try.results94, go_sem]) rfl ⟨_, _, rfl, World.ownsRow_nil _ _ _ _, World.ownsRow_nil _ _ _ _, HX.out.trans X1.out⟩

def doE (N : NetM) (regs ins : List Int) : Int := if askedM N regs ins ≠ 0 then askedM N regs ins else if (turnN N regs ins).isSome then 0 else 6
def doQ (N : NetM) (regs ins : List Int) : List Int × List Int := if askedM N regs ins ≠ 0 then ([], []) else turnQ N regs ins

set_option maxHeartbeats 2000000 in
theorem do_any (h : NetC w i GA gn gc RA rn rc OA on oc N) (hr : Sl w RB pn (regs.map I)) (hi : Sl w IA jn (ins.map I)) (hpm : pn ≤ maxLen) (hjm : jn ≤ maxLen) :
    Calls Try.prog 54 #[netV i GA gn gc RA rn rc OA on oc, .slice RB pn pc, .slice IA jn jc] w fun e w' => ∃ vo vn, e = .returned (Pr3 vo vn (I (doE N regs ins))) ∧ TwoOwn w w' vo vn (doQ N regs ins) := by
  generalize hE : doE N regs ins = E
  generalize hQ : doQ N regs ins = Q
  unfold doE at hE
  unfold doQ at hQ
  obtain ⟨W, hW⟩ : ∃ W, W = w.alloc (.cells #[I i, .slice GA gn gc, .slice RA rn rc, .slice OA on oc] 26) := ⟨_, rfl⟩
  have hxW : Ext w W := by rw [hW]; exact (Ext.refl _).alloc _
  have hbox : NetBox W w.heap.size i GA gn gc RA rn rc OA on oc := by rw [hW]; exact NetBox.new w i GA gn gc RA rn rc OA on oc _
  have HN := Lib.hid (h.keep hxW.keeps); have HBox := Lib.hid hbox; have HW := Lib.hid hW; have HX := Lib.hid hxW
  have HR := Lib.hid (hr.keep hxW.keeps); have HI := Lib.hid (hi.keep hxW.keeps)
  clear h hr hi hW hxW hbox
  by_cases h0 : askedM N regs ins = 0
  · rw [if_neg (by simp [h0])] at hE hQ
    have HAK := Lib.hid (askedM_ok h0); have H0 := Lib.hid h0; clear h0
    subst hQ
    cases ht : turnN N regs ins
    all_goals
      rw [ht] at hE
      have HE := Lib.hid hE; have HT := Lib.hid ht; clear hE
      go_enter Try.func54, Try.ntmps54
      go_wp2_with fail
      rw [← HW.out]
      refine (asked_any i GA gn gc RA rn rc OA on oc N RB pn pc IA jn jc regs ins W HN.out HR.out HI.out hpm hjm).mono ?_; rintro e w1 ⟨rfl, x1⟩; rw [H0.out]
      obtain ⟨q0, q1, q2, q3⟩ := HBox.out.keep x1.keeps
      have X1 := Lib.hid x1; clear x1
      go_wp2_with fail
      refine (turn_net_any i GA gn gc RA rn rc OA on oc N RB pn pc IA jn jc regs ins w1 (HN.out.keep X1.out.keeps) (HR.out.keep X1.out.keeps) (HI.out.keep X1.out.keeps) HAK.out).mono ?_; rintro e w2 ⟨vo, vn, rfl, hq⟩
      have HQ := Lib.hid hq; clear hq q0 q1 q2 q3
      rw [HT.out]
    · go_wp2
      refine bodyPost_ret (v := Pr3 (.slice none 0 0) (.slice none 0 0) (I 6)) (by simp [results, Try.results54, go_sem]) rfl ⟨_, _, by rw [← HE.out]; rfl, ?_⟩
      have : turnQ N regs ins = ([], []) := by unfold turnQ; rw [HT.out]; rfl
      rw [this]
      exact ⟨World.ownsRow_nil _ _ _ _, World.ownsRow_nil _ _ _ _, (HX.out.trans X1.out).trans HQ.out.2.2⟩
    · go_wp2
      refine bodyPost_ret (v := Pr3 vo vn (I 0)) (by simp [results, Try.results54, go_sem]) rfl ⟨_, _, by rw [← HE.out]; rfl, ?_⟩
      exact ⟨own_base HQ.out.1 (HX.out.trans X1.out).size, own_base HQ.out.2.1 (HX.out.trans X1.out).size, (HX.out.trans X1.out).trans HQ.out.2.2⟩
  · rw [if_pos h0] at hE hQ
    have g : (askedM N regs ins != 0) = true := by simpa using h0
    have HE := Lib.hid hE; have HQ := Lib.hid hQ; clear hE hQ h0
    go_enter Try.func54, Try.ntmps54
    go_wp2_with fail
    rw [← HW.out]
    refine (asked_any i GA gn gc RA rn rc OA on oc N RB pn pc IA jn jc regs ins W HN.out HR.out HI.out hpm hjm).mono ?_; rintro e w1 ⟨rfl, x1⟩
    go_wp2
    refine bodyPost_ret (v := Pr3 (.slice none 0 0) (.slice none 0 0) (I (askedM N regs ins))) (by simp [results, Try.results54, go_sem]) rfl ⟨_, _, by rw [HE.out], ?_⟩
    rw [← HQ.out]
    exact ⟨World.ownsRow_nil _ _ _ _, World.ownsRow_nil _ _ _ _, HX.out.trans x1⟩

set_option maxRecDepth 100000 in
set_option maxHeartbeats 4000000 in
theorem doOf_any (h : NetC w i GA gn gc RA rn rc OA on oc N) (hr : Sl w RB pn (regs.map I)) (hi : Sl w IA jn (ins.map I)) (hpm : pn ≤ maxLen) (hjm : jn ≤ maxLen) (hlo : -9223372036854775808 ≤ i) :
    Calls Try.prog 55 #[netV i GA gn gc RA rn rc OA on oc, .slice RB pn pc, .slice IA jn jc] w fun e w' => ∃ vo vn, e = .returned (Pr3 vo vn (I (doE N regs ins))) ∧ TwoOwn w w' vo vn (doQ N regs ins) := by
  generalize hE : doE N regs ins = E
  generalize hQ : doQ N regs ins = Q
  unfold doE at hE
  unfold doQ at hQ
  have hgl : N.gates.length = gn := h.gates.1
  have hrl : N.regs.length = rn := h.regs.1
  have hol : N.outs.length = on := h.outs.len
  obtain ⟨W, hW⟩ : ∃ W, W = w.alloc (.cells #[I i, .slice GA gn gc, .slice RA rn rc, .slice OA on oc] 26) := ⟨_, rfl⟩
  have hxW : Ext w W := by rw [hW]; exact (Ext.refl _).alloc _
  have hbox : NetBox W w.heap.size i GA gn gc RA rn rc OA on oc := by rw [hW]; exact NetBox.new w i GA gn gc RA rn rc OA on oc _
  have HN := Lib.hid (h.keep hxW.keeps); have HBox := Lib.hid hbox; have HW := Lib.hid hW; have HX := Lib.hid hxW
  have HR := Lib.hid (hr.keep hxW.keeps); have HI := Lib.hid (hi.keep hxW.keeps)
  clear h hr hi hW hxW hbox
  by_cases h0 : askedM N regs ins = 0
  · rw [if_neg (by simp [h0])] at hE hQ
    have ak := askedM_ok h0
    have hgm : gn ≤ maxLen := by have := ak.net.gl; unfold maxLen; omega
    have hr20 : rn ≤ 20 := by have := ak.net.rl; omega
    have ho3 : on ≤ 3 := by have := ak.net.ol; omega
    have hio : inR gn N.outs := by have := ak.net.outs; rwa [hgl] at this
    have hin : inR gn (nextsM N) := by have := ak.net.nexts; rwa [hgl] at this
    have hs1 : stepV N regs ins = (settledM N.gates regs ins, 0) := by unfold stepV; rw [if_neg (by simp [h0])]
    have hsl : (settledM N.gates regs ins).length = gn := by rw [settled_len, hgl]
    have HST := Lib.hid hs1; have HSL := Lib.hid hsl; have HIO := Lib.hid hio; have HIN := Lib.hid hin
    clear h0 ak hio hin hs1 hsl
    subst hQ
    cases hc : (settledM N.gates regs ins).contains 2
    · have ht : turnN N regs ins = some (pickM (settledM N.gates regs ins) N.outs, pickM (settledM N.gates regs ins) (nextsM N)) := by unfold turnN; rw [hc, if_neg (by simp)]
      have hcm : countM 2 (settledM N.gates regs ins) 0 = 0 := by
        have h1 := countM_le 2 (settledM N.gates regs ins) 0
        have h2 := countM_mem 2 (settledM N.gates regs ins)
        by_cases h3 : 0 < countM 2 (settledM N.gates regs ins) 0
        · rw [h2] at h3; simp [h3] at hc
        · omega
      have htq : turnQ N regs ins = (pickM (settledM N.gates regs ins) N.outs, pickM (settledM N.gates regs ins) (nextsM N)) := by unfold turnQ; rw [ht]; rfl
      rw [ht] at hE
      have HE := Lib.hid hE; have HC := Lib.hid hcm; have HTQ := Lib.hid htq
      have HL1 : Hid ((pickM (settledM N.gates regs ins) N.outs).length = on) := by unfold Hid; rw [pickM_len, hol]
      have HL2 : Hid ((pickM (settledM N.gates regs ins) (nextsM N)).length = rn) := by unfold Hid; rw [pickM_len]; simp [nextsM, hrl]
      clear hc hE ht hcm htq hgl hrl hol
      go_enter Try.func55, Try.ntmps55
      go_wp2_with fail
      rw [← HW.out]
      refine (stepOf_any i GA gn gc RA rn rc OA on oc N RB pn pc IA jn jc regs ins W HN.out HR.out HI.out hpm hjm hlo).mono ?_; rintro e w1 ⟨v, rfl, hown, x1⟩
      rw [HST.out] at hown ⊢
      simp only [HSL.out] at hown
      obtain ⟨VA, vc, rfl, -, -, hs⟩ := own_sl hown
      have hbx := HBox.out.keep x1.keeps
      have S := Lib.hid hs; have X1 := Lib.hid x1; have BX := Lib.hid hbx; have NN := Lib.hid (HN.out.keep x1.keeps)
      clear hs x1 hown hbx
      go_wp2_with fail
      refine (count_any VA gn vc _ 2 w1 S.out hgm).mono ?_; rintro e w2 ⟨rfl, rfl⟩; rw [HC.out]
      go_wp2_with fail
      have B0 : Hid (w1.cell? ⟨w.heap.size, 0, none⟩ = some (I i)) := BX.out.1
      have B1 : Hid (w1.cell? ⟨w.heap.size, 1, none⟩ = some (.slice GA gn gc)) := BX.out.2.1
      have B2 : Hid (w1.cell? ⟨w.heap.size, 2, none⟩ = some (.slice RA rn rc)) := BX.out.2.2.1
      have B3 : Hid (w1.cell? ⟨w.heap.size, 3, none⟩ = some (.slice OA on oc)) := BX.out.2.2.2
      generalize hS : settledM N.gates regs ins = SV at *
      refine wp_flow3 11 0 [isV (.slice VA gn vc), isV (.pointer (some ⟨w.heap.size, 3, none⟩)), isV (.slice OA on oc), fun v w => ∃ A c, v = .slice A on c ∧ w.ownsRow w1.heap.size 3 1 (.slice A on c) on ((pickM SV N.outs).map I), isV (.slice VA gn vc), isV (.agg #[.int .i64 i, .slice GA gn gc, .slice RA rn rc, .slice OA on oc]), fun v w => ∃ A c, v = .slice A rn c ∧ w.ownsRow w1.heap.size 3 1 (.slice A rn c) rn ((nextsM N).map I), fun v w => ∃ A c, v = .slice A rn c ∧ w.ownsRow w1.heap.size 3 1 (.slice A rn c) rn ((pickM SV (nextsM N)).map I), fun v w => ∃ A c, v = .slice A on c ∧ w.ownsRow w1.heap.size 3 1 (.slice A on c) on ((pickM SV N.outs).map I), fun v w => ∃ A c, v = .slice A rn c ∧ w.ownsRow w1.heap.size 3 1 (.slice A rn c) rn ((pickM SV (nextsM N)).map I), isV (.int .i64 0)] (by kernel_rfl) rfl rfl (by kernel_rfl) (by kernel_rfl) ⟨isV_mono, isV_mono, isV_mono, fun v w w' ⟨A, c, e, h⟩ hx => ⟨A, c, e, own_ext h hx⟩, isV_mono, isV_mono, fun v w w' ⟨A, c, e, h⟩ hx => ⟨A, c, e, own_ext h hx⟩, fun v w w' ⟨A, c, e, h⟩ hx => ⟨A, c, e, own_ext h hx⟩, fun v w w' ⟨A, c, e, h⟩ hx => ⟨A, c, e, own_ext h hx⟩, fun v w w' ⟨A, c, e, h⟩ hx => ⟨A, c, e, own_ext h hx⟩, isV_mono, trivial⟩ ?each ?rest
      case each =>
        refine .cons ?_ (.cons ?_ (.cons ?_ (.cons ?_ (.cons ?_ (.cons ?_ (.cons ?_ (.cons ?_ (.cons ?_ (.cons ?_ (.cons ?_ (.nil)))))))))))
        · intro fa fw hx hs hb
          have s9 : fa.tmps[(9 : Nat)]? = some (.slice VA gn vc) := (hb 9 (by kernel_rfl)).trans (by rfl)
          refine .inl ⟨wanted_free rfl, fun K hK => ?_⟩
          clear hs hb hx
          go_simp
          exact hK _ _ rfl (Ext.refl _)
        · intro fa fw hx hs hb
          have s3 : fa.tmps[(3 : Nat)]? = some (.pointer (some ⟨w.heap.size, 0, none⟩)) := (hb 3 (by kernel_rfl)).trans (by rfl)
          refine .inl ⟨wanted_free rfl, fun K hK => ?_⟩
          clear hs hb hx
          go_simp
          exact hK _ _ rfl (Ext.refl _)
        · intro fa fw hx hs hb
          obtain ⟨_, s25, rfl⟩ := hs 1 25 (by kernel_rfl) (by kernel_rfl)
          have c0 := hx.keeps _ _ B3.out
          refine .inl ⟨wanted_free rfl, fun K hK => ?_⟩
          clear hs hb hx
          go_simp
          exact hK _ _ rfl (Ext.refl _)
        · intro fa fw hx hs hb
          obtain ⟨_, s24, rfl⟩ := hs 0 24 (by kernel_rfl) (by kernel_rfl)
          obtain ⟨_, s26, rfl⟩ := hs 2 26 (by kernel_rfl) (by kernel_rfl)
          refine .inl ⟨wanted_free rfl, fun K hK => ?_⟩
          clear hs hb
          go_simp
          refine (picked_any VA gn vc OA on oc SV N.outs fw (S.out.keep hx.keeps) (NN.out.outs.keep hx.keeps) HIO.out (by omega)).mono ?_
          rintro e w' ⟨r, rfl, ho, xq⟩
          obtain ⟨Aq, cq, rfl, -, -, -⟩ := own_sl ho
          exact hK _ _ ⟨Aq, cq, rfl, own_base ho hx.size⟩ xq
        · intro fa fw hx hs hb
          have s9 : fa.tmps[(9 : Nat)]? = some (.slice VA gn vc) := (hb 9 (by kernel_rfl)).trans (by rfl)
          refine .inl ⟨wanted_free rfl, fun K hK => ?_⟩
          clear hs hb hx
          go_simp
          exact hK _ _ rfl (Ext.refl _)
        · intro fa fw hx hs hb
          have s3 : fa.tmps[(3 : Nat)]? = some (.pointer (some ⟨w.heap.size, 0, none⟩)) := (hb 3 (by kernel_rfl)).trans (by rfl)
          have c0 := hx.keeps _ _ B0.out
          have c1 := hx.keeps _ _ B1.out
          have c2 := hx.keeps _ _ B2.out
          have c3 := hx.keeps _ _ B3.out
          refine .inl ⟨wanted_free rfl, fun K hK => ?_⟩
          clear hs hb hx
          go_simp
          exact hK _ _ rfl (Ext.refl _)
        · intro fa fw hx hs hb
          obtain ⟨_, s29, rfl⟩ := hs 5 29 (by kernel_rfl) (by kernel_rfl)
          refine .inl ⟨wanted_free rfl, fun K hK => ?_⟩
          clear hs hb
          go_simp
          refine (rnexts_any i GA gn gc RA rn rc OA on oc N fw (NN.out.keep hx.keeps) hr20).mono ?_
          rintro e w' ⟨r, rfl, ho, xq⟩
          obtain ⟨Aq, cq, rfl, -, -, -⟩ := own_sl ho
          exact hK _ _ ⟨Aq, cq, rfl, own_base ho hx.size⟩ xq
        · intro fa fw hx hs hb
          obtain ⟨_, s28, rfl⟩ := hs 4 28 (by kernel_rfl) (by kernel_rfl)
          obtain ⟨_, s30, A30, c30, rfl, q30⟩ := hs 6 30 (by kernel_rfl) (by kernel_rfl)
          refine .inl ⟨wanted_free rfl, fun K hK => ?_⟩
          clear hs hb
          obtain ⟨Ar, cr, er, -, -, hsr⟩ := own_sl q30
          injection er with er _ ec
          subst er; subst ec
          go_simp
          refine (picked_any VA gn vc A30 rn c30 SV (nextsM N) fw (S.out.keep hx.keeps) hsr HIN.out (by omega)).mono ?_
          rintro e w' ⟨r, rfl, ho, xq⟩
          obtain ⟨Aq, cq, rfl, -, -, -⟩ := own_sl ho
          exact hK _ _ ⟨Aq, cq, rfl, own_base ho hx.size⟩ xq
        · intro fa fw hx hs hb
          obtain ⟨_, s27, A27, c27, rfl, q27⟩ := hs 3 27 (by kernel_rfl) (by kernel_rfl)
          refine .inl ⟨wanted_free rfl, fun K hK => ?_⟩
          clear hs hb
          go_simp
          exact hK _ _ ⟨A27, c27, rfl, q27⟩ (Ext.refl _)
        · intro fa fw hx hs hb
          obtain ⟨_, s31, A31, c31, rfl, q31⟩ := hs 7 31 (by kernel_rfl) (by kernel_rfl)
          refine .inl ⟨wanted_free rfl, fun K hK => ?_⟩
          clear hs hb
          go_simp
          exact hK _ _ ⟨A31, c31, rfl, q31⟩ (Ext.refl _)
        · intro fa fw hx hs hb
          refine .inl ⟨wanted_free rfl, fun K hK => ?_⟩
          clear hs hb hx
          go_simp
          exact hK _ _ rfl (Ext.refl _)
      case rest =>
        intro w2 hxw2
        rintro _ rfl
        rintro _ rfl
        rintro _ rfl
        rintro _ ⟨A27, c27, rfl, q27⟩
        rintro _ rfl
        rintro _ rfl
        rintro _ ⟨A30, c30, rfl, q30⟩
        rintro _ ⟨A31, c31, rfl, q31⟩
        rintro _ ⟨A6, c6, rfl, q6⟩
        rintro _ ⟨A7, c7, rfl, q7⟩
        rintro _ rfl
        simp only [putAll, List.take, Act.put, List.setIfInBounds_toArray, List.set_cons_zero, List.set_cons_succ]
        refine wpAny_done (by kernel_rfl) ?_ _
        go_wp2
        refine bodyPost_ret (v := Pr3 (.slice A6 on c6) (.slice A7 rn c7) (I 0)) (by simp [results, Try.results55, go_sem]) rfl ⟨_, _, by rw [← HE.out]; rfl, ?_, ?_, ?_⟩
        · rw [HTQ.out]; show w2.ownsRow w.heap.size 3 1 _ (pickM SV N.outs).length _; rw [HL1.out]; exact own_base q6 (HX.out.trans X1.out).size
        · rw [HTQ.out]; show w2.ownsRow w.heap.size 3 1 _ (pickM SV (nextsM N)).length _; rw [HL2.out]; exact own_base q7 (HX.out.trans X1.out).size
        · exact (HX.out.trans X1.out).trans hxw2
    · have ht : turnN N regs ins = none := by unfold turnN; rw [hc, if_pos rfl]
      have hcm : 0 < countM 2 (settledM N.gates regs ins) 0 := by rw [countM_mem]; simpa using hc
      have htq : turnQ N regs ins = ([], []) := by unfold turnQ; rw [ht]; rfl
      rw [ht] at hE
      have HE := Lib.hid hE; have HTQ := Lib.hid htq
      generalize hcn : countM 2 (settledM N.gates regs ins) 0 = cn at hcm
      have HCN := Lib.hid hcn
      clear hc hE ht htq hgl hrl hol hcn
      go_enter Try.func55, Try.ntmps55
      go_wp2_with fail
      rw [← HW.out]
      refine (stepOf_any i GA gn gc RA rn rc OA on oc N RB pn pc IA jn jc regs ins W HN.out HR.out HI.out hpm hjm hlo).mono ?_; rintro e w1 ⟨v, rfl, hown, x1⟩
      rw [HST.out] at hown ⊢
      simp only [HSL.out] at hown
      obtain ⟨VA, vc, rfl, -, -, hs⟩ := own_sl hown
      have S := Lib.hid hs; have X1 := Lib.hid x1
      clear hs x1 hown
      go_wp2_with fail
      refine (count_any VA gn vc _ 2 w1 S.out hgm).mono ?_; rintro e w2 ⟨rfl, rfl⟩; rw [HCN.out]
      go_wp2
      refine bodyPost_ret (v := Pr3 (.slice none 0 0) (.slice none 0 0) (I 6)) (by simp [results, Try.results55, go_sem]) rfl ⟨_, _, by rw [← HE.out]; rfl, ?_⟩
      rw [HTQ.out]
      exact ⟨World.ownsRow_nil _ _ _ _, World.ownsRow_nil _ _ _ _, HX.out.trans X1.out⟩
  · rw [if_pos h0] at hE hQ
    have g : (askedM N regs ins != 0) = true := by simpa using h0
    have hs1 : stepV N regs ins = ([], askedM N regs ins) := by unfold stepV; rw [if_pos h0]
    have HE := Lib.hid hE; have HQ := Lib.hid hQ; have HST := Lib.hid hs1; clear hE hQ h0 hs1
    go_enter Try.func55, Try.ntmps55
    go_wp2_with fail
    rw [← HW.out]
    refine (stepOf_any i GA gn gc RA rn rc OA on oc N RB pn pc IA jn jc regs ins W HN.out HR.out HI.out hpm hjm hlo).mono ?_; rintro e w1 ⟨v, rfl, hown, x1⟩
    rw [HST.out] at hown ⊢
    clear hown
    go_wp2
    refine bodyPost_ret (v := Pr3 (.slice none 0 0) (.slice none 0 0) (I (askedM N regs ins))) (by simp [results, Try.results55, go_sem]) rfl ⟨_, _, by rw [HE.out], ?_⟩
    rw [← HQ.out]
    exact ⟨World.ownsRow_nil _ _ _ _, World.ownsRow_nil _ _ _ _, HX.out.trans x1⟩
end
end Go.Proofs.Ytjagbnaacfhokaa
