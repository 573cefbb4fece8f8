/- The reference's lane and Step of pack: each lane alone. -/
import Derived.Test.YtjagbnaacfhokaaPk19
namespace Go.Proofs.Ytjagbnaacfhokaa
set_option linter.unusedVariables false
set_option linter.unusedSimpArgs false
open Go.RowKit

def mixL (k i : Nat) (o : List (BitVec 64)) : List (BitVec 64) := (o.take i).map (lowW (k + 1)) ++ (o.drop i).map (lowW k)
theorem mixL_at {k i : Nat} {o : List (BitVec 64)} {x : BitVec 64} (h : o[i]? = some x) : (mixL k i o)[i]? = some (lowW k x) := by
  have hi : i < o.length := (List.getElem?_eq_some_iff.1 h).1
  unfold mixL
  rw [List.getElem?_append_right (by simp; omega)]
  simp only [List.length_map, List.length_take, Nat.min_eq_left (Nat.le_of_lt hi), Nat.sub_self, List.getElem?_map, List.getElem?_drop, Nat.add_zero, h, Option.map_some]
theorem mixL_set {k i : Nat} {o : List (BitVec 64)} {x : BitVec 64} (h : o[i]? = some x) : (mixL k i o).set i (lowW (k + 1) x) = mixL k (i + 1) o := by
  have hi : i < o.length := (List.getElem?_eq_some_iff.1 h).1
  have hx : o[i] = x := by rw [List.getElem?_eq_getElem hi] at h; exact Option.some.inj h
  unfold mixL
  rw [List.set_append_right _ _ (by simp; omega)]
  have e : i - ((o.take i).map (lowW (k + 1))).length = 0 := by simp; omega
  rw [e, List.drop_eq_getElem_cons hi, List.map_cons, List.set_cons_zero, List.take_add_one, h]
  simp
theorem mixL_zero (k : Nat) (o : List (BitVec 64)) : mixL k 0 o = o.map (lowW k) := by simp [mixL]
theorem mixL_end {k : Nat} {o : List (BitVec 64)} {n : Nat} (h : o.length = n) : mixL k n o = o.map (lowW (k + 1)) := by
  unfold mixL; rw [List.take_of_length_le (by omega), List.drop_eq_nil_of_le (by omega)]; simp
theorem lane_next {k : Nat} {l : List (BitVec 64)} {i : Nat} {x : BitVec 64} (h : l[i]? = some x) : (laneI k (l.take (i + 1))).map I = (laneI k (l.take i)).map I ++ [I (bitI k x)] := by
  unfold laneI; rw [take_next (bitI k) l h, List.map_append]; rfl

set_option maxHeartbeats 2000000 in
theorem lane_any (A : Option Addr) (n c : Nat) (l : List (BitVec 64)) (k : Nat) (w : World) (h : Sl w A n (l.map U)) (hk : k < 64) (hn : n ≤ 1000000) :
    Calls Try.prog 87 #[.slice A n c, I k] w fun e w' => ∃ v, e = .returned v ∧ w'.ownsRow w.heap.size 3 1 v n ((laneI k l).map I) ∧ Ext w w' := by
  have H := Lib.hid h; clear h
  go_enter Try.func87, Try.ntmps87
  go_wp2
  go_loopw [5, 6] (fun s i wr => ∃ (q : Nat), q ≤ n ∧ i = .int .i64 q ∧ Ext w wr ∧ wr.ownsRow w.heap.size 3 1 s q ((laneI k (l.take q)).map I)) (fun _ i _ => n - (intOf i).toNat)
  case atStart => exact ⟨0, Nat.zero_le _, rfl, Ext.refl _, World.ownsRow_nil _ _ _ _⟩
  case round =>
    obtain ⟨q, hq, rfl, hext, hown⟩ := hrel
    by_cases hlt : q < n
    · obtain ⟨b, off, x, rfl, hc0, hx⟩ := H.out.at_ hlt
      have hc := hext.keeps _ _ hc0
      have HN := Lib.hid (lane_next (k := k) hx); have HO := Lib.hid hown
      have hand := uI_lane x k
      have hwr : IntKind.i64.wrap (bitI k x) = bitI k x := IntWalk.i64_in _ (by rcases bitI_01 k x with e | e <;> omega)
      clear hown hx hc0
      go_wp2_with (at_builtin; refine wpList_push rfl (.tmp 13) (.tmp 22) 24 3 rfl tab_int' Try.underlying24 rfl (by omega) w wr hext _ q _ rfl HO.out [I (bitI k x)] rfl rfl rfl (by simp [Value.oneCell']) (by unfold maxLen; omega) (by omega) ?_; intro v' w2 hown2 hx3 _)
      go_roundw
      case rel => exact ⟨q + 1, by omega, by go_num, hx3, by rw [HN.out]; exact hown2⟩
      case measure => simp [intOf]; omega
    · have hqn : q = n := by omega
      subst hqn
      have ht : l.take q = l := List.take_of_length_le (by have := H.out.len; omega)
      rw [ht] at hown
      have HO := Lib.hid hown; clear hown ht
      go_wp2
      go_ret
      exact ⟨_, rfl, HO.out, hext⟩

theorem low0 (o : List (BitVec 64)) {n : Nat} (h : o.length = n) : (o.map (lowW 0)).map U = List.replicate n (.int .u64 0) := by
  subst h
  induction o with
  | nil => rfl
  | cons x o ih => simp only [List.map_cons, List.length_cons, List.replicate_succ, ih, lowW_zero]; rfl
theorem made_first (w : World) (na nb base : Nat) (hb : base ≤ w.heap.size) (hn : na ≤ maxLen) :
    ((w.alloc (.cells (zeros (.int .u64 0) na) 79)).alloc (.cells (zeros (.int .u64 0) nb) 79)).drew.ownsRow base 79 1 (.slice (some ⟨w.heap.size, 0, none⟩) na na) na (List.replicate na (.int .u64 0)) :=
  own_ext (own_made w 79 (.int .u64 0) na base hb hn) (((Ext.refl _).alloc _).drew)
theorem made_second (w : World) (na nb base : Nat) (hb : base ≤ w.heap.size) (hn : nb ≤ maxLen) :
    ((w.alloc (.cells (zeros (.int .u64 0) na) 79)).alloc (.cells (zeros (.int .u64 0) nb) 79)).drew.ownsRow base 79 1 (.slice (some ⟨w.heap.size + 1, 0, none⟩) nb nb) nb (List.replicate nb (.int .u64 0)) := by
  have h := own_made (w.alloc (.cells (zeros (.int .u64 0) na) 79)) 79 (.int .u64 0) nb base (by simp; omega) hn
  rw [show (w.alloc (.cells (zeros (.int .u64 0) na) 79)).heap.size = w.heap.size + 1 from by simp] at h
  exact own_ext h ((Ext.refl _).drew)
section
variable (i : Int) (GA : Option Addr) (gn gc : Nat) (RA : Option Addr) (rn rc : Nat) (OA : Option Addr) (on oc : Nat) (N : NetM) (RB : Option Addr) (pn pc : Nat) (IA : Option Addr) (jn jc : Nat) (regs ins : List (BitVec 64)) (w : World)
set_option maxRecDepth 100000 in
set_option maxHeartbeats 8000000 in
theorem packStepOf_any (h : NetC w i GA gn gc RA rn rc OA on oc N) (hr : Sl w RB pn (regs.map U)) (hi : Sl w IA jn (ins.map U)) (hpm : pn ≤ maxLen) (hjm : jn ≤ maxLen) (hlo : -9223372036854775808 ≤ i) :
    Calls Try.prog 42 #[netV i GA gn gc RA rn rc OA on oc, .slice RB pn pc, .slice IA jn jc] w fun e w' => ∃ vo vn, e = .returned (Pr3 vo vn (I (packE N regs.length ins.length))) ∧ TwoOwnU w w' vo vn (packV N regs ins) := by
  have hgl : N.gates.length = gn := h.gates.1
  have hrl : N.regs.length = rn := h.regs.1
  have hol : N.outs.length = on := h.outs.len
  have hpl := hr.len; have hjl := hi.len; have hin := h.ins
  obtain ⟨W, hW⟩ : ∃ W, W = w.alloc (.cells #[I i, .slice GA gn gc, .slice RA rn rc, .slice OA on oc] 26) := ⟨_, rfl⟩
  have hxW : Ext w W := by rw [hW]; exact (Ext.refl _).alloc _
  have hbox : NetBox W w.heap.size i GA gn gc RA rn rc OA on oc := by rw [hW]; exact NetBox.new w i GA gn gc RA rn rc OA on oc _
  have HN := Lib.hid (h.keep hxW.keeps); have HBox := Lib.hid hbox; have HW := Lib.hid hW; have HX := Lib.hid hxW
  have HR := Lib.hid (hr.keep hxW.keeps); have HI := Lib.hid (hi.keep hxW.keeps)
  clear h hr hi hW hxW hbox
  have hord := orderOf_any i GA gn gc RA rn rc OA on oc N W HN.out hlo
  by_cases h0 : (orderV N).2 = 0
  · obtain ⟨ok, hc, l, hO, hV⟩ := orderV_ok h0
    rw [hV] at hord
    have HORD := Lib.hid hord; have HOK := Lib.hid ok; have HO := Lib.hid hO
    by_cases hf : regs.length = N.regs.length ∧ (ins.length : Int) = N.ins
    · have hE : packE N regs.length ins.length = 0 := by unfold packE; rw [if_neg (by simp [h0]), if_neg (by simp [hf.1, hf.2])]
      have hQ : packV N regs ins = playW N regs ins := by unfold packV; rw [if_pos hE]
      have hl := play_len hO regs ins
      rw [hol, hrl] at hl
      rw [hE, hQ]
      obtain rfl : pn = rn := by omega
      obtain rfl : i = (jn : Int) := by omega
      have hdo : ∀ k < 64, doE N (laneI k regs) (laneI k ins) = 0 ∧ doQ N (laneI k regs) (laneI k ins) = (laneI k (playW N regs ins).1, laneI k (playW N regs ins).2) := fun k hk => do_lane hc hO hk hf.1 hf.2
      generalize hP : playW N regs ins = P at *
      obtain ⟨o, nx⟩ := P
      simp only at hl
      obtain ⟨hl1, hl2⟩ := hl
      have ho3 : on ≤ 3 := by have := ok.ol; omega
      have hr20 : pn ≤ 20 := by have := ok.rl; omega
      have hj3 : jn ≤ 3 := by have := ok.ins3; omega
      have HL1 := Lib.hid hl1; have HL2 := Lib.hid hl2; have HDO := Lib.hid hdo
      clear hord ok hO hV h0 hE hQ hl1 hl2 hf hc hgl hrl hol hpl hjl hin hdo hP
      obtain ⟨q0, q1, q2, q3⟩ := HBox.out
      go_enter Try.func42, Try.ntmps42
      go_wp2_with fail
      rw [← HW.out]
      refine HORD.out.mono ?_; rintro e w1 ⟨v1, rfl, -, x1⟩
      have X1 := Lib.hid x1
      obtain ⟨q0, q1, q2, q3⟩ := HBox.out.keep x1.keeps
      clear x1 HORD
      go_upto_region 6 with fail
      go_cut [11, 12] (fun s1 s2 wx => ∃ (g1 g2 : Nat), g1 ≠ g2 ∧ s1 = .slice (some ⟨g1, 0, none⟩) on on ∧ s2 = .slice (some ⟨g2, 0, none⟩) pn pn ∧ wx.ownsRow w1.heap.size 79 1 (.slice (some ⟨g1, 0, none⟩) on on) on ((o.map (lowW 0)).map U) ∧ wx.ownsRow w1.heap.size 79 1 (.slice (some ⟨g2, 0, none⟩) pn pn) pn ((nx.map (lowW 0)).map U) ∧ Ext w1 wx)
      case first =>
        have hmk1 := fun Q => run_make1 (P := Try.prog) 48 79 tab_u64 Try.underlying48 rfl on (by omega) (by omega) Q
        have hmk2 := fun Q => run_make1 (P := Try.prog) 48 79 tab_u64 Try.underlying48 rfl pn (by omega) (by omega) Q
        have key : ∀ Q, Ext w1 Q → Q.cell? ⟨w.heap.size, 2, none⟩ = some (.slice RA pn rc) ∧ Q.cell? ⟨w.heap.size, 3, none⟩ = some (.slice OA on oc) := fun Q hQ => (HBox.out.keep (X1.out.trans hQ).keeps).2.2
        go_region_held3 (fun w' => w'.cell? ⟨w.heap.size, 2, none⟩ = some (.slice RA pn rc) ∧ w'.cell? ⟨w.heap.size, 3, none⟩ = some (.slice OA on oc))
          (exact key _ (by repeat (first | exact Ext.refl _ | refine Ext.drew ?_ | refine Ext.alloc ?_ _)))
          (fail)
        all_goals go_wp2_with fail
        all_goals go_meet
        · exact ⟨w1.heap.size, w1.heap.size + 1, by omega, rfl, rfl, by rw [low0 o HL1.out]; exact made_first w1 on pn w1.heap.size (Nat.le_refl _) (by unfold maxLen; omega), by rw [low0 nx HL2.out]; exact made_second w1 on pn w1.heap.size (Nat.le_refl _) (by unfold maxLen; omega), (((Ext.refl _).alloc _).alloc _).drew⟩
        · exact ⟨w1.heap.size + 1, w1.heap.size, by omega, rfl, rfl, by rw [low0 o HL1.out]; exact made_second w1 pn on w1.heap.size (Nat.le_refl _) (by unfold maxLen; omega), by rw [low0 nx HL2.out]; exact made_first w1 pn on w1.heap.size (Nat.le_refl _) (by unfold maxLen; omega), (((Ext.refl _).alloc _).alloc _).drew⟩
      case rest =>
      obtain ⟨g1, g2, hne, rfl, rfl, hown1, hown2, hx2⟩ := hcut
      have hg1 : w1.heap.size ≤ g1 := (hown1.lt g1 rfl).1
      have hg2 : w1.heap.size ≤ g2 := (hown2.lt g2 rfl).1
      have HO1 := Lib.hid hown1; have HO2 := Lib.hid hown2; have X2 := Lib.hid hx2; have HNE := Lib.hid hne; have HG1 := Lib.hid hg1; have HG2 := Lib.hid hg2
      clear hown1 hown2 hx2 hne hg1 hg2 q0 q1 q2 q3
      go_wp2_with fail
      go_loopw [13] (fun j wr => ∃ (k : Nat), k ≤ 64 ∧ j = .int .i64 k ∧ Ext w1 wr ∧ wr.ownsRow w1.heap.size 79 1 (.slice (some ⟨g1, 0, none⟩) on on) on ((o.map (lowW k)).map U) ∧ wr.ownsRow w1.heap.size 79 1 (.slice (some ⟨g2, 0, none⟩) pn pn) pn ((nx.map (lowW k)).map U)) (fun j _ => 64 - (intOf j).toNat)
      case atStart => exact ⟨0, by omega, rfl, X2.out, HO1.out, HO2.out⟩
      case round =>
        obtain ⟨k, hk, rfl, hext, hA, hB⟩ := hrel
        by_cases hlt : k < 64
        · obtain ⟨wA, hwA⟩ : ∃ q, q = wr := ⟨_, rfl⟩
          subst hwA
          have hx := X1.out.trans hext
          obtain ⟨hde, hdq⟩ := HDO.out k hlt
          have hbx := HBox.out.keep hx.keeps
          have N0 := Lib.hid hbx.1; have N1 := Lib.hid hbx.2.1; have N2 := Lib.hid hbx.2.2.1; have N3 := Lib.hid hbx.2.2.2
          have hll1 : (laneI k o).length = on := by rw [lane_len]; exact HL1.out
          have hll2 : (laneI k nx).length = pn := by rw [lane_len]; exact HL2.out
          have ld : ∀ Q (A5 : Option Addr) (n5 c5 : Nat) (r : List (BitVec 64)), Sl W A5 n5 (r.map U) → n5 ≤ 1000000 → Ext wA Q → Calls Try.prog 87 #[.slice A5 n5 c5, I k] Q fun e w' => ∃ v, e = .returned v ∧ w'.ownsRow Q.heap.size 3 1 v n5 ((laneI k r).map I) ∧ Ext Q w' := fun Q A5 n5 c5 r hs hn hQ =>
            lane_any A5 n5 c5 r k Q (hs.keep (hx.trans hQ).keeps) hlt hn
          have dd : ∀ Q (A5 : Option Addr) (c5 : Nat) (B5 : Option Addr) (d5 : Nat), Ext wA Q → Sl Q A5 pn ((laneI k regs).map I) → Sl Q B5 jn ((laneI k ins).map I) → Calls Try.prog 55 #[netV jn GA gn gc RA pn rc OA on oc, .slice A5 pn c5, .slice B5 jn d5] Q fun e w' => ∃ vo vn, e = .returned (Pr3 vo vn (I 0)) ∧ w'.ownsRow Q.heap.size 3 1 vo on ((laneI k o).map I) ∧ w'.ownsRow Q.heap.size 3 1 vn pn ((laneI k nx).map I) ∧ Ext Q w' := fun Q A5 c5 B5 d5 hQ ha hb => by
            refine (doOf_any jn GA gn gc RA pn rc OA on oc N A5 pn c5 B5 jn d5 _ _ Q ((HN.out.keep hx.keeps).keep hQ.keeps) ha hb (by unfold maxLen; omega) (by unfold maxLen; omega) hlo).mono fun e w' ⟨vo, vn, he, ho⟩ => ⟨vo, vn, ?_, ?_, ?_, ho.2.2⟩
            · rw [he, hde]
            · have := ho.1; rw [hdq] at this; rw [hll1] at this; exact this
            · have := ho.2.1; rw [hdq] at this; rw [hll2] at this; exact this
          have LD := Lib.hid ld; have DD := Lib.hid dd; have HE := Lib.hid hext; have HA := Lib.hid hA; have HB := Lib.hid hB
          clear ld dd hext hA hB hde hdq hbx hll1 hll2 hx
          go_wp2_with fail
          have hdk : decide ((k : Int) < 64) = true := by simp; omega
          rw [hdk]
          clear hdk
          have HLT := Lib.hid hlt
          clear hlt hk
          refine wp_flow3 15 0 [isV (.agg #[I jn, .slice GA gn gc, .slice RA pn rc, .slice OA on oc]), isV (.slice RB pn pc), isV (.int .i64 k), fun v w => ∃ A c, v = .slice A pn c ∧ w.ownsRow wA.heap.size 3 1 (.slice A pn c) pn ((laneI k regs).map I), isV (.slice IA jn jc), isV (.int .i64 k), fun v w => ∃ A c, v = .slice A jn c ∧ w.ownsRow wA.heap.size 3 1 (.slice A jn c) jn ((laneI k ins).map I), fun v w => ∃ A c B d, v = .tuple #[.slice A on c, .slice B pn d, .int .i64 0] ∧ w.ownsRow wA.heap.size 3 1 (.slice A on c) on ((laneI k o).map I) ∧ w.ownsRow wA.heap.size 3 1 (.slice B pn d) pn ((laneI k nx).map I), fun v w => ∃ A c B d, v = .tuple #[.slice A on c, .slice B pn d, .int .i64 0] ∧ w.ownsRow wA.heap.size 3 1 (.slice A on c) on ((laneI k o).map I) ∧ w.ownsRow wA.heap.size 3 1 (.slice B pn d) pn ((laneI k nx).map I), fun v w => ∃ A c, v = .slice A on c ∧ w.ownsRow wA.heap.size 3 1 (.slice A on c) on ((laneI k o).map I), fun v w => ∃ A c, v = .slice A pn c ∧ w.ownsRow wA.heap.size 3 1 (.slice A pn c) pn ((laneI k nx).map I), isV (.int .i64 0), fun v w => ∃ A c, v = .slice A on c ∧ w.ownsRow wA.heap.size 3 1 (.slice A on c) on ((laneI k o).map I), fun v w => ∃ A c, v = .slice A pn c ∧ w.ownsRow wA.heap.size 3 1 (.slice A pn c) pn ((laneI k nx).map I), isV (.int .i64 0)] (by kernel_rfl) rfl rfl (by kernel_rfl) (by kernel_rfl) ⟨isV_mono, isV_mono, isV_mono, fun v w w' ⟨A, c, e, h⟩ hx => ⟨A, c, e, own_ext h hx⟩, isV_mono, isV_mono, fun v w w' ⟨A, c, e, h⟩ hx => ⟨A, c, e, own_ext h hx⟩, fun v w w' ⟨A, c, B, d, e, h, k⟩ hx => ⟨A, c, B, d, e, own_ext h hx, own_ext k hx⟩, fun v w w' ⟨A, c, B, d, e, h, k⟩ hx => ⟨A, c, B, d, e, own_ext h hx, own_ext k hx⟩, fun v w w' ⟨A, c, e, h⟩ hx => ⟨A, c, e, own_ext h hx⟩, fun v w w' ⟨A, c, e, h⟩ hx => ⟨A, c, e, own_ext h hx⟩, isV_mono, fun v w w' ⟨A, c, e, h⟩ hx => ⟨A, c, e, own_ext h hx⟩, fun v w w' ⟨A, c, e, h⟩ hx => ⟨A, c, e, own_ext h hx⟩, isV_mono, trivial⟩ ?each ?rest
          case each =>
            refine .cons ?_ (.cons ?_ (.cons ?_ (.cons ?_ (.cons ?_ (.cons ?_ (.cons ?_ (.cons ?_ (.cons ?_ (.cons ?_ (.cons ?_ (.cons ?_ (.cons ?_ (.cons ?_ (.cons ?_ (.nil)))))))))))))))
            · intro fa fw hx hs hb
              have s3 : fa.tmps[(3 : Nat)]? = some (.pointer (some ⟨w.heap.size, 0, none⟩)) := (hb 3 (by kernel_rfl)).trans (by rfl)
              have c0 := hx.keeps _ _ N0.out
              have c1 := hx.keeps _ _ N1.out
              have c2 := hx.keeps _ _ N2.out
              have c3 := hx.keeps _ _ N3.out
              refine .inl ⟨wanted_free rfl, fun K hK => ?_⟩
              clear hs hb hx
              go_simp
              exact hK _ _ rfl (Ext.refl _)
            · intro fa fw hx hs hb
              have s1 : fa.tmps[(1 : Nat)]? = some (.slice RB pn pc) := (hb 1 (by kernel_rfl)).trans (by rfl)
              refine .inl ⟨wanted_free rfl, fun K hK => ?_⟩
              clear hs hb hx
              go_simp
              exact hK _ _ rfl (Ext.refl _)
            · intro fa fw hx hs hb
              have s13 : fa.tmps[(13 : Nat)]? = some (.int .i64 k) := (hb 13 (by kernel_rfl)).trans (by rfl)
              refine .inl ⟨wanted_free rfl, fun K hK => ?_⟩
              clear hs hb hx
              go_simp
              exact hK _ _ rfl (Ext.refl _)
            · intro fa fw hx hs hb
              obtain ⟨_, s54, rfl⟩ := hs 1 54 (by kernel_rfl) (by kernel_rfl)
              obtain ⟨_, s55, rfl⟩ := hs 2 55 (by kernel_rfl) (by kernel_rfl)
              refine .inl ⟨wanted_free rfl, fun K hK => ?_⟩
              clear hs hb
              go_simp
              refine (LD.out fw RB pn pc regs HR.out (by omega) hx).mono ?_
              rintro e w' ⟨r0, rfl, ho, xq⟩
              obtain ⟨Aq, cq, rfl, -, -, -⟩ := own_sl ho
              exact hK _ _ ⟨Aq, cq, rfl, own_base ho hx.size⟩ xq
            · intro fa fw hx hs hb
              have s2 : fa.tmps[(2 : Nat)]? = some (.slice IA jn jc) := (hb 2 (by kernel_rfl)).trans (by rfl)
              refine .inl ⟨wanted_free rfl, fun K hK => ?_⟩
              clear hs hb hx
              go_simp
              exact hK _ _ rfl (Ext.refl _)
            · intro fa fw hx hs hb
              have s13 : fa.tmps[(13 : Nat)]? = some (.int .i64 k) := (hb 13 (by kernel_rfl)).trans (by rfl)
              refine .inl ⟨wanted_free rfl, fun K hK => ?_⟩
              clear hs hb hx
              go_simp
              exact hK _ _ rfl (Ext.refl _)
            · intro fa fw hx hs hb
              obtain ⟨_, s57, rfl⟩ := hs 4 57 (by kernel_rfl) (by kernel_rfl)
              obtain ⟨_, s58, rfl⟩ := hs 5 58 (by kernel_rfl) (by kernel_rfl)
              refine .inl ⟨wanted_free rfl, fun K hK => ?_⟩
              clear hs hb
              go_simp
              refine (LD.out fw IA jn jc ins HI.out (by omega) hx).mono ?_
              rintro e w' ⟨r0, rfl, ho, xq⟩
              obtain ⟨Aq, cq, rfl, -, -, -⟩ := own_sl ho
              exact hK _ _ ⟨Aq, cq, rfl, own_base ho hx.size⟩ xq
            · intro fa fw hx hs hb
              obtain ⟨_, s53, rfl⟩ := hs 0 53 (by kernel_rfl) (by kernel_rfl)
              obtain ⟨_, s56, A56, c56, rfl, q56⟩ := hs 3 56 (by kernel_rfl) (by kernel_rfl)
              obtain ⟨_, s59, A59, c59, rfl, q59⟩ := hs 6 59 (by kernel_rfl) (by kernel_rfl)
              refine .inl ⟨wanted_free rfl, fun K hK => ?_⟩
              clear hs hb
              obtain ⟨Ar, cr, er, -, -, hsr⟩ := own_sl q56
              injection er with er _ ec
              subst er; subst ec
              obtain ⟨Ai, ci, ei, -, -, hsi⟩ := own_sl q59
              injection ei with ei _ ec
              subst ei; subst ec
              go_simp
              refine (DD.out fw A56 c56 A59 c59 hx hsr hsi).mono ?_
              rintro e w' ⟨vo, vn, rfl, h1, h2, xq⟩
              obtain ⟨Aq, cq, rfl, -, -, -⟩ := own_sl h1
              obtain ⟨Bq, dq, rfl, -, -, -⟩ := own_sl h2
              exact hK _ _ ⟨Aq, cq, Bq, dq, rfl, own_base h1 hx.size, own_base h2 hx.size⟩ xq
            · intro fa fw hx hs hb
              obtain ⟨_, s60, A60, c60, B60, d60, rfl, q60, p60⟩ := hs 7 60 (by kernel_rfl) (by kernel_rfl)
              refine .inl ⟨wanted_free rfl, fun K hK => ?_⟩
              clear hs hb
              go_simp
              exact hK _ _ ⟨A60, c60, B60, d60, rfl, q60, p60⟩ (Ext.refl _)
            · intro fa fw hx hs hb
              obtain ⟨_, s52, A52, c52, B52, d52, rfl, q52, p52⟩ := hs 8 52 (by kernel_rfl) (by kernel_rfl)
              refine .inl ⟨wanted_free rfl, fun K hK => ?_⟩
              clear hs hb
              go_simp
              exact hK _ _ ⟨A52, c52, rfl, q52⟩ (Ext.refl _)
            · intro fa fw hx hs hb
              obtain ⟨_, s52, A52, c52, B52, d52, rfl, q52, p52⟩ := hs 8 52 (by kernel_rfl) (by kernel_rfl)
              refine .inl ⟨wanted_free rfl, fun K hK => ?_⟩
              clear hs hb
              go_simp
              exact hK _ _ ⟨B52, d52, rfl, p52⟩ (Ext.refl _)
            · intro fa fw hx hs hb
              obtain ⟨_, s52, A52, c52, B52, d52, rfl, q52, p52⟩ := hs 8 52 (by kernel_rfl) (by kernel_rfl)
              refine .inl ⟨wanted_free rfl, fun K hK => ?_⟩
              clear hs hb
              go_simp
              exact hK _ _ rfl (Ext.refl _)
            · intro fa fw hx hs hb
              obtain ⟨_, s61, A61, c61, rfl, q61⟩ := hs 9 61 (by kernel_rfl) (by kernel_rfl)
              refine .inl ⟨wanted_free rfl, fun K hK => ?_⟩
              clear hs hb
              go_simp
              exact hK _ _ ⟨A61, c61, rfl, q61⟩ (Ext.refl _)
            · intro fa fw hx hs hb
              obtain ⟨_, s62, A62, c62, rfl, q62⟩ := hs 10 62 (by kernel_rfl) (by kernel_rfl)
              refine .inl ⟨wanted_free rfl, fun K hK => ?_⟩
              clear hs hb
              go_simp
              exact hK _ _ ⟨A62, c62, rfl, q62⟩ (Ext.refl _)
            · intro fa fw hx hs hb
              obtain ⟨_, s63, rfl⟩ := hs 11 63 (by kernel_rfl) (by kernel_rfl)
              refine .inl ⟨wanted_free rfl, fun K hK => ?_⟩
              clear hs hb hx
              go_simp
              exact hK _ _ rfl (Ext.refl _)
          case rest =>
            intro w2 hxw2
            rintro _ rfl
            rintro _ rfl
            rintro _ rfl
            rintro _ ⟨A56, c56, rfl, q56⟩
            rintro _ rfl
            rintro _ rfl
            rintro _ ⟨A59, c59, rfl, q59⟩
            rintro _ ⟨A60, c60, B60, d60, rfl, q60, p60⟩
            rintro _ ⟨A52, c52, B52, d52, rfl, q52, p52⟩
            rintro _ ⟨A61, c61, rfl, q61⟩
            rintro _ ⟨A62, c62, rfl, q62⟩
            rintro _ rfl
            rintro _ ⟨A14, c14, rfl, q14⟩
            rintro _ ⟨A15, c15, rfl, q15⟩
            rintro _ rfl
            simp only [putAll, List.take, Act.put, List.setIfInBounds_toArray, List.set_cons_zero, List.set_cons_succ]
            refine wpAny_done (by kernel_rfl) ?_ _
            have hA2 := own_ext HA.out hxw2; have hB2 := own_ext HB.out hxw2
            rw [← mixL_zero] at hA2
            have R0 := Lib.hid q14; have R1 := Lib.hid q15; have HA2 := Lib.hid hA2; have HB2 := Lib.hid hB2; have HE2 := Lib.hid (HE.out.trans hxw2)
            clear hA2 hB2 hxw2 HA HB HE q14 q15 LD DD N0 N1 N2 N3
            go_wp2_with fail
            go_loopw [17] (fun j wr => ∃ (q : Nat), q ≤ on ∧ j = .int .i64 q ∧ Ext w1 wr ∧ wr.ownsRow w1.heap.size 79 1 (.slice (some ⟨g1, 0, none⟩) on on) on ((mixL k q o).map U) ∧ wr.ownsRow w1.heap.size 79 1 (.slice (some ⟨g2, 0, none⟩) pn pn) pn ((nx.map (lowW k)).map U) ∧ wr.ownsRow wA.heap.size 3 1 (.slice A14 on c14) on ((laneI k o).map I) ∧ wr.ownsRow wA.heap.size 3 1 (.slice A15 pn c15) pn ((laneI k nx).map I)) (fun j _ => on - (intOf j).toNat)
            case atStart => exact ⟨0, Nat.zero_le _, rfl, HE2.out, HA2.out, HB2.out, R0.out, R1.out⟩
            case round =>
              obtain ⟨q, hq, rfl, hext, hA, hB, hr0, hr1⟩ := hrel
              by_cases hlq : q < on
              · obtain ⟨x, hx⟩ : ∃ x, o[q]? = some x := ⟨_, List.getElem?_eq_getElem (show q < o.length by rw [HL1.out]; exact hlq)⟩
                obtain ⟨⟨u, hu, hcu⟩, -, -⟩ := own_at hA hlq
                rw [List.getElem?_map, mixL_at hx, Option.map_some] at hu
                obtain rfl := Option.some.inj hu
                obtain ⟨A5, c5, e5, -, -, hsl⟩ := own_sl hr0
                injection e5 with e5 _ ec5
                subst e5; subst ec5
                obtain ⟨b, off, y, rfl, hcy, hy⟩ := hsl.at_ hlq
                obtain rfl : bitI k x = y := by unfold laneI at hy; rw [List.getElem?_map, hx] at hy; exact Option.some.inj hy
                have CU := Lib.hid hcu; have CB := Lib.hid hcy; have HQX := Lib.hid hx; have HE3 := Lib.hid hext; have HA3 := Lib.hid hA; have HB3 := Lib.hid hB; have S0 := Lib.hid hr0; have S1 := Lib.hid hr1
                have HWB : Hid (IntKind.u64.wrap (bitI k x) = bitI k x) := by unfold Hid; rw [IntKind.wrap_u64]; rcases bitI_01 k x with e | e <;> rw [e] <;> rfl
                have HWO := Lib.hid (uI_add k HLT.out x)
                clear hcu hcy hy hx hext hA hB hr0 hu hsl hr1
                go_wp2_with fail
                refine wp_flow3 14 2 [isV (.slice (some ⟨g1, 0, none⟩) on on), isV (.int .i64 q), isV (.slice (some ⟨g1, 0, none⟩) on on), isV (.int .i64 q), isV (.pointer (some ⟨g1, q, none⟩)), isV (U (lowW k x)), isV (.slice (some ⟨b, off, none⟩) on c14), isV (.int .i64 q), isV (.pointer (some ⟨b, off + q, none⟩)), isV (I (bitI k x)), isV (.int .u64 (bitI k x)), isV (.int .i64 k), isV (.int .u64 (IntKind.u64.wrap (bitI k x * 2 ^ k))), isV (U (lowW (k + 1) x))] (by kernel_rfl) rfl rfl (by kernel_rfl) (by kernel_rfl) ⟨isV_mono, isV_mono, isV_mono, isV_mono, isV_mono, isV_mono, isV_mono, isV_mono, isV_mono, isV_mono, isV_mono, isV_mono, isV_mono, isV_mono, trivial⟩ ?each ?rest
                case each =>
                  refine .cons ?_ (.cons ?_ (.cons ?_ (.cons ?_ (.cons ?_ (.cons ?_ (.cons ?_ (.cons ?_ (.cons ?_ (.cons ?_ (.cons ?_ (.cons ?_ (.cons ?_ (.cons ?_ (.nil))))))))))))))
                  · intro fa fw hx hs hb
                    have s11 : fa.tmps[(11 : Nat)]? = some (.slice (some ⟨g1, 0, none⟩) on on) := (hb 11 (by kernel_rfl)).trans (by rfl)
                    refine .inl ⟨wanted_free rfl, fun K hK => ?_⟩
                    clear hs hb hx
                    go_simp
                    exact hK _ _ rfl (Ext.refl _)
                  · intro fa fw hx hs hb
                    have s17 : fa.tmps[(17 : Nat)]? = some (.int .i64 q) := (hb 17 (by kernel_rfl)).trans (by rfl)
                    refine .inl ⟨wanted_free rfl, fun K hK => ?_⟩
                    clear hs hb hx
                    go_simp
                    exact hK _ _ rfl (Ext.refl _)
                  · intro fa fw hx hs hb
                    have s11 : fa.tmps[(11 : Nat)]? = some (.slice (some ⟨g1, 0, none⟩) on on) := (hb 11 (by kernel_rfl)).trans (by rfl)
                    refine .inl ⟨wanted_free rfl, fun K hK => ?_⟩
                    clear hs hb hx
                    go_simp
                    exact hK _ _ rfl (Ext.refl _)
                  · intro fa fw hx hs hb
                    have s17 : fa.tmps[(17 : Nat)]? = some (.int .i64 q) := (hb 17 (by kernel_rfl)).trans (by rfl)
                    refine .inl ⟨wanted_free rfl, fun K hK => ?_⟩
                    clear hs hb hx
                    go_simp
                    exact hK _ _ rfl (Ext.refl _)
                  · intro fa fw hx hs hb
                    obtain ⟨_, s72, rfl⟩ := hs 2 72 (by kernel_rfl) (by kernel_rfl)
                    obtain ⟨_, s73, rfl⟩ := hs 3 73 (by kernel_rfl) (by kernel_rfl)
                    refine .inl ⟨wanted_free rfl, fun K hK => ?_⟩
                    clear hs hb hx
                    go_simp
                    exact hK _ _ rfl (Ext.refl _)
                  · intro fa fw hx hs hb
                    obtain ⟨_, s74, rfl⟩ := hs 4 74 (by kernel_rfl) (by kernel_rfl)
                    have c0 := hx.keeps _ _ CU.out
                    refine .inl ⟨wanted_free rfl, fun K hK => ?_⟩
                    clear hs hb hx
                    go_simp
                    exact hK _ _ rfl (Ext.refl _)
                  · intro fa fw hx hs hb
                    have s14 : fa.tmps[(14 : Nat)]? = some (.slice (some ⟨b, off, none⟩) on c14) := (hb 14 (by kernel_rfl)).trans (by rfl)
                    refine .inl ⟨wanted_free rfl, fun K hK => ?_⟩
                    clear hs hb hx
                    go_simp
                    exact hK _ _ rfl (Ext.refl _)
                  · intro fa fw hx hs hb
                    have s17 : fa.tmps[(17 : Nat)]? = some (.int .i64 q) := (hb 17 (by kernel_rfl)).trans (by rfl)
                    refine .inl ⟨wanted_free rfl, fun K hK => ?_⟩
                    clear hs hb hx
                    go_simp
                    exact hK _ _ rfl (Ext.refl _)
                  · intro fa fw hx hs hb
                    obtain ⟨_, s76, rfl⟩ := hs 6 76 (by kernel_rfl) (by kernel_rfl)
                    obtain ⟨_, s77, rfl⟩ := hs 7 77 (by kernel_rfl) (by kernel_rfl)
                    refine .inl ⟨wanted_free rfl, fun K hK => ?_⟩
                    clear hs hb hx
                    go_simp
                    exact hK _ _ rfl (Ext.refl _)
                  · intro fa fw hx hs hb
                    obtain ⟨_, s78, rfl⟩ := hs 8 78 (by kernel_rfl) (by kernel_rfl)
                    have c0 := hx.keeps _ _ CB.out
                    refine .inl ⟨wanted_free rfl, fun K hK => ?_⟩
                    clear hs hb hx
                    go_simp
                    exact hK _ _ rfl (Ext.refl _)
                  · intro fa fw hx hs hb
                    obtain ⟨_, s79, rfl⟩ := hs 9 79 (by kernel_rfl) (by kernel_rfl)
                    refine .inl ⟨wanted_free rfl, fun K hK => ?_⟩
                    clear hs hb
                    have hw := HWB.out
                    go_simp
                    exact hK _ _ rfl (Ext.refl _)
                  · intro fa fw hx hs hb
                    have s13 : fa.tmps[(13 : Nat)]? = some (.int .i64 k) := (hb 13 (by kernel_rfl)).trans (by rfl)
                    refine .inl ⟨wanted_free rfl, fun K hK => ?_⟩
                    clear hs hb hx
                    go_simp
                    exact hK _ _ rfl (Ext.refl _)
                  · intro fa fw hx hs hb
                    obtain ⟨_, s80, rfl⟩ := hs 10 80 (by kernel_rfl) (by kernel_rfl)
                    obtain ⟨_, s81, rfl⟩ := hs 11 81 (by kernel_rfl) (by kernel_rfl)
                    refine .inl ⟨wanted_free rfl, fun K hK => ?_⟩
                    clear hs hb
                    have hk1 : (k : Int) ≤ 64 := by have := HLT.out; omega
                    go_simp
                    exact hK _ _ rfl (Ext.refl _)
                  · intro fa fw hx hs hb
                    obtain ⟨_, s75, rfl⟩ := hs 5 75 (by kernel_rfl) (by kernel_rfl)
                    obtain ⟨_, s82, rfl⟩ := hs 12 82 (by kernel_rfl) (by kernel_rfl)
                    refine .inl ⟨wanted_free rfl, fun K hK => ?_⟩
                    clear hs hb
                    have hw := HWO.out
                    go_simp
                    exact hK _ _ rfl (Ext.refl _)
                case rest =>
                  intro w2 hxw2
                  rintro _ rfl
                  rintro _ rfl
                  rintro _ rfl
                  rintro _ rfl
                  rintro _ rfl
                  rintro _ rfl
                  rintro _ rfl
                  rintro _ rfl
                  rintro _ rfl
                  rintro _ rfl
                  rintro _ rfl
                  rintro _ rfl
                  rintro _ rfl
                  rintro _ rfl
                  simp only [putAll, List.take, Act.put, List.setIfInBounds_toArray, List.set_cons_zero, List.set_cons_succ]
                  refine wpAny_ready (rs := [14]) (by kernel_rfl) (by simp) (AllReady.cons rfl (fun KK hKK => ?_) AllReady.nil)
                  have hv2 := own_ext HA3.out hxw2
                  obtain ⟨⟨u2, hu2, hcv2⟩, hfv2, -⟩ := own_at hv2 hlq
                  go_simp
                  refine hKK _ _ ?_
                  clear hKK KK
                  refine wpAny_ready (rs := [15]) (by kernel_rfl) (by simp) (AllReady.cons rfl (fun KK hKK => ?_) AllReady.nil)
                  go_simp
                  refine hKK _ _ ?_
                  clear hKK KK
                  refine wpAny_done (by kernel_rfl) ?_ _
                  have hv3 := (hv2.stored q (U (lowW (k + 1) x))).1
                  rw [← List.map_set, mixL_set HQX.out] at hv3
                  have hgs := grownBy_set w2 g1 q (U (lowW (k + 1) x))
                  have hb3 := (own_ext HB3.out hxw2).kept hgs (.inr (by intro e; injection e with e; exact HNE.out e.symm))
                  have hr3 := (own_ext S0.out hxw2).kept hgs (own_types (own_ext S0.out hxw2) hv2 (by decide))
                  have hr4 := (own_ext S1.out hxw2).kept hgs (own_types (own_ext S1.out hxw2) hv2 (by decide))
                  have hx3 : Ext w1 (w2.setCell ⟨g1, q, none⟩ (U (lowW (k + 1) x))) := (HE3.out.trans hxw2).setCell HG1.out _
                  have V3 := Lib.hid hv3; have B3 := Lib.hid hb3; have R3 := Lib.hid hr3; have X3 := Lib.hid hx3; have R4 := Lib.hid hr4
                  clear hv2 hu2 hcv2 hfv2 hv3 hb3 hr3 hx3 hgs hr4
                  go_wp2
                  go_roundw
                  case rel => exact ⟨q + 1, by omega, by go_num, X3.out, V3.out, B3.out, R3.out, R4.out⟩
                  case measure => simp [intOf]; omega
              · have hqe : q = on := by omega
                rw [hqe, mixL_end HL1.out] at hA
                clear hqe
                rw [← mixL_zero] at hB
                have HA2 := Lib.hid hB; have HB2 := Lib.hid hA; have HE2 := Lib.hid hext; have R0 := Lib.hid hr1
                clear hA hB hext hr0 hr1
                go_wp2_with fail
                go_loopw [18] (fun j wr => ∃ (q : Nat), q ≤ pn ∧ j = .int .i64 q ∧ Ext w1 wr ∧ wr.ownsRow w1.heap.size 79 1 (.slice (some ⟨g2, 0, none⟩) pn pn) pn ((mixL k q nx).map U) ∧ wr.ownsRow w1.heap.size 79 1 (.slice (some ⟨g1, 0, none⟩) on on) on ((o.map (lowW (k + 1))).map U) ∧ wr.ownsRow wA.heap.size 3 1 (.slice A15 pn c15) pn ((laneI k nx).map I)) (fun j _ => pn - (intOf j).toNat)
                case atStart => exact ⟨0, Nat.zero_le _, rfl, HE2.out, HA2.out, HB2.out, R0.out⟩
                case round =>
                  obtain ⟨q, hq, rfl, hext, hA, hB, hr0⟩ := hrel
                  by_cases hlq : q < pn
                  · obtain ⟨x, hx⟩ : ∃ x, nx[q]? = some x := ⟨_, List.getElem?_eq_getElem (show q < nx.length by rw [HL2.out]; exact hlq)⟩
                    obtain ⟨⟨u, hu, hcu⟩, -, -⟩ := own_at hA hlq
                    rw [List.getElem?_map, mixL_at hx, Option.map_some] at hu
                    obtain rfl := Option.some.inj hu
                    obtain ⟨A5, c5, e5, -, -, hsl⟩ := own_sl hr0
                    injection e5 with e5 _ ec5
                    subst e5; subst ec5
                    obtain ⟨b, off, y, rfl, hcy, hy⟩ := hsl.at_ hlq
                    obtain rfl : bitI k x = y := by unfold laneI at hy; rw [List.getElem?_map, hx] at hy; exact Option.some.inj hy
                    have CU := Lib.hid hcu; have CB := Lib.hid hcy; have HQX := Lib.hid hx; have HE3 := Lib.hid hext; have HA3 := Lib.hid hA; have HB3 := Lib.hid hB; have S0 := Lib.hid hr0
                    have HWB : Hid (IntKind.u64.wrap (bitI k x) = bitI k x) := by unfold Hid; rw [IntKind.wrap_u64]; rcases bitI_01 k x with e | e <;> rw [e] <;> rfl
                    have HWO := Lib.hid (uI_add k HLT.out x)
                    clear hcu hcy hy hx hext hA hB hr0 hu hsl
                    go_wp2_with fail
                    refine wp_flow3 14 2 [isV (.slice (some ⟨g2, 0, none⟩) pn pn), isV (.int .i64 q), isV (.slice (some ⟨g2, 0, none⟩) pn pn), isV (.int .i64 q), isV (.pointer (some ⟨g2, q, none⟩)), isV (U (lowW k x)), isV (.slice (some ⟨b, off, none⟩) pn c15), isV (.int .i64 q), isV (.pointer (some ⟨b, off + q, none⟩)), isV (I (bitI k x)), isV (.int .u64 (bitI k x)), isV (.int .i64 k), isV (.int .u64 (IntKind.u64.wrap (bitI k x * 2 ^ k))), isV (U (lowW (k + 1) x))] (by kernel_rfl) rfl rfl (by kernel_rfl) (by kernel_rfl) ⟨isV_mono, isV_mono, isV_mono, isV_mono, isV_mono, isV_mono, isV_mono, isV_mono, isV_mono, isV_mono, isV_mono, isV_mono, isV_mono, isV_mono, trivial⟩ ?each ?rest
                    case each =>
                      refine .cons ?_ (.cons ?_ (.cons ?_ (.cons ?_ (.cons ?_ (.cons ?_ (.cons ?_ (.cons ?_ (.cons ?_ (.cons ?_ (.cons ?_ (.cons ?_ (.cons ?_ (.cons ?_ (.nil))))))))))))))
                      · intro fa fw hx hs hb
                        have s12 : fa.tmps[(12 : Nat)]? = some (.slice (some ⟨g2, 0, none⟩) pn pn) := (hb 12 (by kernel_rfl)).trans (by rfl)
                        refine .inl ⟨wanted_free rfl, fun K hK => ?_⟩
                        clear hs hb hx
                        go_simp
                        exact hK _ _ rfl (Ext.refl _)
                      · intro fa fw hx hs hb
                        have s18 : fa.tmps[(18 : Nat)]? = some (.int .i64 q) := (hb 18 (by kernel_rfl)).trans (by rfl)
                        refine .inl ⟨wanted_free rfl, fun K hK => ?_⟩
                        clear hs hb hx
                        go_simp
                        exact hK _ _ rfl (Ext.refl _)
                      · intro fa fw hx hs hb
                        have s12 : fa.tmps[(12 : Nat)]? = some (.slice (some ⟨g2, 0, none⟩) pn pn) := (hb 12 (by kernel_rfl)).trans (by rfl)
                        refine .inl ⟨wanted_free rfl, fun K hK => ?_⟩
                        clear hs hb hx
                        go_simp
                        exact hK _ _ rfl (Ext.refl _)
                      · intro fa fw hx hs hb
                        have s18 : fa.tmps[(18 : Nat)]? = some (.int .i64 q) := (hb 18 (by kernel_rfl)).trans (by rfl)
                        refine .inl ⟨wanted_free rfl, fun K hK => ?_⟩
                        clear hs hb hx
                        go_simp
                        exact hK _ _ rfl (Ext.refl _)
                      · intro fa fw hx hs hb
                        obtain ⟨_, s93, rfl⟩ := hs 2 93 (by kernel_rfl) (by kernel_rfl)
                        obtain ⟨_, s94, rfl⟩ := hs 3 94 (by kernel_rfl) (by kernel_rfl)
                        refine .inl ⟨wanted_free rfl, fun K hK => ?_⟩
                        clear hs hb hx
                        go_simp
                        exact hK _ _ rfl (Ext.refl _)
                      · intro fa fw hx hs hb
                        obtain ⟨_, s95, rfl⟩ := hs 4 95 (by kernel_rfl) (by kernel_rfl)
                        have c0 := hx.keeps _ _ CU.out
                        refine .inl ⟨wanted_free rfl, fun K hK => ?_⟩
                        clear hs hb hx
                        go_simp
                        exact hK _ _ rfl (Ext.refl _)
                      · intro fa fw hx hs hb
                        have s15 : fa.tmps[(15 : Nat)]? = some (.slice (some ⟨b, off, none⟩) pn c15) := (hb 15 (by kernel_rfl)).trans (by rfl)
                        refine .inl ⟨wanted_free rfl, fun K hK => ?_⟩
                        clear hs hb hx
                        go_simp
                        exact hK _ _ rfl (Ext.refl _)
                      · intro fa fw hx hs hb
                        have s18 : fa.tmps[(18 : Nat)]? = some (.int .i64 q) := (hb 18 (by kernel_rfl)).trans (by rfl)
                        refine .inl ⟨wanted_free rfl, fun K hK => ?_⟩
                        clear hs hb hx
                        go_simp
                        exact hK _ _ rfl (Ext.refl _)
                      · intro fa fw hx hs hb
                        obtain ⟨_, s97, rfl⟩ := hs 6 97 (by kernel_rfl) (by kernel_rfl)
                        obtain ⟨_, s98, rfl⟩ := hs 7 98 (by kernel_rfl) (by kernel_rfl)
                        refine .inl ⟨wanted_free rfl, fun K hK => ?_⟩
                        clear hs hb hx
                        go_simp
                        exact hK _ _ rfl (Ext.refl _)
                      · intro fa fw hx hs hb
                        obtain ⟨_, s99, rfl⟩ := hs 8 99 (by kernel_rfl) (by kernel_rfl)
                        have c0 := hx.keeps _ _ CB.out
                        refine .inl ⟨wanted_free rfl, fun K hK => ?_⟩
                        clear hs hb hx
                        go_simp
                        exact hK _ _ rfl (Ext.refl _)
                      · intro fa fw hx hs hb
                        obtain ⟨_, s100, rfl⟩ := hs 9 100 (by kernel_rfl) (by kernel_rfl)
                        refine .inl ⟨wanted_free rfl, fun K hK => ?_⟩
                        clear hs hb
                        have hw := HWB.out
                        go_simp
                        exact hK _ _ rfl (Ext.refl _)
                      · intro fa fw hx hs hb
                        have s13 : fa.tmps[(13 : Nat)]? = some (.int .i64 k) := (hb 13 (by kernel_rfl)).trans (by rfl)
                        refine .inl ⟨wanted_free rfl, fun K hK => ?_⟩
                        clear hs hb hx
                        go_simp
                        exact hK _ _ rfl (Ext.refl _)
                      · intro fa fw hx hs hb
                        obtain ⟨_, s101, rfl⟩ := hs 10 101 (by kernel_rfl) (by kernel_rfl)
                        obtain ⟨_, s102, rfl⟩ := hs 11 102 (by kernel_rfl) (by kernel_rfl)
                        refine .inl ⟨wanted_free rfl, fun K hK => ?_⟩
                        clear hs hb
                        have hk1 : (k : Int) ≤ 64 := by have := HLT.out; omega
                        go_simp
                        exact hK _ _ rfl (Ext.refl _)
                      · intro fa fw hx hs hb
                        obtain ⟨_, s96, rfl⟩ := hs 5 96 (by kernel_rfl) (by kernel_rfl)
                        obtain ⟨_, s103, rfl⟩ := hs 12 103 (by kernel_rfl) (by kernel_rfl)
                        refine .inl ⟨wanted_free rfl, fun K hK => ?_⟩
                        clear hs hb
                        have hw := HWO.out
                        go_simp
                        exact hK _ _ rfl (Ext.refl _)
                    case rest =>
                      intro w2 hxw2
                      rintro _ rfl
                      rintro _ rfl
                      rintro _ rfl
                      rintro _ rfl
                      rintro _ rfl
                      rintro _ rfl
                      rintro _ rfl
                      rintro _ rfl
                      rintro _ rfl
                      rintro _ rfl
                      rintro _ rfl
                      rintro _ rfl
                      rintro _ rfl
                      rintro _ rfl
                      simp only [putAll, List.take, Act.put, List.setIfInBounds_toArray, List.set_cons_zero, List.set_cons_succ]
                      refine wpAny_ready (rs := [14]) (by kernel_rfl) (by simp) (AllReady.cons rfl (fun KK hKK => ?_) AllReady.nil)
                      have hv2 := own_ext HA3.out hxw2
                      obtain ⟨⟨u2, hu2, hcv2⟩, hfv2, -⟩ := own_at hv2 hlq
                      go_simp
                      refine hKK _ _ ?_
                      clear hKK KK
                      refine wpAny_ready (rs := [15]) (by kernel_rfl) (by simp) (AllReady.cons rfl (fun KK hKK => ?_) AllReady.nil)
                      go_simp
                      refine hKK _ _ ?_
                      clear hKK KK
                      refine wpAny_done (by kernel_rfl) ?_ _
                      have hv3 := (hv2.stored q (U (lowW (k + 1) x))).1
                      rw [← List.map_set, mixL_set HQX.out] at hv3
                      have hgs := grownBy_set w2 g2 q (U (lowW (k + 1) x))
                      have hb3 := (own_ext HB3.out hxw2).kept hgs (.inr (by intro e; injection e with e; exact HNE.out e))
                      have hr3 := (own_ext S0.out hxw2).kept hgs (own_types (own_ext S0.out hxw2) hv2 (by decide))
                      have hx3 : Ext w1 (w2.setCell ⟨g2, q, none⟩ (U (lowW (k + 1) x))) := (HE3.out.trans hxw2).setCell HG2.out _
                      have V3 := Lib.hid hv3; have B3 := Lib.hid hb3; have R3 := Lib.hid hr3; have X3 := Lib.hid hx3
                      clear hv2 hu2 hcv2 hfv2 hv3 hb3 hr3 hx3 hgs
                      go_wp2
                      go_roundw
                      case rel => exact ⟨q + 1, by omega, by go_num, X3.out, V3.out, B3.out, R3.out⟩
                      case measure => simp [intOf]; omega
                  · have hqe : q = pn := by omega
                    rw [hqe, mixL_end HL2.out] at hA
                    clear hqe
                    have HAZ := Lib.hid hB; have HBZ := Lib.hid hA; have HEZ := Lib.hid hext
                    clear hA hB hext hr0
                    go_wp2_with fail
                    go_roundw
                    case rel => exact ⟨k + 1, by have := HLT.out; omega, by go_num, HEZ.out, HAZ.out, HBZ.out⟩
                    case measure => simp [intOf]; omega
        · have hk64 : k = 64 := by omega
          subst hk64
          have e1 : ∀ q : List (BitVec 64), q.map (lowW 64) = q := fun q => by
            induction q with
            | nil => rfl
            | cons x q ih => rw [List.map_cons, ih, lowW_all]
          rw [e1] at hA hB
          have HA := Lib.hid hA; have HB := Lib.hid hB; have HE := Lib.hid hext
          clear hA hB hext e1
          go_wp2
          refine bodyPost_ret (v := Pr3 (.slice (some ⟨g1, 0, none⟩) on on) (.slice (some ⟨g2, 0, none⟩) pn pn) (I 0)) (by simp [results, Try.results42, go_sem]) rfl ⟨_, _, rfl, ?_, ?_, HX.out.trans (X1.out.trans HE.out)⟩
          · show World.ownsRow _ _ _ _ _ o.length _
            rw [HL1.out]; exact own_base HA.out (HX.out.trans X1.out).size
          · show World.ownsRow _ _ _ _ _ nx.length _
            rw [HL2.out]; exact own_base HB.out (HX.out.trans X1.out).size
    · have hE : packE N regs.length ins.length = 1 := by unfold packE; rw [if_neg (by simp [h0]), if_pos (by by_cases h1 : regs.length = N.regs.length <;> simp_all)]
      have hQ : packV N regs ins = ([], []) := by unfold packV; rw [if_neg (by rw [hE]; decide)]
      rw [hE, hQ]
      have hcase : ((pn : Int) != (rn : Int)) = true ∨ ((pn : Int) != (rn : Int)) = false ∧ ((jn : Int) != i) = true := by
        by_cases h1 : pn = rn
        · refine .inr ⟨by simp [h1], ?_⟩
          simp only [bne_iff_ne, ne_eq]
          intro e; exact hf ⟨by omega, by omega⟩
        · left; simp only [bne_iff_ne, ne_eq]; omega
      clear hord ok hO hV h0 hE hQ hf hc hgl hrl hol hpl hjl hin
      obtain ⟨q0, q1, q2, q3⟩ := HBox.out
      rcases hcase with g1 | ⟨g1, g2⟩
      all_goals
        go_enter Try.func42, Try.ntmps42
        go_wp2_with fail
        rw [← HW.out]
        refine HORD.out.mono ?_; rintro e w1 ⟨v1, rfl, -, x1⟩
        have X1 := Lib.hid x1
        obtain ⟨q0, q1, q2, q3⟩ := HBox.out.keep x1.keeps
        clear x1 HORD
        go_wp2
        exact bodyPost_ret (v := Pr3 (.slice none 0 0) (.slice none 0 0) (I 1)) (by simp [results, Try.results42, go_sem]) rfl ⟨_, _, rfl, World.ownsRow_nil _ _ _ _, World.ownsRow_nil _ _ _ _, HX.out.trans X1.out⟩
  · have hE : packE N regs.length ins.length = (orderV N).2 := by unfold packE; rw [if_pos h0]
    have hQ : packV N regs ins = ([], []) := by unfold packV; rw [if_neg (by rw [hE]; exact h0)]
    rw [hE, hQ]
    have g : ((orderV N).2 != 0) = true := by simpa using h0
    generalize (orderV N).2 = E at *
    have HORD := Lib.hid hord
    clear hord h0 hE hQ hgl hrl hol hpl hjl hin
    obtain ⟨q0, q1, q2, q3⟩ := HBox.out
    go_enter Try.func42, Try.ntmps42
    go_wp2_with fail
    rw [← HW.out]
    refine HORD.out.mono ?_; rintro e w1 ⟨v1, rfl, -, x1⟩
    have X1 := Lib.hid x1
    clear x1 HORD
    go_wp2
    exact bodyPost_ret (v := Pr3 (.slice none 0 0) (.slice none 0 0) (I E)) (by simp [results, Try.results42, go_sem]) rfl ⟨_, _, rfl, World.ownsRow_nil _ _ _ _, World.ownsRow_nil _ _ _ _, HX.out.trans X1.out⟩
end
end Go.Proofs.Ytjagbnaacfhokaa
