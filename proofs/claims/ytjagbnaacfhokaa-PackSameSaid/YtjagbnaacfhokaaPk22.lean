/- Run of pack, by the reference. -/
import Derived.Test.YtjagbnaacfhokaaPk21
import Derived.Test.YtjagbnaacfhokaaPk12
import Derived.Test.YtjagbnaacfhokaaPk09
namespace Go.Proofs.Ytjagbnaacfhokaa
set_option linter.unusedVariables false
set_option linter.unusedSimpArgs false
open Go.RowKit

theorem packE_ok {N : NetM} {l : List Int} (h0 : (orderV N).2 = 0) {r x : List (BitVec 64)} (hr : r.length = N.regs.length) (hx : (x.length : Int) = N.ins) : packE N r.length x.length = 0 ∧ packV N r x = playW N r x := by
  have hE : packE N r.length x.length = 0 := by unfold packE; rw [if_neg (by simp [h0]), if_neg (by simp [hr, hx])]
  exact ⟨hE, by unfold packV; rw [if_pos hE]⟩
section
variable (i : Int) (GA : Option Addr) (gn gc : Nat) (RA : Option Addr) (rn rc : Nat) (OA : Option Addr) (on oc : Nat) (N : NetM) (A : Option Addr) (n c : Nat) (rows : List (List (BitVec 64))) (w : World)
set_option maxRecDepth 100000 in
set_option maxHeartbeats 8000000 in
theorem packRunOf_any (h : NetC w i GA gn gc RA rn rc OA on oc N) (hl : SlRowsF U w A n rows) (hn : n ≤ maxLen) (hlo : -9223372036854775808 ≤ i) :
    Calls Try.prog 46 #[netV i GA gn gc RA rn rc OA on oc, .slice A n c] w fun e w' => PRunE w w' e (prunE N rows) (prunV N rows) := by
  have hgl : N.gates.length = gn := h.gates.1
  have hrl : N.regs.length = rn := h.regs.1
  have hol : N.outs.length = on := h.outs.len
  have hrows := hl.1; have hin := h.ins
  obtain ⟨W, hW⟩ : ∃ W, W = w.alloc (.cells #[I i, .slice GA gn gc, .slice RA rn rc, .slice OA on oc] 26) := ⟨_, rfl⟩
  have hxW : Ext w W := by rw [hW]; exact (Ext.refl _).alloc _
  have hbox : NetBox W w.heap.size i GA gn gc RA rn rc OA on oc := by rw [hW]; exact NetBox.new w i GA gn gc RA rn rc OA on oc _
  have HN := Lib.hid (h.keep hxW.keeps); have HBox := Lib.hid hbox; have HW := Lib.hid hW; have HX := Lib.hid hxW
  have HL := Lib.hid (hl.keep hxW.keeps)
  have HNM := Lib.hid hn
  unfold maxLen at hn
  clear h hl hW hxW hbox
  have hord := orderOf_any i GA gn gc RA rn rc OA on oc N W HN.out hlo
  by_cases h0 : (orderV N).2 = 0
  · obtain ⟨ok, hc, l, hO, hV⟩ := orderV_ok h0
    rw [hV] at hord
    have hgn : gn ≤ 200 := by have := ok.gl; omega
    have hr20 : rn ≤ 20 := by have := ok.rl; omega
    have HORD := Lib.hid hord; have HOK := Lib.hid ok; have HO := Lib.hid hO
    have H0 := Lib.hid h0
    clear hord ok hO hV hc h0
    by_cases h60 : 60 < n
    · have HRE : Hid (prunE N rows = 2) := by unfold Hid prunE; rw [if_neg (by simp [H0.out]), if_pos (by omega)]
      have HRV : Hid (prunV N rows = []) := by unfold Hid prunV; rw [HRE.out]; rfl
      clear hgl hrl hol hrows hin
      go_enter Try.func46, Try.ntmps46
      go_wp2_with fail
      rw [← HW.out]
      refine HORD.out.mono ?_; rintro e w1 ⟨v1, rfl, -, x1⟩
      have X1 := Lib.hid x1; clear x1
      go_wp2
      exact bodyPost_ret (v := Pr (.slice none 0 0) (I 2)) (by simp [results, Try.results46, go_sem]) rfl ⟨_, [], by rw [HRE.out], by rw [HRV.out]; exact OwnRowsF.nil _ _ _ _ _, HX.out.trans X1.out⟩
    · obtain rfl : i = N.ins := hin
      cases hb : rows.any (badRow N.ins) with
      | true =>
        have HRE : Hid (prunE N rows = 1) := by unfold Hid prunE; rw [if_neg (by simp [H0.out]), if_neg (by omega), if_pos hb]
        have HRV : Hid (prunV N rows = []) := by unfold Hid prunV; rw [HRE.out]; rfl
        have HB := Lib.hid hb
        clear hgl hrl hol hrows hb
        go_enter Try.func46, Try.ntmps46
        go_wp2_with fail
        rw [← HW.out]
        refine HORD.out.mono ?_; rintro e w1 ⟨v1, rfl, -, x1⟩
        have X1 := Lib.hid x1; clear x1
        go_wp2_with fail
        go_loopw [8] (fun j wr => ∃ (q : Nat), q ≤ n ∧ j = .int .i64 q ∧ Ext W wr ∧ (rows.drop q).any (badRow N.ins) = true) (fun j _ => n - (intOf j).toNat)
        case atStart => exact ⟨0, Nat.zero_le _, rfl, X1.out, HB.out⟩
        case round =>
          obtain ⟨q, hq, rfl, hext, hany⟩ := hrel
          by_cases hlt : q < n
          · obtain ⟨b, off, A', c', x, rfl, hcx, -, -, -, hd, -⟩ := (HL.out.keep hext.keeps).next hlt
            obtain ⟨q0, -, -, -⟩ := HBox.out.keep hext.keeps
            rw [hd, List.any_cons] at hany
            have HE := Lib.hid hext
            by_cases hbx : badRow N.ins x = true
            · have hne : ((x.length : Int) != N.ins) = true := hbx
              clear hext hd hany hbx
              go_wp2_with fail
              go_quiet (fail)
              go_wp2
              exact bodyPost_ret (v := Pr (.slice none 0 0) (I 1)) (by simp [results, Try.results46, go_sem]) rfl ⟨_, [], by rw [HRE.out], by rw [HRV.out]; exact OwnRowsF.nil _ _ _ _ _, HX.out.trans (by first | exact HE.out.drew | exact HE.out.drewN _)⟩
            · have hne : ((x.length : Int) != N.ins) = false := by simpa [badRow] using hbx
              have hany' : (rows.drop (q + 1)).any (badRow N.ins) = true := by simpa [hbx] using hany
              have HA := Lib.hid hany'
              clear hext hd hany hany' hbx
              go_wp2_with fail
              go_quiet (fail)
              go_wp2
              go_roundw
              case rel => exact ⟨q + 1, by omega, by go_num, by first | exact HE.out.drew | exact HE.out.drewN _, HA.out⟩
              case measure => simp [intOf]; omega
          · rw [HL.out.drop_end hlt] at hany; simp at hany
      | false =>
        have HRE : Hid (prunE N rows = 0) := by unfold Hid prunE; rw [if_neg (by simp [H0.out]), if_neg (by omega), if_neg (by simp [hb])]
        have HRV : Hid (prunV N rows = runW N (firstW N) rows) := by unfold Hid prunV; rw [HRE.out]; rfl
        have hall : ∀ x ∈ rows, (x.length : Int) = N.ins := fun x hx => by have := List.any_eq_false.1 hb x hx; simpa [badRow] using this
        have HB := Lib.hid hb; have HALL := Lib.hid hall
        have hi3 : N.ins ≤ 3 := HOK.out.ins3
        have HRL := Lib.hid hrl; have HOL := Lib.hid hol; have HROWS := Lib.hid hrows
        clear hgl hrl hol hrows hb hall
        go_enter Try.func46, Try.ntmps46
        go_wp2_with fail
        rw [← HW.out]
        refine HORD.out.mono ?_; rintro e w1 ⟨v1, rfl, -, x1⟩
        have X1 := Lib.hid x1; clear x1
        go_wp2_with fail
        go_loopw [8] (fun j wr => ∃ (q : Nat), q ≤ n ∧ j = .int .i64 q ∧ Ext W wr) (fun j _ => n - (intOf j).toNat)
        case atStart => exact ⟨0, Nat.zero_le _, rfl, X1.out⟩
        case round =>
          obtain ⟨q, hq, rfl, hext⟩ := hrel
          by_cases hlt : q < n
          · obtain ⟨b, off, A', c', x, rfl, hcx, -, -, -, hd, hxm⟩ := (HL.out.keep hext.keeps).next hlt
            obtain ⟨q0, -, -, -⟩ := HBox.out.keep hext.keeps
            have hxl := HALL.out x (List.mem_of_getElem? hxm)
            have hne : ((x.length : Int) != N.ins) = false := by simpa using hxl
            have HE := Lib.hid hext
            clear hext hd hxl hxm
            go_wp2_with fail
            go_quiet (fail)
            go_wp2
            go_roundw
            case rel => exact ⟨q + 1, by omega, by go_num, by first | exact HE.out.drew | exact HE.out.drewN _⟩
            case measure => simp [intOf]; omega
          · obtain rfl : n = q := by omega
            have X2 := Lib.hid hext
            clear hext
            obtain ⟨w2, hw2⟩ : ∃ q, q = wr := ⟨_, rfl⟩
            subst hw2
            go_wp2_with fail
            go_loopw [9, 10] (fun s j wr => ∃ (k : Nat), k ≤ rn ∧ j = .int .i64 k ∧ Ext W wr ∧ wr.ownsRow W.heap.size 79 1 s k ((firstW { N with regs := N.regs.take k }).map U)) (fun _ j _ => rn - (intOf j).toNat)
            case atStart => exact ⟨0, Nat.zero_le _, rfl, X2.out, World.ownsRow_nil _ _ _ _⟩
            case round =>
              obtain ⟨k, hk, rfl, hext, hown⟩ := hrel
              obtain ⟨q0, q1, q2, q3⟩ := HBox.out.keep hext.keeps
              by_cases hlt : k < rn
              · obtain ⟨b, off, r, rfl, hr0, hr1, -, hr⟩ := (HN.out.keep hext.keeps).regs.next hlt
                have hnx := firstW_next hr
                have hones := uI_not 0#64
                rw [show uI 0#64 = 0 from rfl] at hones
                have HNX := Lib.hid hnx; have HOWN := Lib.hid hown; have HE := Lib.hid hext
                clear hnx hown hext hr
                cases hf : r.fst
                all_goals
                  rw [show RB r = Bv r.fst from rfl, hf] at hr0
                  rw [hf] at HNX
                  simp only [if_true, Bool.false_eq_true, if_false] at HNX
                  go_wp2_with (at_builtin; refine wpList_pushK rfl (.tmp 57) (.tmp 59) 48 79 rfl tab_u64 Try.underlying48 rfl (by omega) W.heap.size wr HE.out.size _ k _ rfl HOWN.out [_] rfl rfl _ rfl rfl (by simp [Value.oneCell']) (by unfold maxLen; omega) (by omega) ?_; intro v' w3 hown3 hg3)
                  go_roundw
                  case rel => exact ⟨k + 1, by omega, by go_num, Below.grown HE.out hg3 HE.out.size (fun b hb => (HOWN.out.lt b hb).1), by rw [HNX.out]; exact hown3⟩
                  case measure => simp [intOf]; omega
              · obtain rfl : k = rn := by omega
                have ht : N.regs.take k = N.regs := List.take_of_length_le (by rw [HRL.out]; exact Nat.le_refl _)
                rw [ht] at hown
                have hown' : wr.ownsRow W.heap.size 79 1 u9 k ((firstW N).map U) := hown
                have HR0 := Lib.hid hown'; have X3 := Lib.hid hext
                have HST := Lib.hid (PRunSt.start N rows)
                clear hown hown' ht hext hlt
                go_wp2_with fail
                go_loopw [9, 12, 13] (fun sr so j wr => ∃ (q : Nat) (r : List (BitVec 64)) (out : List (List (BitVec 64))) (vs : List Value), q ≤ n ∧ j = .int .i64 q ∧ Ext W wr ∧ wr.ownsRow W.heap.size 79 1 sr k (r.map U) ∧ OwnRowsF U 48 79 wr W.heap.size so out vs ∧
                  PRunSt N rows q r out) (fun _ _ j _ => n - (intOf j).toNat)
                case atStart => exact ⟨0, firstW N, [], [], Nat.zero_le _, rfl, X3.out, HR0.out, OwnRowsF.nil _ _ _ _ _, HST.out⟩
                case round =>
                  obtain ⟨q, r, out, vs, hq, rfl, hext, hreg, hrows, hst⟩ := hrel
                  have hbx := HBox.out.keep hext.keeps
                  by_cases hlt : q < n
                  · obtain ⟨b, off, A', c', x, rfl, hcx, hsx, -, -, hd, hxm⟩ := (HL.out.keep hext.keeps).next hlt
                    have hxl := HALL.out x (List.mem_of_getElem? hxm)
                    obtain ⟨RB, pc, rfl, -, -, hsr⟩ := own_sl hreg
                    have hpl := play_len HO.out r x
                    rw [HOL.out, HRL.out] at hpl
                    have hnext := hst.next HO.out hd
                    have hql : out.length ≤ 60 := by rw [hst.ol]; omega
                    obtain ⟨hpe, hpv⟩ := packE_ok (l := l) H0.out hst.len hxl
                    have hNN := HN.out.keep hext.keeps
                    have hx3 : x.length ≤ 3 := by omega
                    have hps : ∀ Q, Ext wr Q → Calls Try.prog 42 #[netV N.ins GA gn gc RA k rc OA on oc, .slice RB k pc, .slice A' x.length c'] Q fun e w' => ∃ vo vn, e = .returned (Pr3 vo vn (I 0)) ∧ w'.ownsRow Q.heap.size 79 1 vo on ((playW N r x).1.map U) ∧ w'.ownsRow Q.heap.size 79 1 vn k ((playW N r x).2.map U) ∧ Ext Q w' := fun Q hQ => by
                      refine (packStepOf_any N.ins GA gn gc RA k rc OA on oc N RB k pc A' x.length c' r x Q (hNN.keep hQ.keeps) (hsr.keep hQ.keeps) (hsx.keep hQ.keeps) (by unfold maxLen; omega) (by unfold maxLen; omega) hlo).mono fun e w' ⟨vo, vn, he, h1, h2, h3⟩ => ⟨vo, vn, ?_, ?_, ?_, h3⟩
                      · rw [he, hpe]
                      · rw [hpv, hpl.1] at h1; exact h1
                      · rw [hpv, hpl.2] at h2; exact h2
                    have B0 : Hid (wr.cell? ⟨w.heap.size, 0, none⟩ = some (I N.ins)) := hbx.1
                    have B1 : Hid (wr.cell? ⟨w.heap.size, 1, none⟩ = some (.slice GA gn gc)) := hbx.2.1
                    have B2 : Hid (wr.cell? ⟨w.heap.size, 2, none⟩ = some (.slice RA k rc)) := hbx.2.2.1
                    have B3 : Hid (wr.cell? ⟨w.heap.size, 3, none⟩ = some (.slice OA on oc)) := hbx.2.2.2
                    have CX := Lib.hid hcx
                    have PS := Lib.hid hps; have HNX := Lib.hid hnext; have HPL := Lib.hid hpl; have HRW := Lib.hid hrows; have HE := Lib.hid hext
                    clear hsx hd hxm hxl hsr hreg hrows hext hst hnext hpl hps hpe hpv hNN hbx hcx q0 q1 q2 q3 hx3
                    go_wp2_with fail
                    refine wp_flow3 14 0 [isV (.agg #[I N.ins, .slice GA gn gc, .slice RA k rc, .slice OA on oc]), isV (.slice RB k pc), isV (.slice (some ⟨b, off, none⟩) n c), isV (.int .i64 q), isV (.pointer (some ⟨b, off + q, none⟩)), isV (.slice A' x.length c'), fun v w => ∃ A c B d, v = .tuple #[.slice A on c, .slice B k d, .int .i64 0] ∧ w.ownsRow wr.heap.size 79 1 (.slice A on c) on ((playW N r x).1.map U) ∧ w.ownsRow wr.heap.size 79 1 (.slice B k d) k ((playW N r x).2.map U), fun v w => ∃ A c B d, v = .tuple #[.slice A on c, .slice B k d, .int .i64 0] ∧ w.ownsRow wr.heap.size 79 1 (.slice A on c) on ((playW N r x).1.map U) ∧ w.ownsRow wr.heap.size 79 1 (.slice B k d) k ((playW N r x).2.map U), fun v w => ∃ A c, v = .slice A on c ∧ w.ownsRow wr.heap.size 79 1 (.slice A on c) on ((playW N r x).1.map U), fun v w => ∃ A c, v = .slice A k c ∧ w.ownsRow wr.heap.size 79 1 (.slice A k c) k ((playW N r x).2.map U), isV (.int .i64 0), fun v w => ∃ A c, v = .slice A on c ∧ w.ownsRow wr.heap.size 79 1 (.slice A on c) on ((playW N r x).1.map U), fun v w => ∃ A c, v = .slice A k c ∧ w.ownsRow wr.heap.size 79 1 (.slice A k c) k ((playW N r x).2.map U), isV (.int .i64 0)] (by kernel_rfl) rfl rfl (by kernel_rfl) (by kernel_rfl) ⟨isV_mono, isV_mono, isV_mono, isV_mono, isV_mono, isV_mono, fun v w w' ⟨A, c, B, d, e, h, k⟩ hx => ⟨A, c, B, d, e, own_ext h hx, own_ext k hx⟩, fun v w w' ⟨A, c, B, d, e, h, k⟩ hx => ⟨A, c, B, d, e, own_ext h hx, own_ext k hx⟩, fun v w w' ⟨A, c, e, h⟩ hx => ⟨A, c, e, own_ext h hx⟩, fun v w w' ⟨A, c, e, h⟩ hx => ⟨A, c, e, own_ext h hx⟩, isV_mono, fun v w w' ⟨A, c, e, h⟩ hx => ⟨A, c, e, own_ext h hx⟩, fun v w w' ⟨A, c, e, h⟩ hx => ⟨A, c, e, own_ext h hx⟩, isV_mono, trivial⟩ ?each ?rest
                    case each =>
                      refine .cons ?_ (.cons ?_ (.cons ?_ (.cons ?_ (.cons ?_ (.cons ?_ (.cons ?_ (.cons ?_ (.cons ?_ (.cons ?_ (.cons ?_ (.cons ?_ (.cons ?_ (.cons ?_ (.nil))))))))))))))
                      · intro fa fw hx hs hb
                        have s2 : fa.tmps[(2 : Nat)]? = some (.pointer (some ⟨w.heap.size, 0, none⟩)) := (hb 2 (by kernel_rfl)).trans (by rfl)
                        have c0 := hx.keeps _ _ B0.out
                        have c1 := hx.keeps _ _ B1.out
                        have c2 := hx.keeps _ _ B2.out
                        have c3 := hx.keeps _ _ B3.out
                        refine .inl ⟨wanted_free rfl, fun K hK => ?_⟩
                        clear hs hb hx
                        go_simp
                        exact hK _ _ rfl (Ext.refl _)
                      · intro fa fw hx hs hb
                        have s9 : fa.tmps[(9 : Nat)]? = some (.slice RB k pc) := (hb 9 (by kernel_rfl)).trans (by rfl)
                        refine .inl ⟨wanted_free rfl, fun K hK => ?_⟩
                        clear hs hb hx
                        go_simp
                        exact hK _ _ rfl (Ext.refl _)
                      · intro fa fw hx hs hb
                        have s1 : fa.tmps[(1 : Nat)]? = some (.slice (some ⟨b, off, none⟩) n c) := (hb 1 (by kernel_rfl)).trans (by rfl)
                        refine .inl ⟨wanted_free rfl, fun K hK => ?_⟩
                        clear hs hb hx
                        go_simp
                        exact hK _ _ rfl (Ext.refl _)
                      · intro fa fw hx hs hb
                        have s13 : fa.tmps[(13 : Nat)]? = some (.int .i64 q) := (hb 13 (by kernel_rfl)).trans (by rfl)
                        refine .inl ⟨wanted_free rfl, fun K hK => ?_⟩
                        clear hs hb hx
                        go_simp
                        exact hK _ _ rfl (Ext.refl _)
                      · intro fa fw hx hs hb
                        obtain ⟨_, s70, rfl⟩ := hs 2 70 (by kernel_rfl) (by kernel_rfl)
                        obtain ⟨_, s71, rfl⟩ := hs 3 71 (by kernel_rfl) (by kernel_rfl)
                        refine .inl ⟨wanted_free rfl, fun K hK => ?_⟩
                        clear hs hb hx
                        go_simp
                        exact hK _ _ rfl (Ext.refl _)
                      · intro fa fw hx hs hb
                        obtain ⟨_, s72, rfl⟩ := hs 4 72 (by kernel_rfl) (by kernel_rfl)
                        have c0 := hx.keeps _ _ CX.out
                        refine .inl ⟨wanted_free rfl, fun K hK => ?_⟩
                        clear hs hb hx
                        go_simp
                        exact hK _ _ rfl (Ext.refl _)
                      · intro fa fw hx hs hb
                        obtain ⟨_, s68, rfl⟩ := hs 0 68 (by kernel_rfl) (by kernel_rfl)
                        obtain ⟨_, s69, rfl⟩ := hs 1 69 (by kernel_rfl) (by kernel_rfl)
                        obtain ⟨_, s73, rfl⟩ := hs 5 73 (by kernel_rfl) (by kernel_rfl)
                        refine .inl ⟨wanted_free rfl, fun K hK => ?_⟩
                        clear hs hb
                        go_simp
                        refine (PS.out fw hx).mono ?_
                        rintro e w' ⟨vo, vn, rfl, h1, h2, xq⟩
                        obtain ⟨Aq, cq, rfl, -, -, -⟩ := own_sl h1
                        obtain ⟨Bq, dq, rfl, -, -, -⟩ := own_sl h2
                        exact hK _ _ ⟨Aq, cq, Bq, dq, rfl, own_base h1 hx.size, own_base h2 hx.size⟩ xq
                      · intro fa fw hx hs hb
                        obtain ⟨_, s74, A74, c74, B74, d74, rfl, q74, p74⟩ := hs 6 74 (by kernel_rfl) (by kernel_rfl)
                        refine .inl ⟨wanted_free rfl, fun K hK => ?_⟩
                        clear hs hb
                        go_simp
                        exact hK _ _ ⟨A74, c74, B74, d74, rfl, q74, p74⟩ (Ext.refl _)
                      · intro fa fw hx hs hb
                        obtain ⟨_, s67, A67, c67, B67, d67, rfl, q67, p67⟩ := hs 7 67 (by kernel_rfl) (by kernel_rfl)
                        refine .inl ⟨wanted_free rfl, fun K hK => ?_⟩
                        clear hs hb
                        go_simp
                        exact hK _ _ ⟨A67, c67, rfl, q67⟩ (Ext.refl _)
                      · intro fa fw hx hs hb
                        obtain ⟨_, s67, A67, c67, B67, d67, rfl, q67, p67⟩ := hs 7 67 (by kernel_rfl) (by kernel_rfl)
                        refine .inl ⟨wanted_free rfl, fun K hK => ?_⟩
                        clear hs hb
                        go_simp
                        exact hK _ _ ⟨B67, d67, rfl, p67⟩ (Ext.refl _)
                      · intro fa fw hx hs hb
                        obtain ⟨_, s67, A67, c67, B67, d67, rfl, q67, p67⟩ := hs 7 67 (by kernel_rfl) (by kernel_rfl)
                        refine .inl ⟨wanted_free rfl, fun K hK => ?_⟩
                        clear hs hb
                        go_simp
                        exact hK _ _ rfl (Ext.refl _)
                      · intro fa fw hx hs hb
                        obtain ⟨_, s75, A75, c75, rfl, q75⟩ := hs 8 75 (by kernel_rfl) (by kernel_rfl)
                        refine .inl ⟨wanted_free rfl, fun K hK => ?_⟩
                        clear hs hb
                        go_simp
                        exact hK _ _ ⟨A75, c75, rfl, q75⟩ (Ext.refl _)
                      · intro fa fw hx hs hb
                        obtain ⟨_, s76, A76, c76, rfl, q76⟩ := hs 9 76 (by kernel_rfl) (by kernel_rfl)
                        refine .inl ⟨wanted_free rfl, fun K hK => ?_⟩
                        clear hs hb
                        go_simp
                        exact hK _ _ ⟨A76, c76, rfl, q76⟩ (Ext.refl _)
                      · intro fa fw hx hs hb
                        obtain ⟨_, s77, rfl⟩ := hs 10 77 (by kernel_rfl) (by kernel_rfl)
                        refine .inl ⟨wanted_free rfl, fun K hK => ?_⟩
                        clear hs hb hx
                        go_simp
                        exact hK _ _ rfl (Ext.refl _)
                    case rest =>
                      intro w2' hxw2
                      rintro _ rfl
                      rintro _ rfl
                      rintro _ rfl
                      rintro _ rfl
                      rintro _ rfl
                      rintro _ rfl
                      rintro _ ⟨A74, c74, B74, d74, rfl, q74, p74⟩
                      rintro _ ⟨A67, c67, B67, d67, rfl, q67, p67⟩
                      rintro _ ⟨A75, c75, rfl, q75⟩
                      rintro _ ⟨A76, c76, rfl, q76⟩
                      rintro _ rfl
                      rintro _ ⟨A14, c14, rfl, q14⟩
                      rintro _ ⟨A15, c15, rfl, q15⟩
                      rintro _ rfl
                      simp only [putAll, List.take, Act.put, List.setIfInBounds_toArray, List.set_cons_zero, List.set_cons_succ]
                      refine wpAny_done (by kernel_rfl) ?_ _
                      have q1 := own_base q14 HE.out.size
                      have q2 := own_base q15 HE.out.size
                      have HRW2 := HRW.out.ext hxw2
                      have HXW2 := HE.out.trans hxw2
                      go_wp2_with (at_builtin; refine wpList_pushK rfl (.tmp 78) (.tmp 80) 53 48 rfl tab_words Try.underlying53 rfl (by omega) W.heap.size w2' HXW2.size _ out.length vs rfl HRW2.row [.slice A14 on c14] rfl rfl _ rfl rfl (by simp [Value.oneCell']) (by unfold maxLen; omega) (by omega) ?_; intro v5 w5 hown5 hg5)
                      go_roundw
                      case rel => exact ⟨q + 1, (playW N r x).2, out ++ [(playW N r x).1], vs ++ [.slice A14 on c14], by omega, by go_num, Below.grown HXW2 hg5 HXW2.size (fun b hb => (HRW2.row.lt b hb).1), q2.kept hg5 (own_types q2 HRW2.row (by decide)), HRW2.push (by decide) (by rw [HPL.out.1]; exact q1) hown5 hg5, HNX.out⟩
                      case measure => simp [intOf]; omega
                  · obtain rfl : q = n := by omega
                    have hrun : runW N (firstW N) rows = out := by have := hst; rw [← HROWS.out] at this; exact this.done
                    have HRUN := Lib.hid hrun; have HRW := Lib.hid hrows; have HE := Lib.hid hext
                    clear hrun hrows hext hreg hst hbx q0 q1 q2 q3
                    go_wp2
                    exact bodyPost_ret (v := Pr u12 (I 0)) (by simp [results, Try.results46, go_sem]) rfl ⟨_, vs, by rw [HRE.out], by rw [HRV.out, HRUN.out]; exact HRW.out.base_le HX.out.size, HX.out.trans HE.out⟩
  · have HRE : Hid (prunE N rows = (orderV N).2) := by unfold Hid prunE; rw [if_pos h0]
    have HRV : Hid (prunV N rows = []) := by unfold Hid prunV; rw [HRE.out, if_neg h0]
    have g : ((orderV N).2 != 0) = true := by simpa using h0
    generalize (orderV N).2 = E at *
    have HORD := Lib.hid hord
    clear hord h0 hgl hrl hol hrows hin
    go_enter Try.func46, Try.ntmps46
    go_wp2_with fail
    rw [← HW.out]
    refine HORD.out.mono ?_; rintro e w1 ⟨v1, rfl, -, x1⟩
    have X1 := Lib.hid x1
    clear x1 HORD
    go_wp2
    exact bodyPost_ret (v := Pr (.slice none 0 0) (I E)) (by simp [results, Try.results46, go_sem]) rfl ⟨_, [], by rw [HRE.out], by rw [HRV.out]; exact OwnRowsF.nil _ _ _ _ _, HX.out.trans X1.out⟩
end
end Go.Proofs.Ytjagbnaacfhokaa
/- net.Needs, and the reference's NeedsError, NeedsOf walked. -/
namespace Go.Proofs.Ytjagbnaacfhokaa
set_option linter.unusedVariables false
set_option linter.unusedSimpArgs false
open Go.RowKit

def needsE (N : NetM) (l : List Int) : Int := if checkN N ≠ 0 then checkN N else if l.any (badPlace N.gates.length) then 3 else 0
theorem needsE_ok {N : NetM} {l : List Int} (h : needsE N l = 0) : checkN N = 0 ∧ inR N.gates.length l := by
  unfold needsE at h
  by_cases h0 : checkN N = 0
  · rw [if_neg (by simp [h0])] at h
    refine ⟨h0, fun k hk => ?_⟩
    cases hb : l.any (badPlace N.gates.length) with
    | true => rw [hb] at h; simp at h
    | false => have := List.any_eq_false.1 hb k hk; simp [badPlace] at this; omega
  · rw [if_pos h0] at h; exact absurd h h0
theorem inR_any {n : Nat} {l : List Int} (h : inR n l) : l.any (badPlace n) = false := List.any_eq_false.2 fun k hk => by have := h k hk; simp [badPlace]; omega

section
variable (i : Int) (GA : Option Addr) (gn gc : Nat) (RA : Option Addr) (rn rc : Nat) (OA : Option Addr) (on oc : Nat) (N : NetM) (A : Option Addr) (n c : Nat) (l : List Int) (w : World)

theorem netNeeds_err (h : NetC w i GA gn gc RA rn rc OA on oc N) (hs : Sl w A n (l.map I)) (hn : n ≤ maxLen) (e : Int) (he : needsE N l = e) (h0 : (e != 0) = true) :
    Calls Try.prog 26 #[netV i GA gn gc RA rn rc OA on oc, .slice A n c] w fun e' w' => e' = .returned (Pr (.slice none 0 0) (I e)) ∧ Ext w w' := by
  have hgl : N.gates.length = gn := h.gates.1
  have hgm : gn ≤ maxLen := Nat.le_trans h.gl.1 h.gl.2
  unfold needsE at he
  obtain ⟨W, hW⟩ : ∃ W, W = w.alloc (.cells #[I i, .slice GA gn gc, .slice RA rn rc, .slice OA on oc] 26) := ⟨_, rfl⟩
  have hxW : Ext w W := by rw [hW]; exact (Ext.refl _).alloc _
  have HBox : Hid (NetBox W w.heap.size i GA gn gc RA rn rc OA on oc) := by unfold Hid; rw [hW]; exact NetBox.new w i GA gn gc RA rn rc OA on oc _
  have HN := Lib.hid (h.keep hxW.keeps); have HS := Lib.hid (hs.keep hxW.keeps)
  have HW := Lib.hid hW; clear hW h hs
  by_cases hc : checkN N = 0
  · rw [if_neg (by simp [hc]), hgl] at he
    have hb : l.any (badPlace gn) = true := by
      cases hb : l.any (badPlace gn) with
      | true => rfl
      | false => rw [hb] at he; simp at he; subst he; cases h0
    rw [hb] at he
    have he3 : e = 3 := by simpa using he.symm
    subst he3
    have HC := Lib.hid hc; have HB := Lib.hid hb; clear hc hb he h0
    go_enter Try.func26, Try.ntmps26
    go_wp2_with fail
    rw [← HW.out]
    refine (netCheck_any i GA gn gc RA rn rc OA on oc N W HN.out).mono ?_; rintro e' w1 ⟨rfl, h1⟩; rw [HC.out]
    go_wp2_with fail
    refine (containsFunc_any A n c l _ _ _ w1 (HS.out.keep h1.keeps) hn (asks_needs1 w.heap.size i GA gn gc RA rn rc OA on oc w1 (HBox.out.keep h1.keeps) hgm)).mono ?_; rintro e' w' ⟨rfl, rfl⟩; rw [HB.out]
    go_wp2
    go_ret2
    exact ⟨rfl, hxW.trans h1⟩
  · rw [if_pos hc] at he
    have HE := Lib.hid he; clear he hc
    go_enter Try.func26, Try.ntmps26
    go_wp2_with fail
    rw [← HW.out]
    refine (netCheck_any i GA gn gc RA rn rc OA on oc N W HN.out).mono ?_; rintro e' w1 ⟨rfl, h1⟩; rw [HE.out]
    go_wp2
    go_ret2
    exact ⟨rfl, hxW.trans h1⟩

theorem netNeeds_ok (h : NetC w i GA gn gc RA rn rc OA on oc N) (hs : Sl w A n (l.map I)) (hn : n * 8 ≤ 140737488355328) (he : needsE N l = 0) :
    Calls Try.prog 26 #[netV i GA gn gc RA rn rc OA on oc, .slice A n c] w fun e' w' => ∃ v, e' = .returned (Pr v (I 0)) ∧ w'.ownsRow w.heap.size 4 1 v gn ((needsM N.gates l).map Bv) ∧ Ext w w' := by
  have hgl : N.gates.length = gn := h.gates.1
  have hgm : gn ≤ maxLen := Nat.le_trans h.gl.1 h.gl.2
  obtain ⟨hc, hr⟩ := needsE_ok he
  have ok := checkN_ok hc
  have hb := inR_any hr
  rw [hgl] at hb
  obtain ⟨W, hW⟩ : ∃ W, W = w.alloc (.cells #[I i, .slice GA gn gc, .slice RA rn rc, .slice OA on oc] 26) := ⟨_, rfl⟩
  have hxW : Ext w W := by rw [hW]; exact (Ext.refl _).alloc _
  have hbox : NetBox W w.heap.size i GA gn gc RA rn rc OA on oc := by rw [hW]; exact NetBox.new w i GA gn gc RA rn rc OA on oc _
  have HBox := Lib.hid hbox
  have HN := Lib.hid (h.keep hxW.keeps); have HS := Lib.hid (hs.keep hxW.keeps)
  have HW := Lib.hid hW; have HC := Lib.hid hc; have HB := Lib.hid hb; have HR := Lib.hid hr; have HOK := Lib.hid ok
  clear hW h hs hc hb hr ok he hgl hbox
  go_enter Try.func26, Try.ntmps26
  go_wp2_with fail
  rw [← HW.out]
  refine (netCheck_any i GA gn gc RA rn rc OA on oc N W HN.out).mono ?_; rintro e' w1 ⟨rfl, h1⟩; rw [HC.out]
  obtain ⟨q0, q1, q2, q3⟩ := HBox.out.keep h1.keeps
  go_wp2_with fail
  refine (containsFunc_any A n c l _ _ _ w1 (HS.out.keep h1.keeps) (by unfold maxLen; omega) (asks_needs1 w.heap.size i GA gn gc RA rn rc OA on oc w1 (HBox.out.keep h1.keeps) hgm)).mono ?_; rintro e' w' ⟨rfl, rfl⟩; rw [HB.out]
  go_wp2_with fail
  refine (needed_any i GA gn gc RA rn rc OA on oc N A n c l w1 (HN.out.keep h1.keeps) (HS.out.keep h1.keeps) HOK.out HR.out hn).mono ?_; rintro e' w2 ⟨v, rfl, hown, h2⟩
  have HO := Lib.hid hown; clear hown
  go_wp2
  go_ret2
  exact ⟨_, rfl, own_base HO.out (hxW.trans h1).size, (hxW.trans h1).trans h2⟩

end
end Go.Proofs.Ytjagbnaacfhokaa
