/-
  skerrylaw16.WeakGone: whatever steps, the law returns true and turns nothing that was there.
  Conditions: the slice of steps can be read.
-/
import Derived.Test.YtinpkimflcmkgaaWg4
import Derived.Deep.Cut
import Derived.Deep.CutRange
import Derived.Deep.CutBlock
import Derived.Deep.DeepCutAuto
namespace Go.Proofs.Ytinpkimflcmkgaa
open Go Go.RowKit

def GonePost (w : World) (e : Ending) (w' : World) : Prop := e = .returned (.bool true) ∧ Turn [] w [] w'

set_option maxRecDepth 100000 in
set_option maxHeartbeats 3200000 in
theorem gone_any (w : World) (x : Nat) (hx : x < 256) {a : Option Addr} {n c : Nat} {L : List WStep} (h : WStepsAt w a n L) :
    Calls Try.prog 5 #[.int .u8 x, .slice a n c] w (GonePost w) := by
  have hn := h.few
  have hm : x % 20 ≤ 4096 := by omega
  have hmx : (x : Int).tmod 20 = ((x % 20 : Nat) : Int) := rfl
  generalize hM : x % 20 = M at *
  clear hM
  go_enter Try.func5, Try.ntmps5
  go_wp2_with fail
  refine (long16_any w h).mono ?_
  rintro e w1 ⟨r, rfl, rfl, hr⟩
  cases r with
  | true =>
    go_wp2_with fail
    refine (alive16 w (Has.nil w)).mono ?_
    rintro e w1 ⟨rfl, T1⟩
    go_wp2
    go_ret
    exact ⟨rfl, T1⟩
  | false =>
    obtain ⟨h1, h2⟩ := hr rfl
    have H2 := Lib.hid h2
    clear h2 hr
    go_wp2_with fail
    refine (wNew_any w M hm (Has.nil w)).mono ?_
    rintro e w1 ⟨b, l0, rfl, hS0, T0⟩
    have hR0 : Round b M 0 (List.replicate M zeroSlot) [] [] none none 0 0 l0 [] [] w w1 := by
      refine ⟨hS0, Loose.nil M, by simp, Nat.le_refl _, fun s hs => ?_, Row.nil _ _, Row.nil _ _, T0⟩
      rw [List.eq_of_mem_replicate hs]
      exact Nat.le_refl _
    have HR0 := Lib.hid hR0
    clear hR0 hS0 T0
    go_wp2_with fail
    go_loopw [7, 8, 9] (fun v7 v8 i wr => ∃ (k : Nat) (S : List Slot) (G : List Handle) (st : List Nat) (a7 a8 : Option Addr) (p7 p8 : Nat) (l l7 l8 : List Blk), k ≤ n ∧ i = .int .i64 k ∧ v7 = .slice a7 G.length p7 ∧ v8 = .slice a8 G.length p8 ∧ Clean S G st ∧ Round b M k S G st a7 a8 p7 p8 l l7 l8 w wr) (fun _ _ i _ => n - (intOf i).toNat)
    case atStart => exact ⟨0, _, [], [], none, none, 0, 0, l0, [], [], Nat.zero_le _, rfl, rfl, rfl, fun j hj => absurd hj (Nat.not_lt_zero _), HR0.out⟩
    case round =>
      clear HR0
      obtain ⟨k, S, G, st, a7, a8, p7, p8, l, l7, l8, hk, rfl, rfl, rfl, hC, hR⟩ := hrel
      by_cases hlt : k < n
      · have hlt' : (k : Int) < (n : Int) := by omega
        have HR := Lib.hid hR
        have HC := Lib.hid hC
        obtain ⟨bs, off, s, rfl, hs, ⟨c0, c1, c2, c3, c4⟩, hbs⟩ := h.cells (hR.turn) k hlt
        have Hst := Lib.hid ((h.cells (Turn.refl (Has.nil w)) k hlt).elim fun b2 h3 => h3.elim fun o2 h4 => h4.elim fun s2 h5 => (show WStepCells w bs (off + k * 5) s from by obtain ⟨h6, h7, h8, h9⟩ := h5; cases h6; rw [hs] at h7; cases h7; exact h8))
        clear hR hC
        go_upto_region 12 with fail
        go_cut [52] (fun v wc => wr = wc ∧ v = .bool (decide (0 ≤ s.k) && decide (0 < G.length)))
        case first =>
          as_aux_lemma =>
          by_cases h3 : 0 ≤ s.k
          · by_cases h4 : 0 < G.length
            · have h4' : 0 < (G.length : Int) := by omega
              go_wp2
              go_meet
              case rel => exact ⟨rfl, by rw [decide_eq_true h3, decide_eq_true h4]; rfl⟩
            · have h4' : ¬ 0 < (G.length : Int) := by omega
              go_wp2
              go_meet
              case rel => exact ⟨rfl, by rw [decide_eq_false h4, Bool.and_false]⟩
          · go_wp2
            go_meet
            case rel => exact ⟨rfl, by rw [decide_eq_false (show ¬ 0 ≤ s.k by omega), Bool.false_and]⟩
        case rest =>
          obtain ⟨rfl, rfl⟩ := hcut
          go_upto_if 52 with fail
          go_cut [10] (fun v wc => wr = wc ∧ ∃ kk, v = .int .i64 kk ∧ (kk = -1 ∨ ∃ q : Nat, kk = q ∧ q < G.length))
          case first =>
            as_aux_lemma =>
            by_cases hB : 0 ≤ s.k ∧ 0 < G.length
            · obtain ⟨h3, h4⟩ := hB
              obtain ⟨sk, hsk⟩ : ∃ sk : Nat, s.k = sk := ⟨s.k.toNat, by omega⟩
              have h5 : (sk : Int).tmod (G.length : Int) = ((sk % G.length : Nat) : Int) := rfl
              have h6 := Nat.mod_lt sk h4
              rw [hsk] at c1
              rw [decide_eq_true h3, decide_eq_true h4]
              have hnz : ¬ (G.length : Int) = 0 := by omega
              go_wp2
              go_meet
              case rel => exact ⟨rfl, _, rfl, .inr ⟨_, h5, h6⟩⟩
            · have hB' : (decide (0 ≤ s.k) && decide (0 < G.length)) = false := by
                rw [Bool.eq_false_iff]
                intro h
                rw [Bool.and_eq_true, decide_eq_true_iff, decide_eq_true_iff] at h
                exact hB h
              rw [hB']
              go_wp2
              go_meet
              case rel => exact ⟨rfl, _, rfl, .inl rfl⟩
          case rest =>
            obtain ⟨rfl, kk, rfl, hkk⟩ := hcut
            go_upto_block 2 with fail
            go_cut [7, 8, 11] (fun v7 v8 v11 wc => AfterDo b M (k + 1) w v7 v8 v11 wc)
            case first =>
              have hsame : AfterDo b M (k + 1) w (.slice a7 G.length p7) (.slice a8 G.length p8) (.int .i64 0) wr := by
                have hr := HR.out
                exact ⟨S, G, st, a7, a8, p7, p8, l, l7, l8, rfl, rfl, by rw [stale_zero HC.out]; rfl, ⟨hr.table, hr.loose, hr.size, Nat.le_succ_of_le hr.few, fun s hs => Nat.le_succ_of_le (hr.given s hs), hr.row7, hr.row8, hr.turn⟩⟩
              have Hsame := Lib.hid hsame
              clear hsame
              by_cases ha : s.act = 0
              · rw [ha] at c0
                have hfew := HR.out.few
                go_wp2_with fail
                refine (add_law HR.out.loose HC.out HR.out.given (by omega) wr HR.out.table HR.out.turn.has s.addr).mono ?_
                rintro e w2 ⟨v, f, S', l', rfl, hS', hlen, hgv, T, ⟨rfl, i, g, rfl, hL, hC'⟩ | ⟨hf, hL, hC'⟩⟩
                · have V := HR.out.turn.trans T
                  have h63 : G.length + 1 ≤ maxLen := by unfold maxLen; omega
                  have hby : (G.length + 1) * 8 ≤ 140737488355328 := by omega
                  have HH := Lib.hid (show S'.length = M ∧ Loose S' (G ++ [(i, g)]) (st ++ [0]) ∧ (∀ s ∈ S', s.given ≤ k + 1) ∧ Clean S' (G ++ [(i, g)]) (st ++ [0]) from ⟨hlen.trans HR.out.size, hL, hgv, hC'⟩)
                  clear T hL hgv hC' hlen
                  go_wp2_with (first
                    | (at_builtin; refine wpList_append_row rfl _ _ rfl el_weakrow rfl HR.out.row7 (V.alloc _ |>.perm (l2 := l7 ++ ((w2.heap.size, .cells #[.int .u64 (wh i g)] 60) :: (l' ++ l8))) (perm_of fun c => by simp; omega)).has rfl (news := [.int .u64 (wh i g)]) rfl (news_of (heap_alloc_new _ _)) (by simp [Value.oneCell']) h63 hby ?_; intro a7' p7' l7' w3 hr7 T7 hno7; have V2 := ((V.alloc _ |>.perm (l2 := l7 ++ ((w2.heap.size, .cells #[.int .u64 (wh i g)] 60) :: (l' ++ l8))) (perm_of fun c => by simp; omega)).trans T7).perm (l2 := (w2.heap.size, .cells #[.int .u64 (wh i g)] 60) :: (l' ++ (l7' ++ l8))) (perm_of fun c => by simp; omega) |>.tail)
                    | (at_builtin; refine wpList_append_row rfl _ _ rfl el_wint rfl HR.out.row8 (V2.alloc _ |>.perm (l2 := l8 ++ ((w3.heap.size, .cells #[.int .i64 0] 3) :: (l' ++ l7'))) (perm_of fun c => by simp; omega)).has rfl (news := [.int .i64 0]) rfl (news_of (heap_alloc_new _ _)) (by simp [Value.oneCell']) h63 hby ?_; intro a8' p8' l8' w4 hr8 T8 hno8; have V3 := ((V2.alloc _ |>.perm (l2 := l8 ++ ((w3.heap.size, .cells #[.int .i64 0] 3) :: (l' ++ l7'))) (perm_of fun c => by simp; omega)).trans T8).perm (l2 := (w3.heap.size, .cells #[.int .i64 0] 3) :: (l' ++ (l7' ++ l8'))) (perm_of fun c => by simp; omega) |>.tail)
                    | fail)
                  go_meet
                  case rel =>
                    obtain ⟨q1, q2, q3, q4⟩ := HH.out
                    have hlG : (G ++ [(i, g)]).length = G.length + 1 := by simp
                    refine ⟨S', G ++ [(i, g)], st ++ [0], a7', a8', p7', p8', l', l7', l8', by rw [hlG], by rw [hlG], by rw [stale_zero q4]; rfl, ⟨hS', q2, q1, by rw [hlG]; omega, q3, ?_, ?_, V3⟩⟩
                    · rw [hlG, hInts_snoc]; exact hr7
                    · rw [hlG, tInts_snoc]; exact hr8
                · go_wp2
                  go_meet
                  case rel =>
                    have hr := HR.out
                    exact ⟨S', G, st, a7, a8, p7, p8, l', l7, l8, rfl, rfl, by rw [stale_zero hC']; rfl, ⟨hS', hL, hlen.trans hr.size, Nat.le_succ_of_le hr.few, hgv, hr.row7, hr.row8, hr.turn.trans T⟩⟩
              · by_cases ha3 : s.act = 3
                · have hcl := cnt_le S
                  have hsz := HR.out.table.1.len
                  have hcw : ∀ (W : World) (l1 : List Blk), Turn [] w l1 W → W.cell? ⟨bs, off + k * 5, none⟩ = some (.int .i64 3) ∧ W.cell? ⟨bs, off + k * 5 + 1, none⟩ = some (.int .i64 s.k) ∧ W.cell? ⟨bs, off + k * 5 + 2, none⟩ = some (.int .u64 s.x) ∧ W.cell? ⟨bs, off + k * 5 + 3, none⟩ = some (.int .u64 s.addr) ∧ W.cell? ⟨bs, off + k * 5 + 4, none⟩ = some (.slice s.la s.ln s.lc) := by
                    intro W l1 T
                    obtain ⟨d0, d1, d2, d3, d4⟩ := Hst.out.turn hbs T
                    exact ⟨by rw [← ha3]; exact d0, d1, d2, d3, d4⟩
                  have hsrc : ∀ (W : World) (l1 : List Blk), Turn [] w l1 W → Src W s.la s.ln s.lc 1 (w64s s.ys) := fun W l1 T => (h.src k s hs).turn (T.perm (l2 := l1 ++ []) (perm_of fun c => by simp)) (Has.nil w)
                  have HW := Lib.hid hcw
                  have HSrc := Lib.hid hsrc
                  have hsn := H2.out k s hs
                  have hb4 : cnt S ≤ 4096 := by omega
                  rw [ha3] at c0
                  clear hcw hsrc hs hcl hsz
                  go_wp2_with fail
                  go_region_held3 (fun w' => w'.cell? ⟨bs, off + k * 5, none⟩ = some (.int .i64 3) ∧ w'.cell? ⟨bs, off + k * 5 + 1, none⟩ = some (.int .i64 s.k) ∧ w'.cell? ⟨bs, off + k * 5 + 2, none⟩ = some (.int .u64 s.x) ∧ w'.cell? ⟨bs, off + k * 5 + 3, none⟩ = some (.int .u64 s.addr) ∧ w'.cell? ⟨bs, off + k * 5 + 4, none⟩ = some (.slice s.la s.ln s.lc))
                    (first | go_keep | (go_split_ands; refine ⟨?_, ?_, ?_, ?_, ?_⟩; · exact d0; · exact d1; · exact d2; · exact d3; · exact d4))
                    (first
                      | (go_at_call 35; refine (wRefs_any _ HR.out.table HR.out.turn.drew.has).mono ?_; rintro e w1 ⟨ar, pr, lr, rfl, hrr, T1⟩; have V1 := HR.out.turn.drew.trans T1; obtain ⟨d0, d1, d2, d3, d4⟩ := HW.out _ _ V1)
                      | (go_at_call 34; refine (put16_any w1 V1.has (hrr.src V1.has) hb4 { s with act := 3 } (HSrc.out _ _ V1) hsn).mono ?_; rintro e w2 ⟨ys, ap, pp, lp, rfl, hrp, T2⟩; have V2 := (V1.trans T2).perm (l2 := l ++ (lp ++ (lr ++ (l7 ++ l8)))) (perm_of fun c => by simp; omega); obtain ⟨d0, d1, d2, d3, d4⟩ := HW.out _ _ V2)
                      | (go_at_call 33; refine (put_law HR.out.loose HC.out HR.out.given _ HR.out.table hrp V2.has).mono ?_; rintro e w3 ⟨c, f, S', l', rfl, hS', hlen, hgv, T3, hL, hf1, hf2⟩; have V3 := (V2.trans T3).perm (l2 := (lp ++ lr) ++ (l' ++ (l7 ++ l8))) (perm_of fun c => by simp; omega) |>.drop; obtain ⟨d0, d1, d2, d3, d4⟩ := HW.out _ _ V3))
                  have HV := Lib.hid (show Round b M (k + 1) S' G st a7 a8 p7 p8 l' l7 l8 w w3 from ⟨hS', hL, hlen.trans HR.out.size, Nat.le_succ_of_le HR.out.few, fun s hs => Nat.le_succ_of_le (hgv s hs), HR.out.row7, HR.out.row8, V3⟩)
                  by_cases hf : f = 0
                  · have Hc := Lib.hid (hf1 hf)
                    subst hf
                    clear hf1 hf2
                    go_wp2
                    go_meet
                    case rel => exact ⟨S', G, st, a7, a8, p7, p8, l', l7, l8, rfl, rfl, by rw [Hc.out], HV.out⟩
                  · have Hc := Lib.hid (hf2 hf)
                    clear hf1 hf2
                    go_wp2
                    go_meet
                    case rel => exact ⟨S', G, st, a7, a8, p7, p8, l', l7, l8, rfl, rfl, by rw [Hc.out]; rfl, HV.out⟩
                · by_cases ha2 : s.act = 2
                  · rw [ha2] at c0
                    rcases hkk with rfl | ⟨q, rfl, hq⟩
                    · go_wp2
                      go_meet
                      case rel => exact Hsame.out
                    · have hr := HR.out
                      obtain ⟨i, g, s1, t1, hG, hs1, ht1⟩ := hr.loose.at_ hq
                      have hr7 := hr.row7
                      have hr8 := hr.row8
                      have V := hr.turn
                      obtain ⟨g7, cur7, rfl, rfl, -, -⟩ := hr7.some_of (by omega)
                      obtain ⟨g8, cur8, rfl, rfl, -, -⟩ := hr8.some_of (by omega)
                      have V7 := V.perm (l2 := [(g7, .cells cur7 60)] ++ (l ++ [(g8, .cells cur8 3)])) (perm_of fun c => by simp; omega)
                      have hc7 := (hr7.cell V7.has q (by omega)).trans (hInts_at hG)
                      have hq0 : (0 : Int) ≤ (q : Int) := by omega
                      have hq' : (q : Int) < (G.length : Int) := by omega
                      have HG := Lib.hid hG
                      clear V V7 hs1 ht1 hG hr
                      go_wp2_with fail
                      refine (drop_any HR.out.loose HC.out wr HR.out.table HR.out.turn.has HG.out).mono ?_
                      rintro e w2 ⟨⟨v, rfl⟩, S', l', hlen, hgv, hS', hL, hC', T⟩
                      have V2 := (HR.out.turn.trans T).perm (l2 := [(g8, .cells cur8 3)] ++ (l' ++ [(g7, .cells cur7 60)])) (perm_of fun c => by simp; omega)
                      have hu : ∃ u, (tInts st)[q]? = some u := ⟨(tInts st)[q]'(by rw [tInts_length, ← HR.out.loose.len]; exact hq), List.getElem?_eq_getElem _⟩
                      obtain ⟨u, hu⟩ := hu
                      have hc8 := (hr8.cell V2.has q (by omega)).trans hu
                      have hf8 := hr8.free V2.has q
                      have HH := Lib.hid (show S'.length = M ∧ Loose S' G (st.set q 2) ∧ (∀ s ∈ S', s.given ≤ k + 1) ∧ Clean S' G (st.set q 2) from ⟨hlen.trans HR.out.size, hL, hgv _ fun s hs => Nat.le_succ_of_le (HR.out.given s hs), hC'⟩)
                      clear hlen hgv hL hC' T hu
                      go_wp2
                      go_meet
                      case rel =>
                        obtain ⟨q1, q2, q3, q4⟩ := HH.out
                        refine ⟨S', G, st.set q 2, _, _, p7, p8, l', [(g7, .cells cur7 60)], [(g8, .cells (cur8.setIfInBounds q (.int .i64 2)) 3)], rfl, rfl, by rw [stale_zero q4]; rfl, ⟨hS', q2, q1, Nat.le_succ_of_le HR.out.few, q3, hr7, ?_, (V2.setCell q (.int .i64 2)).perm (perm_of fun c => by simp; omega)⟩⟩
                        rw [tInts_set]
                        exact hr8.set q (.int .i64 2)
                  · go_wp2
                    all_goals go_meet
                    all_goals exact Hsame.out
            case rest =>
              as_aux_lemma =>
              clear HR HC Hst c0 c1 c2 c3 c4 hs hkk
              obtain ⟨S, G, st, a7, a8, p7, p8, l, l7, l8, rfl, rfl, rfl, hR⟩ := hcut
              have HT := Lib.hid (show WeaksIs b S l ∧ S.length = M ∧ G.length ≤ k + 1 ∧ (∀ s ∈ S, s.given ≤ k + 1) ∧ Row 60 1 a7 G.length p7 (w64s (hInts G)) l7 from ⟨hR.table, hR.size, hR.few, hR.given, hR.row7⟩)
              have HR1 := Lib.hid (show Row 3 1 a8 G.length p8 (tInts st) l8 ∧ Loose S G st ∧ Turn [] w (l ++ (l7 ++ l8)) wc from ⟨hR.row8, hR.loose, hR.turn⟩)
              clear hR
              go_wp2_with fail
              go_loopw [11, 16] (fun v11 j wr => ∃ (q : Nat) (st : List Nat) (l8 : List Blk), q ≤ G.length ∧ j = .int .i64 q ∧ v11 = .int .i64 (stale S G st) ∧ (∀ r, r < q → staleAt S G st r = false) ∧ Row 3 1 a8 G.length p8 (tInts st) l8 ∧ Loose S G st ∧ Turn [] w (l ++ (l7 ++ l8)) wr) (fun _ j _ => G.length - (intOf j).toNat)
              case atStart => exact ⟨0, st, l8, Nat.zero_le _, rfl, rfl, fun r hr => absurd hr (Nat.not_lt_zero _), HR1.out.1, HR1.out.2.1, HR1.out.2.2⟩
              case round =>
                clear HR1
                obtain ⟨q, st, l8, hq, rfl, rfl, hcl, hr8, hL, V⟩ := hrel
                obtain ⟨hS, hsz, hfew, hgv, hr7⟩ := HT.out
                have HCl := Lib.hid hcl
                clear hcl
                by_cases hlt2 : q < G.length
                · obtain ⟨i, g, s1, t, hG, hs1, ht⟩ := hL.at_ hlt2
                  obtain ⟨g7, cur7, rfl, rfl, -, -⟩ := hr7.some_of (by omega)
                  obtain ⟨g8, cur8, rfl, rfl, -, -⟩ := hr8.some_of (by omega)
                  have V7 := V.perm (l2 := [(g7, .cells cur7 60)] ++ (l ++ [(g8, .cells cur8 3)])) (perm_of fun c => by simp; omega)
                  have hc7 := (hr7.cell V7.has q (by omega)).trans (hInts_at hG)
                  have hlt2' : (q : Int) < (G.length : Int) := by omega
                  have hstale : stale S G st ≤ G.length := by unfold stale; exact Nat.le_trans (List.length_filter_le _ _) (by simp)
                  have hnb : stale S G st ≤ 201 := by omega
                  have hL2 := hL
                  have HL := Lib.hid hL2
                  have HV := Lib.hid V
                  have Hr8 := Lib.hid hr8
                  have hsnew : ∀ (W : World), Turn (l ++ ([(g7, .cells cur7 60)] ++ [(g8, .cells cur8 3)])) wr (l ++ ([(g7, .cells cur7 60)] ++ [(g8, .cells cur8 3)])) W → W.cell? ⟨g8, q, none⟩ = some (.int .i64 t) ∧ W.frozen? ⟨g8, q, none⟩ = false ∧ Turn [] w ((g8, .cells cur8 3) :: (l ++ [(g7, .cells cur7 60)])) W := by
                    intro W T
                    have V3 := ((HV.out.trans T).perm (l2 := [(g8, .cells cur8 3)] ++ (l ++ [(g7, .cells cur7 60)])) (perm_of fun c => by simp; omega))
                    exact ⟨(Hr8.out.cell V3.has q (by omega)).trans (tInts_at ht), Hr8.out.free V3.has q, V3⟩
                  have Hnew := Lib.hid hsnew
                  by_cases h2 : t = 2
                  · as_aux_lemma =>
                    subst h2
                    have hns : staleAt S G st q = false := by
                      rw [Bool.eq_false_iff]
                      intro hs
                      obtain ⟨h0, -⟩ := staleAt_iff.1 hs
                      rw [ht] at h0
                      cases h0
                    have Hns := Lib.hid hns
                    have Hg := Lib.hid (get_gone hL wr hS HV.out.has hG ht)
                    generalize hN : stale S G st = N at *
                    have HN := Lib.hid hN
                    clear V V7 hr8 hL hL2 hsnew hs1 ht hG hN hns
                    go_wp2_with fail
                    refine Hg.out.mono ?_
                    rintro e w3 ⟨rfl, T3⟩
                    obtain ⟨hc8, hf8, V3⟩ := Hnew.out _ T3
                    clear T3
                    go_wp2
                    go_roundw
                    case rel => exact ⟨q + 1, st, [(g8, .cells cur8 3)], by omega, by go_num, by rw [HN.out], fun r hr => (Nat.lt_succ_iff_lt_or_eq.1 hr).elim (HCl.out r) (fun h => h ▸ Hns.out), Hr8.out, HL.out, V3.perm (perm_of fun c => by simp; omega)⟩
                    case measure => simp [intOf]; omega
                  · have ht2 : t < 2 := by have := hL.states q t ht; omega
                    have hg0 := get_there hL wr hS HV.out.has hG hs1 ht ht2
                    by_cases h1 : s1.st = 1
                    · as_aux_lemma =>
                      have ht0 : t = 0 := by
                        have : t ≠ 1 := fun h => by
                          subst h
                          have := (hL.one q i g s1 hG hs1 ht).1
                          omega
                        omega
                      subst ht0
                      have hns : staleAt S G st q = false := by
                        rw [Bool.eq_false_iff]
                        intro hs
                        obtain ⟨-, i', g', s', h3, h4, h5⟩ := staleAt_iff.1 hs
                        rw [hG] at h3; cases h3
                        rw [hs1] at h4; cases h4
                        omega
                      have hne : s1.addr ≠ 0 := hL.full i s1 hs1 h1
                      have hneb : (s1.addr != 0) = true := by simpa using hne
                      rw [decide_eq_true h1] at hg0
                      have Hns := Lib.hid hns
                      have Hg := Lib.hid hg0
                      generalize hN : stale S G st = N at *
                      have HN := Lib.hid hN
                      clear V V7 hr8 hL hL2 hsnew hs1 ht hG hN hns hg0 h1 h2
                      go_wp2_with fail
                      refine Hg.out.mono ?_
                      rintro e w3 ⟨rfl, T3⟩
                      obtain ⟨hc8, hf8, V3⟩ := Hnew.out _ T3
                      clear T3
                      go_wp2
                      go_roundw
                      case rel => exact ⟨q + 1, st, [(g8, .cells cur8 3)], by omega, by go_num, by rw [HN.out], fun r hr => (Nat.lt_succ_iff_lt_or_eq.1 hr).elim (HCl.out r) (fun h => h ▸ Hns.out), Hr8.out, HL.out, V3.perm (perm_of fun c => by simp; omega)⟩
                      case measure => simp [intOf]; omega
                    · have hst2 : s1.st = 2 := by
                        have h3 := hL.three i s1 hs1
                        have h0 : s1.st ≠ 0 := by
                          by_cases h : t = 0
                          · subst h; exact (hL.zero q i g s1 hG hs1 ht).1
                          · have : t = 1 := by omega
                            subst this
                            rw [(hL.one q i g s1 hG hs1 ht).1]; omega
                        omega
                      have ha0 : s1.addr = 0 := hL.gone i s1 hs1 hst2
                      rw [decide_eq_false h1, ha0] at hg0
                      by_cases ht0 : t = 0
                      · as_aux_lemma =>
                        subst ht0
                        have hs : staleAt S G st q = true := staleAt_iff.2 ⟨ht, i, g, s1, hG, hs1, hst2⟩
                        obtain ⟨m1, m2, m3, m4⟩ := hL.mark hlt2 hs
                        have HM := Lib.hid (And.intro m1 (And.intro m3 m4))
                        have Hg := Lib.hid hg0
                        have hN1 : ((stale S G st : Nat) : Int) - 1 = ((stale S G (st.set q 1) : Nat) : Int) := by omega
                        have hN2 : 1 ≤ stale S G st := by omega
                        generalize hN : stale S G st = N at *
                        have HN1 := Lib.hid hN1
                        clear V V7 hr8 hL hL2 hsnew hs1 ht hG hN hg0 h1 h2 hs m1 m2 m3 m4 hst2 ha0 ht2 hN1
                        go_wp2_with fail
                        refine Hg.out.mono ?_
                        rintro e w3 ⟨rfl, T3⟩
                        obtain ⟨hc8, hf8, V3⟩ := Hnew.out _ T3
                        clear T3
                        go_wp2
                        go_roundw
                        case rel =>
                          refine ⟨q + 1, st.set q 1, [(g8, .cells (cur8.setIfInBounds q (.int .i64 1)) 3)], by omega, by go_num, by rw [← HN1.out], fun r hr => ?_, ?_, HM.out.1, (V3.setCell q (.int .i64 1)).perm (perm_of fun c => by simp; omega)⟩
                          · by_cases hrq : r = q
                            · subst hrq; exact HM.out.2.1
                            · rw [HM.out.2.2 r hrq]; exact HCl.out r (by omega)
                          · rw [tInts_set]; exact Hr8.out.set q (.int .i64 1)
                        case measure => simp [intOf]; omega
                      · as_aux_lemma =>
                        have ht1 : t = 1 := by omega
                        subst ht1
                        have hns : staleAt S G st q = false := by
                          rw [Bool.eq_false_iff]
                          intro hs
                          obtain ⟨h0, -⟩ := staleAt_iff.1 hs
                          rw [ht] at h0
                          cases h0
                        have Hns := Lib.hid hns
                        have Hg := Lib.hid hg0
                        generalize hN : stale S G st = N at *
                        have HN := Lib.hid hN
                        clear V V7 hr8 hL hL2 hsnew hs1 ht hG hN hns hg0 h1 h2 hst2 ha0 ht2
                        go_wp2_with fail
                        refine Hg.out.mono ?_
                        rintro e w3 ⟨rfl, T3⟩
                        obtain ⟨hc8, hf8, V3⟩ := Hnew.out _ T3
                        clear T3
                        go_wp2
                        go_roundw
                        case rel => exact ⟨q + 1, st, [(g8, .cells cur8 3)], by omega, by go_num, by rw [HN.out], fun r hr => (Nat.lt_succ_iff_lt_or_eq.1 hr).elim (HCl.out r) (fun h => h ▸ Hns.out), Hr8.out, HL.out, V3.perm (perm_of fun c => by simp; omega)⟩
                        case measure => simp [intOf]; omega
                · as_aux_lemma =>
                  have hqe : q = G.length := by omega
                  have hC2 : Clean S G st := fun j hj => HCl.out j (by omega)
                  have hlt2' : ¬ (q : Int) < (G.length : Int) := by omega
                  rw [stale_zero hC2]
                  have HH := Lib.hid (And.intro hC2 (And.intro hr8 (And.intro hL V)))
                  clear hC2 hr8 hL V hqe
                  go_wp2
                  go_roundw
                  case rel => exact ⟨k + 1, S, G, st, a7, a8, p7, p8, l, l7, l8, by omega, by go_num, rfl, rfl, HH.out.1, ⟨hS, HH.out.2.2.1, hsz, hfew, hgv, hr7, HH.out.2.1, HH.out.2.2.2⟩⟩
                  case measure => simp [intOf]; omega
      · have hlt' : ¬ (k : Int) < (n : Int) := by omega
        go_wp2_with fail
        have T := hR.turn
        refine (alive16 wr (Has.nil wr)).mono ?_
        rintro e w1 ⟨rfl, T1⟩
        go_wp2
        go_ret
        exact ⟨rfl, (T.sub (List.nil_sublist _)).trans T1⟩
end Go.Proofs.Ytinpkimflcmkgaa
