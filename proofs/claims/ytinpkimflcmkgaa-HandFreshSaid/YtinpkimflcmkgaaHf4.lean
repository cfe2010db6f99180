/-
  skerrylaw15.HandFresh: whatever steps, the law returns true and turns nothing that was there.
  Conditions: the slice of steps can be read.
-/
import Derived.Test.YtinpkimflcmkgaaHf3
import Derived.Deep.Cut
import Derived.Deep.CutRange
import Derived.Deep.CutBlock
import Derived.Deep.DeepCutAuto
namespace Go.Proofs.Ytinpkimflcmkgaa
open Go Go.RowKit

def FreshPost (w : World) (e : Ending) (w' : World) : Prop := e = .returned (.bool true) ∧ Turn [] w [] w'

set_option maxRecDepth 100000 in
set_option maxHeartbeats 3200000 in
theorem fresh_any (w : World) (x : Nat) (hx : x < 256) {a : Option Addr} {n c : Nat} {L : List HStep} (h : HStepsAt w a n L) :
    Calls Try.prog 3 #[.int .u8 x, .slice a n c] w (FreshPost w) := by
  have hn := h.few
  have hm : x % 20 ≤ 4096 := by omega
  have hmx : (x : Int).tmod 20 = ((x % 20 : Nat) : Int) := rfl
  generalize hM : x % 20 = M at *
  clear hM
  go_enter Try.func3, Try.ntmps3
  go_wp2_with fail
  refine (long15_any w h).mono ?_
  rintro e w1 ⟨r, rfl, rfl, hr⟩
  cases r with
  | true =>
    go_wp2_with fail
    refine (alive15 w (Has.nil w)).mono ?_
    rintro e w1 ⟨rfl, T1⟩
    go_wp2
    go_ret
    exact ⟨rfl, T1⟩
  | false =>
    obtain ⟨h1, h2⟩ := hr rfl
    clear h2 hr
    go_wp2_with fail
    refine (hNew_any w M hm (Has.nil w)).mono ?_
    rintro e w1 ⟨b, l0, rfl, hS0, T0⟩
    have hR0 : HRound b M 0 (List.replicate M zeroHSlot) [] [] none none 0 0 l0 [] [] w w1 := by
      refine ⟨hS0, Fresh.nil M, by simp, Nat.le_refl _, fun s hs => ?_, Row.nil _ _, Row.nil _ _, T0⟩
      rw [List.eq_of_mem_replicate hs]
      exact Nat.le_refl _
    have HR0 := Lib.hid hR0
    clear hR0 hS0 T0
    go_wp2_with fail
    go_loopw [7, 8, 9] (fun v7 v8 i wr => ∃ (k : Nat) (S : List HSlot) (G : List (Nat × Nat)) (A : List Int) (a7 a8 : Option Addr) (p7 p8 : Nat) (l l7 l8 : List Blk), k ≤ n ∧ i = .int .i64 k ∧ v7 = .slice a7 G.length p7 ∧ v8 = .slice a8 G.length p8 ∧ HRound b M k S G A a7 a8 p7 p8 l l7 l8 w wr) (fun _ _ i _ => n - (intOf i).toNat)
    case atStart => exact ⟨0, _, [], [], none, none, 0, 0, l0, [], [], Nat.zero_le _, rfl, rfl, rfl, HR0.out⟩
    case round =>
      clear HR0
      obtain ⟨k, S, G, A, a7, a8, p7, p8, l, l7, l8, hk, rfl, rfl, rfl, hR⟩ := hrel
      by_cases hlt : k < n
      · have hlt' : (k : Int) < (n : Int) := by omega
        have HR := Lib.hid hR
        obtain ⟨bs, off, s, rfl, hs, hcells, hbs⟩ := h.cells (hR.turn) k hlt
        obtain ⟨c0, c1, c2, c3, c4⟩ := hcells
        clear hR
        have Hst := Lib.hid ((h.cells (Turn.refl (Has.nil w)) k hlt).elim fun b2 h3 => h3.elim fun o2 h4 => h4.elim fun s2 h5 => (show HStepCells w bs (off + k * 5) s from by obtain ⟨h6, h7, h8, h9⟩ := h5; cases h6; rw [hs] at h7; cases h7; exact h8))
        clear hs
        go_upto_block 1 with fail
        go_cut [7, 8] (fun v7 v8 wc => HAfter b M (k + 1) w v7 v8 wc)
        case first =>
          go_upto_region 12 with fail
          go_cut [50] (fun v wc => wr = wc ∧ v = .bool (decide (0 ≤ s.k) && decide (0 < G.length)))
          case first =>
            by_cases h3 : 0 ≤ s.k
            · by_cases h4 : 0 < G.length
              · have h4' : 0 < (G.length : Int) := by omega
                go_wp2
                go_meet
                case rel => exact ⟨rfl, by rw [decide_eq_true h3, decide_eq_true h4]; rfl⟩
              · have h4' : ¬ 0 < (G.length : Int) := by omega
                go_wp2
                go_meet
                case rel => exact ⟨rfl, by rw [decide_eq_false h4, Bool.and_false]⟩
            · go_wp2
              go_meet
              case rel => exact ⟨rfl, by rw [decide_eq_false (show ¬ 0 ≤ s.k by omega), Bool.false_and]⟩
          case rest =>
            obtain ⟨rfl, rfl⟩ := hcut
            go_upto_if 50 with fail
            go_cut [10] (fun v wc => wr = wc ∧ ∃ kk, v = .int .i64 kk ∧ (kk = -1 ∨ ∃ q : Nat, kk = q ∧ q < G.length))
            case first =>
              by_cases hB : 0 ≤ s.k ∧ 0 < G.length
              · obtain ⟨h3, h4⟩ := hB
                obtain ⟨sk, hsk⟩ : ∃ sk : Nat, s.k = sk := ⟨s.k.toNat, by omega⟩
                have h5 : (sk : Int).tmod (G.length : Int) = ((sk % G.length : Nat) : Int) := rfl
                have h6 := Nat.mod_lt sk h4
                rw [hsk] at c1
                rw [decide_eq_true h3, decide_eq_true h4]
                have hnz : ¬ (G.length : Int) = 0 := by omega
                go_wp2
                go_meet
                case rel => exact ⟨rfl, _, rfl, .inr ⟨_, h5, h6⟩⟩
              · have hB' : (decide (0 ≤ s.k) && decide (0 < G.length)) = false := by
                  rw [Bool.eq_false_iff]
                  intro h
                  rw [Bool.and_eq_true, decide_eq_true_iff, decide_eq_true_iff] at h
                  exact hB h
                rw [hB']
                go_wp2
                go_meet
                case rel => exact ⟨rfl, _, rfl, .inl rfl⟩
            case rest =>
              obtain ⟨rfl, kk, rfl, hkk⟩ := hcut
              have hsame : HAfter b M (k + 1) w (.slice a7 G.length p7) (.slice a8 G.length p8) wr := by
                have hr := HR.out
                exact ⟨S, G, A, a7, a8, p7, p8, l, l7, l8, rfl, rfl, ⟨hr.table, hr.fresh, hr.size, Nat.le_succ_of_le hr.few, fun s hs => Nat.le_succ_of_le (hr.given s hs), hr.row7, hr.row8, hr.turn⟩⟩
              have Hsame := Lib.hid hsame
              clear hsame
              by_cases ha : s.act = 0
              · rw [ha] at c0
                have hfew := HR.out.few
                go_wp2_with fail
                refine (add_hand HR.out.fresh HR.out.given (by omega) wr HR.out.table HR.out.turn.has s.addr).mono ?_
                rintro e w2 ⟨v, f, S', l', rfl, hS', hlen, hgv, T, ⟨rfl, i, g, rfl, hF⟩ | ⟨hf, hF⟩⟩
                · have V := HR.out.turn.trans T
                  have h63 : G.length + 1 ≤ maxLen := by unfold maxLen; omega
                  have hby : (G.length + 1) * 8 ≤ 140737488355328 := by omega
                  have HH := Lib.hid (show S'.length = M ∧ Fresh S' (G ++ [(i, g)]) (A ++ [s.addr]) ∧ (∀ s ∈ S', s.given ≤ k + 1) from ⟨hlen.trans HR.out.size, hF, hgv⟩)
                  clear T hF hgv hlen
                  go_wp2_with (first
                    | (at_builtin; refine wpList_append_row rfl _ _ rfl el_hrow rfl HR.out.row7 (V.alloc _ |>.perm (l2 := l7 ++ ((w2.heap.size, .cells #[.int .u64 (wh i g)] 32) :: (l' ++ l8))) (perm_of fun c => by simp; omega)).has rfl (news := [.int .u64 (wh i g)]) rfl (news_of (heap_alloc_new _ _)) (by simp [Value.oneCell']) h63 hby ?_; intro a7' p7' l7' w3 hr7 T7 hno7; have V2 := ((V.alloc _ |>.perm (l2 := l7 ++ ((w2.heap.size, .cells #[.int .u64 (wh i g)] 32) :: (l' ++ l8))) (perm_of fun c => by simp; omega)).trans T7).perm (l2 := (w2.heap.size, .cells #[.int .u64 (wh i g)] 32) :: (l' ++ (l7' ++ l8))) (perm_of fun c => by simp; omega) |>.tail; have d3 := (Hst.out.turn hbs V2).c3)
                    | (at_builtin; refine wpList_append_row rfl _ _ rfl el_arow rfl HR.out.row8 (V2.alloc _ |>.perm (l2 := l8 ++ ((w3.heap.size, .cells #[.int .u64 s.addr] 31) :: (l' ++ l7'))) (perm_of fun c => by simp; omega)).has rfl (news := [.int .u64 s.addr]) rfl (news_of (heap_alloc_new _ _)) (by simp [Value.oneCell']) h63 hby ?_; intro a8' p8' l8' w4 hr8 T8 hno8; have V3 := ((V2.alloc _ |>.perm (l2 := l8 ++ ((w3.heap.size, .cells #[.int .u64 s.addr] 31) :: (l' ++ l7'))) (perm_of fun c => by simp; omega)).trans T8).perm (l2 := (w3.heap.size, .cells #[.int .u64 s.addr] 31) :: (l' ++ (l7' ++ l8'))) (perm_of fun c => by simp; omega) |>.tail)
                    | fail)
                  go_meet
                  case rel =>
                    obtain ⟨q1, q2, q3⟩ := HH.out
                    have hlG : (G ++ [(i, g)]).length = G.length + 1 := by simp
                    refine ⟨S', G ++ [(i, g)], A ++ [s.addr], a7', a8', p7', p8', l', l7', l8', by rw [hlG], by rw [hlG], ⟨hS', q2, q1, by rw [hlG]; omega, q3, ?_, ?_, V3⟩⟩
                    · rw [hlG, gInts_snoc]; exact hr7
                    · rw [hlG, u64s_snoc]; exact hr8
                · go_wp2
                  go_meet
                  case rel =>
                    have hr := HR.out
                    exact ⟨S', G, A, a7, a8, p7, p8, l', l7, l8, rfl, rfl, ⟨hS', hF, hlen.trans hr.size, Nat.le_succ_of_le hr.few, hgv, hr.row7, hr.row8, hr.turn.trans T⟩⟩
              · rcases hkk with rfl | ⟨q, rfl, hq⟩
                · by_cases ha2 : s.act = 2
                  · rw [ha2] at c0
                    go_wp2
                    go_meet
                    case rel => exact Hsame.out
                  · by_cases ha3 : s.act = 3
                    · rw [ha3] at c0
                      go_wp2
                      go_meet
                      case rel => exact Hsame.out
                    · go_wp2
                      all_goals go_meet
                      all_goals exact Hsame.out
                · have hr := HR.out
                  obtain ⟨⟨i, g⟩, a, hG, hA, hE⟩ := hr.fresh.at_ hq
                  have hr7 := hr.row7
                  have hr8 := hr.row8
                  obtain ⟨g7, cur7, rfl, rfl, -, -⟩ := hr7.some_of (by omega)
                  obtain ⟨g8, cur8, rfl, rfl, -, -⟩ := hr8.some_of (by omega)
                  have hrd : ∀ (W : World) (X : List Blk), Turn [] w (X ++ [(g7, .cells cur7 32), (g8, .cells cur8 31)]) W → W.cell? ⟨g7, q, none⟩ = some (.int .u64 (wh i g)) ∧ W.cell? ⟨g8, q, none⟩ = some (.int .u64 a) ∧ W.frozen? ⟨g8, q, none⟩ = false ∧ W.cell? ⟨bs, off + k * 5 + 3, none⟩ = some (.int .u64 s.addr) := by
                    intro W X V
                    have V7 := V.perm (l2 := [(g7, .cells cur7 32)] ++ (X ++ [(g8, .cells cur8 31)])) (perm_of fun c => by simp; omega)
                    have V8 := V.perm (l2 := [(g8, .cells cur8 31)] ++ (X ++ [(g7, .cells cur7 32)])) (perm_of fun c => by simp; omega)
                    exact ⟨(hr7.cell V7.has q (by omega)).trans (gInts_at hG), (hr8.cell V8.has q (by omega)).trans (u64s_at _ _ _ hA), hr8.free V8.has q, (Hst.out.turn hbs V).c3⟩
                  have Hrd := Lib.hid hrd
                  obtain ⟨r7, r8, r9, r3⟩ := hrd _ _ hr.turn
                  have hq0 : (0 : Int) ≤ (q : Int) := by omega
                  have hq' : (q : Int) < (G.length : Int) := by omega
                  have HG := Lib.hid hG
                  have HA := Lib.hid hA
                  have Hr7 := Lib.hid hr7
                  have Hr8 := Lib.hid hr8
                  clear hr hrd hr7 hr8 hG hA hE
                  by_cases ha2 : s.act = 2
                  · rw [ha2] at c0
                    go_wp2_with fail
                    go_region_held3 (fun w' => w'.cell? ⟨g7, q, none⟩ = some (.int .u64 (wh i g)) ∧ w'.cell? ⟨bs, off + k * 5 + 3, none⟩ = some (.int .u64 s.addr))
                      (first | go_keep | (go_split_ands; refine ⟨?_, ?_⟩; · exact d7; · exact d3))
                      (first | (go_at_call 15; refine (set_hand HR.out.fresh HR.out.given _ HR.out.table HR.out.turn.drew.has HG.out s.addr).mono ?_; rintro e w2 ⟨f, S', A', l', rfl, hf, hS', hlen, hgv, hF, T⟩; have V2 := HR.out.turn.drew.trans T; obtain ⟨d7, d8, d9, d3⟩ := Hrd.out _ _ V2))
                    rcases hf with ⟨rfl, rfl⟩ | ⟨hf, rfl⟩
                    · have HH := Lib.hid (show S'.length = M ∧ Fresh S' G (A.set q s.addr) ∧ (∀ s ∈ S', s.given ≤ k + 1) from ⟨hlen.trans HR.out.size, hF, fun s hs => Nat.le_succ_of_le (hgv s hs)⟩)
                      clear T hF hgv hlen
                      go_wp2
                      go_meet
                      case rel =>
                        obtain ⟨q1, q2, q3⟩ := HH.out
                        have V3 := V2.perm (l2 := (g8, .cells cur8 31) :: (l' ++ [(g7, .cells cur7 32)])) (perm_of fun c => by simp; omega)
                        refine ⟨S', G, A.set q s.addr, _, _, p7, p8, l', [(g7, .cells cur7 32)], [(g8, .cells (cur8.setIfInBounds q (.int .u64 s.addr)) 31)], rfl, rfl, ⟨hS', q2, q1, Nat.le_succ_of_le HR.out.few, q3, Hr7.out, ?_, (V3.setCell q (.int .u64 s.addr)).perm (perm_of fun c => by simp; omega)⟩⟩
                        rw [u64s_setl]
                        exact Hr8.out.set q (.int .u64 s.addr)
                    · have HH := Lib.hid (show S'.length = M ∧ Fresh S' G A' ∧ (∀ s ∈ S', s.given ≤ k + 1) from ⟨hlen.trans HR.out.size, hF, fun s hs => Nat.le_succ_of_le (hgv s hs)⟩)
                      clear T hF hgv hlen
                      go_wp2
                      go_meet
                      case rel =>
                        obtain ⟨q1, q2, q3⟩ := HH.out
                        exact ⟨S', G, A', _, _, p7, p8, l', [(g7, .cells cur7 32)], [(g8, .cells cur8 31)], rfl, rfl, ⟨hS', q2, q1, Nat.le_succ_of_le HR.out.few, q3, Hr7.out, Hr8.out, V2⟩⟩
                  · by_cases ha3 : s.act = 3
                    · rw [ha3] at c0
                      go_wp2_with fail
                      have herr : errOf a = 0 ∧ (a != 0) = true ∨ errOf a = 3 ∧ (a != 0) = false := by
                        by_cases h0 : a = 0
                        · exact .inr ⟨by rw [h0]; rfl, by simp [h0]⟩
                        · exact .inl ⟨if_neg h0, by simpa using h0⟩
                      rcases herr with ⟨herr, hab⟩ | ⟨herr, hab⟩
                      · have HErr := Lib.hid herr
                        clear herr
                        go_region_held3 (fun w' => w'.cell? ⟨g7, q, none⟩ = some (.int .u64 (wh i g)) ∧ w'.cell? ⟨g8, q, none⟩ = some (.int .u64 a))
                          (first | go_keep | (go_split_ands; refine ⟨?_, ?_⟩; · exact d7; · exact d8))
                          (first | (go_at_call 16; refine (drop_hand HR.out.fresh HR.out.given _ HR.out.table HR.out.turn.drew.has HG.out HA.out).mono ?_; rintro e w2 ⟨S', l', he, hS', hlen, hgv, hF, T⟩; rw [HErr.out] at he; subst he; have V2 := HR.out.turn.drew.trans T; obtain ⟨d7, d8, d9, d3⟩ := Hrd.out _ _ V2))
                        have HH := Lib.hid (show S'.length = M ∧ Fresh S' G (A.set q 0) ∧ (∀ s ∈ S', s.given ≤ k + 1) from ⟨hlen.trans HR.out.size, hF, fun s hs => Nat.le_succ_of_le (hgv s hs)⟩)
                        clear T hF hgv hlen
                        go_wp2
                        go_meet
                        case rel =>
                          obtain ⟨q1, q2, q3⟩ := HH.out
                          have V3 := V2.perm (l2 := (g8, .cells cur8 31) :: (l' ++ [(g7, .cells cur7 32)])) (perm_of fun c => by simp; omega)
                          refine ⟨S', G, A.set q 0, _, _, p7, p8, l', [(g7, .cells cur7 32)], [(g8, .cells (cur8.setIfInBounds q (.int .u64 0)) 31)], rfl, rfl, ⟨hS', q2, q1, Nat.le_succ_of_le HR.out.few, q3, Hr7.out, ?_, (V3.setCell q (.int .u64 0)).perm (perm_of fun c => by simp; omega)⟩⟩
                          rw [u64s_setl]
                          exact Hr8.out.set q (.int .u64 0)
                      · have HErr := Lib.hid herr
                        clear herr
                        go_region_held3 (fun w' => w'.cell? ⟨g7, q, none⟩ = some (.int .u64 (wh i g)) ∧ w'.cell? ⟨g8, q, none⟩ = some (.int .u64 a))
                          (first | go_keep | (go_split_ands; refine ⟨?_, ?_⟩; · exact d7; · exact d8))
                          (first | (go_at_call 16; refine (drop_hand HR.out.fresh HR.out.given _ HR.out.table HR.out.turn.drew.has HG.out HA.out).mono ?_; rintro e w2 ⟨S', l', he, hS', hlen, hgv, hF, T⟩; rw [HErr.out] at he; subst he; have V2 := HR.out.turn.drew.trans T; obtain ⟨d7, d8, d9, d3⟩ := Hrd.out _ _ V2))
                        have HH := Lib.hid (show S'.length = M ∧ Fresh S' G (A.set q 0) ∧ (∀ s ∈ S', s.given ≤ k + 1) from ⟨hlen.trans HR.out.size, hF, fun s hs => Nat.le_succ_of_le (hgv s hs)⟩)
                        clear T hF hgv hlen
                        go_wp2
                        go_meet
                        case rel =>
                          obtain ⟨q1, q2, q3⟩ := HH.out
                          have V3 := V2.perm (l2 := (g8, .cells cur8 31) :: (l' ++ [(g7, .cells cur7 32)])) (perm_of fun c => by simp; omega)
                          refine ⟨S', G, A.set q 0, _, _, p7, p8, l', [(g7, .cells cur7 32)], [(g8, .cells (cur8.setIfInBounds q (.int .u64 0)) 31)], rfl, rfl, ⟨hS', q2, q1, Nat.le_succ_of_le HR.out.few, q3, Hr7.out, ?_, (V3.setCell q (.int .u64 0)).perm (perm_of fun c => by simp; omega)⟩⟩
                          rw [u64s_setl]
                          exact Hr8.out.set q (.int .u64 0)
                    · go_wp2
                      all_goals go_meet
                      all_goals exact Hsame.out
        case rest =>
          clear HR Hst c0 c1 c2 c3 c4
          obtain ⟨S, G, A, a7, a8, p7, p8, l, l7, l8, rfl, rfl, hR⟩ := hcut
          have HR2 := Lib.hid hR
          clear hR
          go_wp2
          go_roundw
          case rel => exact ⟨k + 1, S, G, A, a7, a8, p7, p8, l, l7, l8, by omega, by go_num, rfl, rfl, HR2.out⟩
          case measure => simp [intOf]; omega
      · have hlt' : ¬ (k : Int) < (n : Int) := by omega
        have HT := Lib.hid (show HandsIs b S l ∧ Fresh S G A ∧ Row 32 1 a7 G.length p7 (u64s (gInts G)) l7 ∧ Row 31 1 a8 G.length p8 (u64s A) l8 from ⟨hR.table, hR.fresh, hR.row7, hR.row8⟩)
        have HV := Lib.hid hR.turn
        have hfew := hR.few
        clear hR h
        go_wp2_with fail
        go_loopw [13, 14] (fun v13 v14 wr => ∃ q : Nat, q ≤ G.length ∧ v14 = .int .i64 q ∧ v13 = .int .i64 ((aliveOf A q).length : Nat) ∧ Turn [] w (l ++ (l7 ++ l8)) wr) (fun _ v14 _ => G.length - (intOf v14).toNat)
        case atStart => exact ⟨0, Nat.zero_le _, rfl, rfl, HV.out⟩
        case round =>
          clear HV
          obtain ⟨q, hq, rfl, rfl, V⟩ := hrel
          obtain ⟨hS, hF, hr7, hr8⟩ := HT.out
          have hal := aliveOf_le A q
          by_cases hlt2 : q < G.length
          · have hlt2' : (q : Int) < (G.length : Int) := by omega
            obtain ⟨⟨i, g⟩, a, hG, hA, hE⟩ := hF.at_ hlt2
            obtain ⟨g7, cur7, rfl, rfl, -, -⟩ := hr7.some_of (by omega)
            obtain ⟨g8, cur8, rfl, rfl, -, -⟩ := hr8.some_of (by omega)
            have hrd : ∀ (W : World), Turn [] w (l ++ ([(g7, .cells cur7 32)] ++ [(g8, .cells cur8 31)])) W → ∀ (j i g : Nat) (a : Int), G[j]? = some (i, g) → A[j]? = some a → W.cell? ⟨g7, j, none⟩ = some (.int .u64 (wh i g)) ∧ W.cell? ⟨g8, j, none⟩ = some (.int .u64 a) := by
              intro W V j i g a hG hA
              have hjl := (List.getElem?_eq_some_iff.1 hG).1
              have V7 := V.perm (l2 := [(g7, .cells cur7 32)] ++ (l ++ [(g8, .cells cur8 31)])) (perm_of fun c => by simp; omega)
              have V8 := V.perm (l2 := [(g8, .cells cur8 31)] ++ (l ++ [(g7, .cells cur7 32)])) (perm_of fun c => by simp; omega)
              exact ⟨(hr7.cell V7.has j (by omega)).trans (gInts_at hG), (hr8.cell V8.has j (by omega)).trans (u64s_at _ _ _ hA)⟩
            have hne : ∀ r, r < q → ∃ (i2 g2 : Nat) (a2 : Int), G[r]? = some (i2, g2) ∧ A[r]? = some a2 ∧ (wh i2 g2 == wh i g) = false := by
              intro r hr
              obtain ⟨⟨i2, g2⟩, a2, hG2, hA2, hE2⟩ := hF.at_ (show r < G.length by omega)
              refine ⟨i2, g2, a2, hG2, hA2, ?_⟩
              rw [beq_eq_false_iff_ne]
              intro he
              unfold wh at he
              have he' : g2 * 4294967296 + i2 = g * 4294967296 + i := by exact_mod_cast he
              obtain ⟨-, s1, h1, -⟩ := hE
              obtain ⟨-, s2, h2, -⟩ := hE2
              have hi1 : i < S.length := (List.getElem?_eq_some_iff.1 h1).1
              have hi2 : i2 < S.length := (List.getElem?_eq_some_iff.1 h2).1
              have hl := hS.1.len
              have h3 : i2 = i := by omega
              have h4 : g2 = g := by omega
              subst h3
              subst h4
              have := hF.nodup r q _ hG2 hG
              omega
            have hnz : (wh i g == 0) = false := by
              have h1 : 1 ≤ g := hE.1
              rw [beq_eq_false_iff_ne]
              unfold wh
              omega
            have hself : (a != a) = false := by simp
            have hget := get_hand wr hS V.has hE
            obtain ⟨r7, r8⟩ := hrd _ V q i g a hG hA
            have HG := Lib.hid hG
            have HA := Lib.hid hA
            have Hrd := Lib.hid hrd
            have Hne := Lib.hid hne
            have Hget := Lib.hid hget
            have HV2 := Lib.hid V
            clear hG hA hE hrd hne hget hF hr7 hr8 V hS
            have herr : errOf a = 0 ∧ (a != 0) = true ∧ (aliveOf A (q + 1)).length = (aliveOf A q).length + 1 ∨ errOf a = 3 ∧ (a != 0) = false ∧ (aliveOf A (q + 1)).length = (aliveOf A q).length := by
              by_cases h0 : a = 0
              · exact .inr ⟨by rw [h0]; rfl, by simp [h0], aliveOf_no HA.out h0⟩
              · exact .inl ⟨if_neg h0, by simpa using h0, aliveOf_yes HA.out h0⟩
            rcases herr with ⟨herr, hab, hcnt⟩ | ⟨herr, hab, hcnt⟩
            · have HCnt := Lib.hid hcnt
              clear hcnt
              as_aux_lemma =>
              have HErr := Lib.hid herr
              clear herr
              go_wp2_with fail
              refine Hget.out.mono ?_
              rintro e w3 ⟨he, T3⟩
              rw [HErr.out] at he
              subst he
              have V3 := HV2.out.trans T3
              obtain ⟨r7, r8⟩ := Hrd.out _ V3 q i g a HG.out HA.out
              clear T3
              go_wp2_with fail
              go_loopw [17] (fun v17 wr => ∃ r : Nat, r ≤ q ∧ v17 = .int .i64 r ∧ Turn [] w (l ++ ([(g7, .cells cur7 32)] ++ [(g8, .cells cur8 31)])) wr) (fun v17 _ => q - (intOf v17).toNat)
              case atStart => exact ⟨0, Nat.zero_le _, rfl, V3⟩
              case round =>
                clear V3 r7 r8
                obtain ⟨r, hr, rfl, V4⟩ := hrel
                obtain ⟨r7, r8⟩ := Hrd.out _ V4 q i g a HG.out HA.out
                by_cases hlt3 : r < q
                · have hlt3' : (r : Int) < (q : Int) := by omega
                  obtain ⟨i2, g2, a2, hG2, hA2, hne⟩ := Hne.out r hlt3
                  obtain ⟨s7, s8⟩ := Hrd.out _ V4 r i2 g2 a2 hG2 hA2
                  have hrG : (r : Int) < (G.length : Int) := by omega
                  clear hG2 hA2
                  go_wp2_with fail
                  go_quiet (fail)
                  go_wp2
                  go_roundw
                  case rel => exact ⟨r + 1, by omega, by go_num, V4.drewN _⟩
                  case measure => simp [intOf]; omega
                · have hlt3' : ¬ (r : Int) < (q : Int) := by omega
                  go_wp2
                  go_roundw
                  case rel => exact ⟨q + 1, by omega, by go_num, congrArg (Value.int .i64) (by have := HCnt.out; omega), V4⟩
                  case measure => simp [intOf]; omega
            · have HCnt := Lib.hid hcnt
              clear hcnt
              as_aux_lemma =>
              have HErr := Lib.hid herr
              clear herr
              go_wp2_with fail
              refine Hget.out.mono ?_
              rintro e w3 ⟨he, T3⟩
              rw [HErr.out] at he
              subst he
              have V3 := HV2.out.trans T3
              obtain ⟨r7, r8⟩ := Hrd.out _ V3 q i g a HG.out HA.out
              clear T3
              go_wp2_with fail
              go_loopw [17] (fun v17 wr => ∃ r : Nat, r ≤ q ∧ v17 = .int .i64 r ∧ Turn [] w (l ++ ([(g7, .cells cur7 32)] ++ [(g8, .cells cur8 31)])) wr) (fun v17 _ => q - (intOf v17).toNat)
              case atStart => exact ⟨0, Nat.zero_le _, rfl, V3⟩
              case round =>
                clear V3 r7 r8
                obtain ⟨r, hr, rfl, V4⟩ := hrel
                obtain ⟨r7, r8⟩ := Hrd.out _ V4 q i g a HG.out HA.out
                by_cases hlt3 : r < q
                · have hlt3' : (r : Int) < (q : Int) := by omega
                  obtain ⟨i2, g2, a2, hG2, hA2, hne⟩ := Hne.out r hlt3
                  obtain ⟨s7, s8⟩ := Hrd.out _ V4 r i2 g2 a2 hG2 hA2
                  have hrG : (r : Int) < (G.length : Int) := by omega
                  clear hG2 hA2
                  go_wp2_with fail
                  go_quiet (fail)
                  go_wp2
                  go_roundw
                  case rel => exact ⟨r + 1, by omega, by go_num, V4.drewN _⟩
                  case measure => simp [intOf]; omega
                · have hlt3' : ¬ (r : Int) < (q : Int) := by omega
                  go_wp2
                  go_roundw
                  case rel => exact ⟨q + 1, by omega, by go_num, congrArg (Value.int .i64) (by have := HCnt.out; omega), V4⟩
                  case measure => simp [intOf]; omega
          · have hqe : q = G.length := by omega
            subst hqe
            have hcnt := hF.count
            have hlen := hLen_any wr hS V.has
            rw [hcnt] at hlen
            have Hlen := Lib.hid hlen
            have HS := Lib.hid hS
            have HCnt := Lib.hid hcnt
            clear hlen hcnt hF hr7 hr8 hS
            go_wp2_with fail
            refine Hlen.out.mono ?_
            rintro e w2 ⟨rfl, T2⟩
            have V2 := V.trans T2
            clear T2
            go_wp2_with fail
            refine (hList_own w2 HS.out V2.has).mono ?_
            rintro e w3 ⟨ao, cap, l3, rfl, hr3, T3⟩
            have V3 := V2.trans T3
            rw [handsOf_length, HCnt.out]
            clear T3
            go_wp2_with fail
            refine (alive15 w3 (Has.nil w3)).mono ?_
            rintro e w4 ⟨rfl, T4⟩
            go_wp2
            go_ret
            exact ⟨rfl, (V3.sub (List.nil_sublist _)).trans T4⟩
end Go.Proofs.Ytinpkimflcmkgaa
