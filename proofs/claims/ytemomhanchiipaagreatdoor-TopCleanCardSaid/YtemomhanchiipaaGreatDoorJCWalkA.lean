/- What utf.Clean computes, and its walk. -/
import Derived.Test.YtemomhanchiipaaGreatDoorGn
import Derived.Test.YtemomhanchiipaaGreatDoorGl
import Derived.Test.YtemomhanchiipaaGreatDoorGk
namespace Go.Proofs.YtemomhanchiipaaGreatDoor
open Go Go.RowKit

/-- Does a line's end follow? -/
def nextLF (s : ByteArray) (pos : Nat) : Bool := match (lst s)[pos + 1]? with
  | some c => c == 10
  | none => false
/-- What becomes of the letter at a place. -/
def clB (s : ByteArray) (pos : Nat) : Bytes :=
  if (Utf8.decode s pos).1 = 0 then Lib.encodeRune 65533
  else if (Utf8.decode s pos).1 = 13 then (if nextLF s pos then [] else Lib.encodeRune 10)
  else Lib.encodeRune (Utf8.decode s pos).1
def clF (s : ByteArray) : Nat → Nat → Bytes
  | 0, _ => []
  | f + 1, pos => if pos < s.size then clB s pos ++ clF s f (pos + (Utf8.decode s pos).2) else []
def cleanM (s : ByteArray) : Bytes := clF s s.size 0
theorem width_pos (s : ByteArray) (pos : Nat) (h : pos < s.size) : 1 ≤ (Utf8.decode s pos).2 := by
  by_cases ha : (s[pos]'h).toNat < 128
  · rw [decode_ascii s pos h ha]
    exact Nat.le_refl _
  · exact (decode_high s pos h (by omega)).2
theorem clF_end (s : ByteArray) (f pos : Nat) (h : ¬ pos < s.size) : clF s f pos = [] := by
  cases f with
  | zero => rfl
  | succ f => simp [clF, h]
theorem clB_len (s : ByteArray) (pos : Nat) : (clB s pos).length ≤ 4 := by
  unfold clB
  split
  · exact encodeRune_le _
  · split
    · split
      · simp
      · exact encodeRune_le _
    · exact encodeRune_le _
theorem escM_high : ∀ l : Bytes, (∀ c ∈ l, 128 ≤ c.toNat) → escM false l = l
  | [], _ => rfl
  | c :: l, h => by
    have hc := h c (by simp)
    have hne : ∀ n : UInt8, n.toNat < 128 → c ≠ n := fun n hn e => by rw [e] at hc; omega
    rw [escM, escM_high l fun x hx => h x (by simp [hx])]
    unfold escB
    rw [if_neg (hne 38 (by decide)), if_neg (hne 60 (by decide)), if_neg (hne 62 (by decide)), if_neg (fun e => hne 34 (by decide) e.1)]
    rfl
theorem enc_low (r : Nat) (h : r < 128) : (Lib.encodeRune (r : Int)).length = 1 := by
  unfold Lib.encodeRune
  rw [Lib.encodeRuneZ_one (by omega) (by omega)]; rfl
theorem toU8_ge (x : Int) (h0 : 128 ≤ x) (h1 : x ≤ 255) : 128 ≤ x.toNat.toUInt8.toNat := by
  have : x.toNat < 256 := by omega
  rw [Nat.toUInt8_eq, UInt8.toNat_ofNat']
  omega
theorem enc_high (r : Int) (h : 128 ≤ r) : ∀ c ∈ Lib.encodeRune r, 128 ≤ c.toNat := by
  intro c hc
  unfold Lib.encodeRune at hc
  obtain ⟨x, hx, rfl⟩ := List.mem_map.1 hc
  have hx2 : 128 ≤ x ∧ x ≤ 255 := by
    by_cases h1 : r ≤ 2047
    · rw [Lib.encodeRuneZ_two h h1] at hx
      simp at hx
      omega
    · by_cases h2 : (2048 ≤ r ∧ r < 55296) ∨ (57343 < r ∧ r ≤ 65535)
      · rw [Lib.encodeRuneZ_three h2] at hx
        simp at hx
        omega
      · by_cases h3 : 65536 ≤ r ∧ r ≤ 1114111
        · rw [Lib.encodeRuneZ_four h3.1 h3.2] at hx
          simp at hx
          omega
        · rw [Lib.encodeRuneZ_bad (by omega)] at hx
          simp at hx
          omega
  exact toU8_ge x hx2.1 hx2.2
theorem esc_rune (r : Nat) : (escM false (Lib.encodeRune (r : Int))).length ≤ 5 := by
  by_cases h : r < 128
  · have h1 := enc_low r h
    have h2 := (escM_len false (Lib.encodeRune (r : Int))).2.2 rfl
    omega
  · rw [escM_high _ (enc_high r (by omega))]
    have := encodeRune_le (r : Int)
    omega
theorem esc_clB (s : ByteArray) (pos : Nat) : (escM false (clB s pos)).length ≤ 5 := by
  unfold clB
  split
  · exact esc_rune 65533
  · split
    · split
      · simp [escM]
      · exact esc_rune 10
    · exact esc_rune _
theorem esc_clF (s : ByteArray) : ∀ (f pos : Nat), (escM false (clF s f pos)).length ≤ 5 * (s.size - pos)
  | 0, _ => by simp [clF, escM]
  | f + 1, pos => by
    rw [clF]
    split
    · rename_i h
      have h1 := esc_clB s pos
      have h2 := esc_clF s f (pos + (Utf8.decode s pos).2)
      have h3 := width_pos s pos h
      rw [escM_append, List.length_append]; omega
    · simp [escM]
theorem enc_ne (x : Int) : Lib.encodeRune x ≠ [] := encodeRune_ne x
theorem clF_ne (s : ByteArray) : ∀ (f pos : Nat), pos < s.size → s.size ≤ pos + f → clF s f pos ≠ []
  | 0, _, h, h2 => by omega
  | f + 1, pos, h, h2 => by
    rw [clF, if_pos h]
    intro he
    obtain ⟨h3, h4⟩ := List.append_eq_nil_iff.1 he
    unfold clB at h3
    split at h3
    · exact enc_ne _ h3
    · split at h3
      · rename_i h13
        split at h3
        · rename_i hlf
          have hw : (Utf8.decode s pos).2 = 1 := by
            have hd := decode_byte s pos h
            rcases Nat.lt_or_ge (s[pos]'h).toNat 128 with hb | hb
            · rw [hd.1 hb]
            · have := hd.2 hb; omega
          have hp1 : pos + 1 < s.size := by
            unfold nextLF at hlf
            split at hlf
            · rename_i c hc
              have := (List.getElem?_eq_some_iff.1 hc).1
              rw [lst_length] at this
              exact this
            · cases hlf
          rw [hw] at h4
          exact clF_ne s f (pos + 1) hp1 (by omega) h4
        · exact enc_ne _ h3
      · exact enc_ne _ h3
theorem clean_ne (s : ByteArray) (h : 0 < s.size) : cleanM s ≠ [] := clF_ne s s.size 0 h (by omega)
theorem clean_esc (s : ByteArray) : (escM false (cleanM s)).length ≤ 5 * s.size := by
  have := esc_clF s s.size 0
  unfold cleanM; omega

theorem ownF_iter {w : World} {B e n : Nat} {v : Value} {xs : List Value} {k : Nat} (h : w.ownsRowF B e 1 v n xs) (hk : k < B) (s : ByteArray) (pos' : Nat) : (w.iterAt k s pos').ownsRowF B e 1 v n xs := by
  refine ⟨h.1, ?_⟩
  rcases h.2 with h0 | ⟨g, cap, cur, fz, hv, hb, hg, rest⟩
  · exact .inl h0
  · exact .inr ⟨g, cap, cur, fz, hv, hb, by rw [Lib.iterAt_other w k g s pos' (by omega)]; exact hg, rest⟩
theorem iter_grown {w w' : World} {B e n : Nat} {v : Value} {xs : List Value} {k : Nat} {o : Obj} {x : Obj} (h : w.ownsRowF B e 1 v n xs) (hk : k < B) (hit : w.heap[k]? = some x) (hg : (w.alloc o).grownBy w' v.ownBlock) : w'.heap[k]? = some x := by
  have hlt : k < w.heap.size := (Array.getElem?_eq_some_iff.1 hit).1
  have hne : some k ≠ v.ownBlock := by
    intro e1
    have := (h.lt k e1.symm).1
    omega
  have := hg.block k (by simp; omega) hne
  rw [this]
  rw [← hit]
  exact (MapKept.heap_alloc w o).2 k hlt
theorem below_grown {w0 w w' : World} {B e n : Nat} {v : Value} {xs : List Value} {C : Nat} {o : Obj} (hC : C ≤ B) (hCw : C ≤ w.heap.size) (hb : Below C w0 w) (h : w.ownsRowF B e 1 v n xs) (hg : (w.alloc o).grownBy w' v.ownBlock) : Below C w0 w' := by
  refine (hb.alloc hCw o).grown hg (by simp; omega) fun k hk => ?_
  have := (h.lt k hk).1
  omega
theorem rune_max (s : ByteArray) (pos : Nat) : (Utf8.decode s pos).1 ≤ 2147483647 := decode_le s pos

set_option maxHeartbeats 4000000 in
set_option maxRecDepth 100000 in
theorem clean_any (s : ByteArray) (w : World) (hs : s.size ≤ 1000000) :
    Calls Tryz.prog 11 #[.string s] w fun e w' => e = .returned (.string (mk (cleanM s))) ∧ Below w.heap.size w w' := by
  go_enter Tryz.func11, Tryz.ntmps11
  go_wp2
  go_loopw [3] (fun v wr => ∃ (pos fuel : Nat) (acc : Bytes), Hid (wr.ownsRowF (w.heap.size + 1) 5 1 v acc.length (Lib.byteCells acc)) ∧ wr.heap[w.heap.size]? = some (.stringIter s pos) ∧ Hid (Below w.heap.size w wr) ∧ Hid (acc ++ clF s fuel pos = cleanM s) ∧ s.size ≤ pos + fuel ∧ acc.length ≤ 4 * pos) (fun _ wr => s.size - wr.iterPos w.heap.size)
  case atStart =>
    refine ⟨0, s.size, [], Lib.hid (World.ownsRowF_nil _ _ _ _), ?_, Lib.hid ((Below.refl _ w).alloc (Nat.le_refl _) _), Lib.hid rfl, by omega, by simp⟩
    exact World.iter_heap w s 0
  case round =>
    obtain ⟨pos, fuel, acc, hO, hit, hB, hacc, hfu, hal⟩ := hrel
    have hsz : w.heap.size < wr.heap.size := (Array.getElem?_eq_some_iff.1 hit).1
    by_cases hp : pos < s.size
    · have hnx : ∀ ty, (Instr.next (.pointer (some ⟨w.heap.size, 0, none⟩)) true ty).run Tryz.prog wr = _ := fun ty => Lib.run_next_any_at wr w.heap.size s pos ty hit hp
      have hwd := width_pos s pos hp
      have hd1 := rune_max s pos
      obtain ⟨f, rfl⟩ : ∃ f, fuel = f + 1 := ⟨fuel - 1, by omega⟩
      have hacc2 : acc ++ (clB s pos ++ clF s f (pos + (Utf8.decode s pos).2)) = cleanM s := by
        have := hacc.out
        rwa [clF, if_pos hp] at this
      clear hacc
      have hO2 := ownF_iter hO.out (Nat.lt_succ_self _) s (pos + (Utf8.decode s pos).2)
      have hit2 := Lib.iterAt_heap wr w.heap.size s pos (pos + (Utf8.decode s pos).2) hit
      have hB2 := Lib.below_iterAt hB.out (k := w.heap.size) (Nat.le_refl _) s (pos + (Utf8.decode s pos).2)
      have hsz2 : w.heap.size < (wr.iterAt w.heap.size s (pos + (Utf8.decode s pos).2)).heap.size := by rw [Lib.iterAt_size]; exact hsz
      have hcl : clB s pos = if (Utf8.decode s pos).1 = 0 then Lib.encodeRune 65533 else if (Utf8.decode s pos).1 = 13 then (if nextLF s pos then [] else Lib.encodeRune 10) else Lib.encodeRune (Utf8.decode s pos).1 := rfl
      obtain ⟨R, hR⟩ : ∃ R, (Utf8.decode s pos).1 = R := ⟨_, rfl⟩
      obtain ⟨K, hK⟩ : ∃ K, (Utf8.decode s pos).2 = K := ⟨_, rfl⟩
      rw [hR] at hcl hd1
      rw [hR, hK] at hnx
      rw [hK] at hwd hacc2 hO2 hit2 hB2 hsz2
      obtain ⟨W, hW⟩ : ∃ W, wr.iterAt w.heap.size s (pos + K) = W := ⟨_, rfl⟩
      rw [hW] at hnx hO2 hit2 hB2 hsz2
      have hipr : wr.iterPos w.heap.size = pos := by simp only [World.iterPos, hit]
      have key : ∀ (r : Int) (hr0 : -2147483648 ≤ r) (hr1 : r ≤ 2147483647) (hcb : clB s pos = Lib.encodeRune r) (e : Exit) (w' : World) (v' : Value), w'.ownsRowF (w.heap.size + 1) 5 1 v' (acc.length + (Lib.runeCells r).length) (Lib.byteCells acc ++ Lib.runeCells r) → (∃ o, (W.alloc o).grownBy w' u3.ownBlock) → ∃ (pos' fuel : Nat) (acc : Bytes), Hid (w'.ownsRowF (w.heap.size + 1) 5 1 v' acc.length (Lib.byteCells acc)) ∧ w'.heap[w.heap.size]? = some (.stringIter s pos') ∧ Hid (Below w.heap.size w w') ∧ Hid (acc ++ clF s fuel pos' = cleanM s) ∧ s.size ≤ pos' + fuel ∧ acc.length ≤ 4 * pos' ∧ s.size - w'.iterPos w.heap.size < s.size - pos := by
        intro r hr0 hr1 hcb e w' v' ho ⟨o, hg⟩
        have hit3 := iter_grown hO2 (Nat.lt_succ_self _) hit2 hg
        have hl4 := Lib.runeCells_le r
        rw [Lib.runeCells_length] at hl4
        refine ⟨pos + K, f, acc ++ Lib.encodeRune r, Lib.hid ?_, hit3, Lib.hid (below_grown (Nat.le_succ _) (Nat.le_of_lt hsz2) hB2 hO2 hg), Lib.hid ?_, by omega, by simp; omega, ?_⟩
        · rw [Lib.byteCells_append, Lib.byteCells_encodeRune, List.length_append, ← Lib.runeCells_length]; exact ho
        · rw [← hacc2, hcb]; simp
        · simp only [World.iterPos, hit3]; omega
      have Hkey := Lib.hid key; clear key
      have HO2 := Lib.hid hO2; clear hO2
      have HB2 := Lib.hid hB2; clear hB2
      have Hacc := Lib.hid hacc2; clear hacc2
      have Hcl := Lib.hid hcl; clear hcl
      by_cases h0 : R = 0
      · have hcb : clB s pos = Lib.encodeRune 65533 := by rw [Hcl.out, if_pos h0]
        have Hcb := Lib.hid hcb; clear hcb
        subst h0
        go_wp2_with fail
        refine (Tryz.utf8_AppendRune_row (w.heap.size + 1) u3 acc.length _ 65533 (by omega) (by omega) W HO2.out (by omega) (by omega)).mono ?_
        rintro e w' ⟨v', rfl, ho, hg⟩
        obtain ⟨pos', fuel', acc', i1, i2, i3, i4, i5, i6, i7⟩ := Hkey.out 65533 (by omega) (by omega) Hcb.out .normal w' v' ho hg
        clear ho hg
        go_wp2
        go_roundw
        case rel => exact ⟨pos', fuel', acc', i1, i2, i3, i4, i5, i6⟩
        case measure => rw [hipr]; exact i7
      · by_cases h13 : R = 13
        · subst h13
          by_cases hps : pos + 1 < s.size
          · have hnl : nextLF s pos = ((s[pos + 1]'hps) == 10) := by
              unfold nextLF
              rw [lst_get s (pos + 1) hps]
            by_cases hlf : ((s[pos + 1]'hps).toNat : Int) = 10
            · have hcb : clB s pos = [] := by
                rw [Hcl.out, if_neg h0, if_pos rfl, hnl, if_pos]
                have : (s[pos + 1]'hps).toNat = 10 := by omega
                rw [beq_iff_eq, ← UInt8.toNat_inj, this]; rfl
              have hlb : (((s[pos + 1]'hps).toNat : Int) == 10) = true := by simp [hlf]
              have hwr : IntKind.i64.wrap ((pos : Int) + 1) = pos + 1 := wrap_small _ (by omega) (by omega)
              have hipW : W.iterPos w.heap.size = pos + K := by simp only [World.iterPos, hit2]
              rw [hcb, List.nil_append] at Hacc
              have Hcb := Lib.hid hcb; clear hcb
              go_wp2
              go_roundw
              case rel => exact ⟨pos + K, f, acc, HO2, hit2, HB2, Hacc, by omega, by omega⟩
              case measure => rw [hipr, hipW]; omega
            · have hcb : clB s pos = Lib.encodeRune 10 := by
                rw [Hcl.out, if_neg h0, if_pos rfl, hnl, if_neg]
                intro hx
                have := congrArg UInt8.toNat (beq_iff_eq.1 hx)
                apply hlf; rw [this]; rfl
              have hlb : (((s[pos + 1]'hps).toNat : Int) == 10) = false := by simp [hlf]
              have Hcb := Lib.hid hcb; clear hcb
              go_wp2_with fail
              refine (Tryz.utf8_AppendRune_row (w.heap.size + 1) u3 acc.length _ 10 (by omega) (by omega) W HO2.out (by omega) (by omega)).mono ?_
              rintro e w' ⟨v', rfl, ho, hg⟩
              obtain ⟨pos', fuel', acc', i1, i2, i3, i4, i5, i6, i7⟩ := Hkey.out 10 (by omega) (by omega) Hcb.out .normal w' v' ho hg
              clear ho hg
              go_wp2
              go_roundw
              case rel => exact ⟨pos', fuel', acc', i1, i2, i3, i4, i5, i6⟩
              case measure => rw [hipr]; exact i7
          · have hcb : clB s pos = Lib.encodeRune 10 := by
              rw [Hcl.out, if_neg h0, if_pos rfl, if_neg]
              unfold nextLF
              rw [List.getElem?_eq_none (by rw [lst_length]; omega)]
              simp
            have Hcb := Lib.hid hcb; clear hcb
            go_wp2_with fail
            refine (Tryz.utf8_AppendRune_row (w.heap.size + 1) u3 acc.length _ 10 (by omega) (by omega) W HO2.out (by omega) (by omega)).mono ?_
            rintro e w' ⟨v', rfl, ho, hg⟩
            obtain ⟨pos', fuel', acc', i1, i2, i3, i4, i5, i6, i7⟩ := Hkey.out 10 (by omega) (by omega) Hcb.out .normal w' v' ho hg
            clear ho hg
            go_wp2
            go_roundw
            case rel => exact ⟨pos', fuel', acc', i1, i2, i3, i4, i5, i6⟩
            case measure => rw [hipr]; exact i7
        · have hcb : clB s pos = Lib.encodeRune (R : Int) := by rw [Hcl.out, if_neg h0, if_neg h13]
          have Hcb := Lib.hid hcb; clear hcb
          have h0b : (((R : Int)) == 0) = false := by simp; omega
          have h13b : (((R : Int)) == 13) = false := by simp; omega
          go_wp2_with fail
          refine (Tryz.utf8_AppendRune_row (w.heap.size + 1) u3 acc.length _ (R : Int) (by omega) (by omega) W HO2.out (by omega) (by omega)).mono ?_
          rintro e w' ⟨v', rfl, ho, hg⟩
          obtain ⟨pos', fuel', acc', i1, i2, i3, i4, i5, i6, i7⟩ := Hkey.out (R : Int) (by omega) (by omega) Hcb.out .normal w' v' ho hg
          clear ho hg
          go_wp2
          go_roundw
          case rel => exact ⟨pos', fuel', acc', i1, i2, i3, i4, i5, i6⟩
          case measure => rw [hipr]; exact i7
    · have hnx : ∀ ty, (Instr.next (.pointer (some ⟨w.heap.size, 0, none⟩)) true ty).run Tryz.prog wr = _ := fun ty => Lib.run_next_end_at wr w.heap.size s pos ty hit hp
      have hce : acc = cleanM s := by
        have := hacc.out
        rwa [clF_end s fuel pos hp, List.append_nil] at this
      have Hce := Lib.hid hce; clear hce
      rcases hO.out.2 with ⟨rfl, hn0⟩ | ⟨g, cap, cur, fz, rfl, hb, hg, hfz, hnc, hcm, hcs, htk⟩
      · have : acc = [] := List.eq_nil_of_length_eq_zero hn0
        have hconv : (convert 61 9 (.slice none 0 0)).run Tryz.prog wr = .ok (.string (mk [])) wr := by
          rw [run_convert_bytes_string wr 61 9 5 none 0 0 Tryz.underlying61 Tryz.underlying5 Tryz.underlying9]
          rfl
        go_wp2
        go_ret
        exact ⟨by rw [← Hce.out, this]; rfl, hB.out⟩
      · have hconv := conv_bytes (P := Tryz.prog) wr 61 9 5 ⟨g, 0, none⟩ acc.length cap acc Tryz.underlying61 Tryz.underlying5 Tryz.underlying9 rfl (by
          intro j hj
          have := hO.out.cells (g := g) rfl j (.int .u8 (acc.getD j 0).toNat) (by
            simp [Lib.byteCells, List.getD, hj])
          exact this)
        clear hg htk hcs hO
        go_wp2
        go_ret
        exact ⟨by rw [← Hce.out]; rfl, hB.out⟩

end Go.Proofs.YtemomhanchiipaaGreatDoor
