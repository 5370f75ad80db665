/- Contracts of package tflog: Next. -/
import Derived.Test.YtamlhndibcafgaaGreatDoorTflog3
import Derived.Test.YtamlhndibcafgaaGreatDoorNext0
import Derived.WalkMore
namespace Go.Proofs.YtamlhndibcafgaaGreatDoor
open Go.RowKit Go.MapKept

def OnReadPost (b : Nat) (L : Lg) (D : Dk) (s : List UInt8) (w : World) (e : Ending) (w' : World) : Prop :=
  e = .returned (.tuple #[.string ⟨s.toArray⟩, .int .i64 0]) ∧ LogOn w' b L D.read ∧ Upd (D.has L.bd) w w'
theorem on_Read (b : Nat) (L : Lg) (D : Dk) (w : World) (n : List UInt8) (f : Fl) (p k : Nat) (h : LogOn w b L D) (hd : D.down = false) (hf : D.find n = some f) (hpk : p + k ≤ f.data.length) :
    Calls Tryz.prog 129 #[.pointer (some ⟨L.bd, 0, none⟩), .string ⟨n.toArray⟩, .int .i64 p, .int .i64 k] w (OnReadPost b L D ((f.data.drop p).take k) w) := by
  refine (disk_Read L.bd D w n f p k h.disk hd hf hpk).mono ?_
  rintro e w' ⟨rfl, hD, hu⟩
  exact ⟨rfl, h.turn hu (fun k hk => .inl hk) hD (fun k hk => .inl hk), hu.mono (fun k _ hk => .inl hk)⟩
/-- The chunks' bytes lie in the files. -/
def Chunks (L : Lg) (D : Dk) (cs : List (List UInt8)) : Prop :=
  cs.length = L.sizes.length ∧ ∀ i s, cs[i]? = some s → L.sizes[i]? = some s.length ∧ prefB s (headL i) = true ∧ ∃ f, D.find (chunkL i) = some f ∧ f.data = s
theorem Chunks.rd {L : Lg} {D : Dk} {cs : List (List UInt8)} (h : Chunks L D cs) (r : Int) : Chunks L (D.rd r) cs := h
def NextPost (b : Nat) (L : Lg) (D : Dk) (r : Option (List UInt8 × Nat × Nat)) (w : World) (e : Ending) (w' : World) : Prop :=
  e = .returned (match r with
    | none => .tuple #[.string ⟨#[]⟩, .int .i64 0, .int .i64 0, .int .i64 4]
    | some (p, i, j) => .tuple #[.string ⟨p.toArray⟩, .int .i64 i, .int .i64 j, .int .i64 0]) ∧
  ∃ r, LogOn w' b L (D.rd r) ∧ Upd (Both b L D) w w'
theorem places_cell {w : World} {base : Nat} {v : Value} {l : List (Nat × Nat)} (h : w.ownsRow base 3 1 v l.length (l.map placeV)) (i : Nat) (hi : i < l.length) :
    ∃ g cap, v = .slice (some ⟨g, 0, none⟩) l.length cap ∧ w.cell? ⟨g, i, none⟩ = some (placeV l[i]) := by
  rcases h.2 with ⟨rfl, h0⟩ | ⟨g, cap, cur, rfl, hg, hh, r⟩
  · omega
  · refine ⟨g, cap, rfl, ?_⟩
    have := h.cellAt i (by omega)
    rw [this]
    simp [hi]
theorem max0 (n : Nat) : max (n : Int) 0 = n := by omega
set_option maxRecDepth 100000 in
set_option maxHeartbeats 2000000 in
theorem tflog_Next (b : Nat) (L : Lg) (D : Dk) (w : World) (cs : List (List UInt8)) (pos : Nat) (h : LogOn w b L D) (hl : L.live D) (hc : Chunks L D cs) (hp : pos ≤ 100000000) :
    Calls Tryz.prog 93 #[.pointer (some ⟨b, 0, none⟩), .int .i64 pos] w (NextPost b L D (nextL cs pos (cs.length - pos / 4096) (pos / 4096)) w) := by
  obtain ⟨a, cap, hsv⟩ := ownsRow_slice h.row
  have HRD := Lib.hid (tflog_ready b L D w h hl)
  have HL := Lib.hid h
  have HSV : Hid (∀ (w : World) (D : Dk), LogOn w b L D → w.cell? ⟨b, 3, none⟩ = some (.slice a L.sizes.length cap)) := Lib.hid (fun w D h => by rw [h.c3, hsv])
  have HC := Lib.hid hc
  have h200 := h.small.1
  have hdn := hl.2.1
  have HM := Lib.hid (max0 pos)
  obtain ⟨R, hR⟩ : ∃ R, nextL cs pos (cs.length - pos / 4096) (pos / 4096) = R := ⟨_, rfl⟩
  rw [hR]
  have HR := Lib.hid hR
  clear h hl hc hsv hR
  go_enter Tryz.func93, Tryz.ntmps93
  go_wp2_with fail
  go_step3
  go_wp2_with fail
  refine HRD.out.mono ?_
  rintro e w1 ⟨rfl, hd1⟩
  have HL1 := Lib.hid (HL.out.below hd1.below)
  have HB1 := Lib.hid hd1.below
  clear hd1
  have HLEN := Lib.hid HC.out.1
  have hdiv : ((pos : Int)).tdiv 4096 = ((pos / 4096 : Nat) : Int) := by rw [Int.tdiv_eq_ediv_of_nonneg (by omega)]; rfl
  have HM2 := HM.out
  go_wp2_with fail
  go_step3
  go_wp2_with fail
  go_loopw [9] (fun nv wr => ∃ (n : Nat) (k : Int), nv = .int .i64 n ∧ n ≤ 100000 ∧ nextL cs pos (cs.length - n) n = R ∧ LogOn wr b L (D.rd k) ∧ Upd (Both b L D) w wr) (fun nv _ => L.sizes.length - (intOf nv).toNat)
  case atStart => exact ⟨pos / 4096, D.reads, by go_num, by omega, HR.out, HL1.out, Upd.of_below HB1.out⟩
  case round =>
    obtain ⟨n, k, rfl, hn1, hR, hlg, hup⟩ := hrel
    have HR1 := Lib.hid hR
    have HLG := Lib.hid hlg
    have HUP := Lib.hid hup
    have c3 := HSV.out _ _ hlg
    clear hR hlg hup
    by_cases hlt : n < L.sizes.length
    · have hlc : n < cs.length := by have := HLEN.out; omega
      obtain ⟨hsz, hpre, f, hff, hfd⟩ := HC.out.2 n cs[n] (List.getElem?_eq_getElem hlc)
      obtain ⟨s, hs⟩ : ∃ s, cs[n] = s := ⟨_, rfl⟩
      rw [hs] at hsz hpre hfd
      have hget : cs[n]? = some s := by rw [List.getElem?_eq_getElem hlc, hs]
      have HGET := Lib.hid hget
      have HPRE := Lib.hid hpre
      have HFF := Lib.hid hff
      have HFD := Lib.hid hfd
      have hsl : s.length ≤ 1048576 := HLG.out.each _ (List.mem_of_getElem? hsz)
      obtain ⟨g, cap', hv, hcl⟩ := sizes_cell HLG.out.row n hlt
      have hsz' : L.sizes[n] = s.length := by rw [List.getElem?_eq_getElem hlt] at hsz; exact Option.some.inj hsz
      rw [hsz'] at hcl
      unfold intV at hcl
      have c0 := HLG.out.c0
      have c3' : wr.cell? ⟨b, 3, none⟩ = some (.slice (some ⟨g, 0, none⟩) L.sizes.length cap') := by rw [HLG.out.c3, hv]
      have HCL : Hid (∀ (w' : World) (D' : Dk), LogOn w' b L D' → w'.cell? ⟨b, 0, none⟩ = some (.pointer (some ⟨L.bd, 0, none⟩)) ∧ w'.cell? ⟨b, 3, none⟩ = some (.slice (some ⟨g, 0, none⟩) L.sizes.length cap') ∧ w'.cell? ⟨g, n, none⟩ = some (.int .i64 s.length)) := Lib.hid (fun w' D' h => by
        refine ⟨h.c0, by rw [h.c3, hv], ?_⟩
        obtain ⟨g2, cap2, hv2, hcl2⟩ := sizes_cell h.row n hlt
        rw [hv] at hv2
        cases hv2
        rw [hsz'] at hcl2
        exact hcl2)
      have hn0 : (0 : Int) ≤ n := by omega
      have hn2 : (n : Int) < L.sizes.length := by omega
      clear hlc hsz hpre hff hfd hs hget hv hsz' c3
      go_wp2_with fail
      go_region_held3 (fun w' => w'.cell? ⟨b, 0, none⟩ = some (.pointer (some ⟨L.bd, 0, none⟩)) ∧ w'.cell? ⟨b, 3, none⟩ = some (.slice (some ⟨g, 0, none⟩) L.sizes.length cap') ∧ w'.cell? ⟨g, n, none⟩ = some (.int .i64 s.length))
        (first | exact ⟨c0, c3', hcl⟩ | exact HCL.out _ _ (HLG.out.drew.below hb) | exact HCL.out _ _ hl3)
        ((first | (go_at_call 130; refine (names_Chunk n _ (by omega)).mono ?_; rintro e w' ⟨rfl, hb⟩)
                | (go_at_call 129; refine (on_Read b L (D.rd k) _ (chunkL n) f 0 s.length (HLG.out.drew.below hb) hdn HFF.out (by rw [HFD.out]; omega)).mono ?_; rintro e w3 ⟨rfl, hl3, hu3⟩)))
      have HTS := Lib.hid (show f.data.take s.length = s by rw [HFD.out, List.take_length])
      rw [HTS.out]
      have HL3 := Lib.hid hl3
      have HU3 := Lib.hid (((HUP.out.trans (Upd.of_below ((Below.refl _ _).drew.trans hb))).then hu3 (fun _ h => .inl (.inr h))) : Upd (Both b L D) w w3)
      rename_i hHeld
      clear hHeld hl3 hu3 hb c0 c3' hcl hn0 hn2
      go_wp2_with fail
      refine (chunks_Scan s n _ hsl (by omega) HPRE.out).mono ?_
      rintro e w4 ⟨v, rfl, hown, hb4⟩
      obtain ⟨a2, cap2, rfl⟩ := ownsRow_slice hown
      have HN0 := Lib.hid (show nextC s n pos = ((eachR s (s.length + 1) 12).find? fun x => decide (pos ≤ n * 4096 + x.1)).map fun x => (payAt s x.1, n * 4096 + x.1, n * 4096 + x.2) from rfl)
      have HMEM := Lib.hid (fun x (hx : x ∈ eachR s (s.length + 1) 12) => (⟨eachR_mem _ _ hx, eachR_le hx⟩ : getR s x.1 = some (payAt s x.1, x.2) ∧ x.1 + 12 ≤ x.2 ∧ x.2 ≤ s.length))
      have hyl := eachR_length s (s.length + 1) 12 (by have := prefB_len HPRE.out; rwa [headL_length] at this)
      generalize eachR s (s.length + 1) 12 = ys at *
      have hyl2 : ys.length ≤ 1048576 := by omega
      clear hyl
      have HL4 := Lib.hid (HL3.out.below hb4)
      have HU4 := Lib.hid (HU3.out.trans (Upd.of_below hb4))
      have HOWN := Lib.hid hown
      clear hown hb4
      go_wp2_with fail
      go_hide hQ
      go_loopw [72] (fun mv wr' => ∃ m : Nat, mv = .int .i64 m ∧ m ≤ ys.length ∧ (ys.take m).find? (fun x => decide (pos ≤ n * 4096 + x.1)) = none ∧ wr' = w4) (fun mv _ => ys.length - (intOf mv).toNat)
      case atStart => exact ⟨0, rfl, by omega, rfl, rfl⟩
      case round =>
        obtain ⟨m, rfl, hm, hfind, rfl⟩ := hrel
        have HFIND := Lib.hid hfind
        clear hfind
        by_cases hml : m < ys.length
        · obtain ⟨g2, cap3, hv2, hcx⟩ := places_cell HOWN.out m hml
          obtain ⟨rfl, -, rfl⟩ : a2 = some ⟨g2, 0, none⟩ ∧ True ∧ cap2 = cap3 := by simpa using hv2
          obtain ⟨hgx, hx1, hx2⟩ := HMEM.out _ (List.getElem_mem (l := ys) (n := m) hml)
          obtain ⟨x, hx⟩ : ∃ x, ys[m] = x := ⟨_, rfl⟩
          have HX := Lib.hid hx
          rw [hx] at hcx hgx hx1 hx2
          unfold placeV at hcx
          have HGX := Lib.hid hgx
          have hm0 : (0 : Int) ≤ m := by omega
          have hm2 : (m : Int) < ys.length := by omega
          clear hv2 hx hgx
          by_cases hq : pos ≤ n * 4096 + x.1
          · have HFD2 := Lib.hid (find_take_some HFIND.out hml (by rw [HX.out]; exact decide_eq_true hq))
            have hq2 : (pos : Int) ≤ (n : Int) * 4096 + x.1 := by omega
            go_wp2_with fail
            refine (records_Get s x.1 wr (by omega) (by omega)).mono ?_
            intro e w5 hpost
            obtain ⟨rfl, hb5⟩ := getRPost_some hpost HGX.out
            have HL5 := Lib.hid (HL4.out.below hb5)
            have HU5 := Lib.hid (HU4.out.trans (Upd.of_below hb5))
            clear hpost hb5
            go_wp2_with fail
            subst hQ
            have HSOME := Lib.hid (show R = some (payAt s x.1, n * 4096 + x.1, n * 4096 + x.2) by
              have h1 := HR1.out
              have h2 := HLEN.out
              rw [show cs.length - n = cs.length - (n + 1) + 1 by omega, nextL_some HGET.out (by rw [HN0.out, HFD2.out, HX.out]; rfl)] at h1
              exact h1.symm)
            go_wp2_with fail
            rw [Exit.noGoto_ret]
            exact bodyPost_ret (v := .tuple #[.string ⟨(payAt s x.1).toArray⟩, .int .i64 (n * 4096 + x.1), .int .i64 (n * 4096 + x.2), .int .i64 0]) (by simp [results, Tryz.f93, go_sem]) rfl
              ⟨by rw [HSOME.out]; simp, _, HL5.out, HU5.out⟩
          · have HFN := Lib.hid (find_take_none HFIND.out hml (by rw [HX.out]; exact decide_eq_false hq))
            have hq2 : (n : Int) * 4096 + x.1 < pos := by omega
            go_wp2_with fail
            go_roundw
            case rel => exact ⟨m + 1, by go_num, by omega, HFN.out, by trivial⟩
            case measure => simp [intOf]; omega
        · go_wp2_with fail
          subst hQ
          have HNN := Lib.hid (show nextC s n pos = none by rw [HN0.out, find_take_all HFIND.out (by omega)]; rfl)
          have HR2 := Lib.hid (show nextL cs pos (cs.length - (n + 1)) (n + 1) = R by
            have h1 := HR1.out
            have h2 := HLEN.out
            rwa [show cs.length - n = cs.length - (n + 1) + 1 by omega, nextL_none HGET.out HNN.out] at h1)
          go_wp2_with fail
          go_roundw
          case rel => exact ⟨n + 1, wrap64 (k + 1), by go_num, by omega, HR2.out, HL4.out, HU4.out⟩
          case measure => simp [intOf]; omega
    · go_wp2_with fail
      have hz : cs.length - n = 0 := by have := HLEN.out; omega
      have hRn := HR1.out
      rw [hz, nextL] at hRn
      rw [Exit.noGoto_ret]
      exact bodyPost_ret (v := .tuple #[.string ⟨#[]⟩, .int .i64 0, .int .i64 0, .int .i64 4]) (by simp [results, Tryz.f93, go_sem]) rfl ⟨by rw [← hRn], k, HLG.out, HUP.out⟩
end Go.Proofs.YtamlhndibcafgaaGreatDoor
